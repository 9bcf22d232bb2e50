/- The document's examples of layer 7 (lives): what they come to, and the walk. -/
import Derived.Test.YtlcenkkfcejnbaaGreatDoorWalOpen0
import Derived.Test.YtlcenkkfcejnbaaGreatDoorWalAppend
namespace Go.Proofs.YtlcenkkfcejnbaaGreatDoor
open Go.RowKit
namespace Lives
open Wal
open Codec (Cell CellsAt cellV)
open Disk (DS Owns Moves ptr Plan)
def atC (n : Int) : Cell := ⟨[116], [120], n, [], n, false, 0, 0, 0, []⟩
theorem at_fits (n : Int) (h : -1000 ≤ n ∧ n ≤ 1000) : (atC n).Fits := ⟨⟨by show _ ≤ n; omega, by show n ≤ _; omega⟩, ⟨by show _ ≤ n; omega, by show n ≤ _; omega⟩, ⟨by show _ ≤ (0 : Int); decide, by show (0 : Int) ≤ _; decide⟩, ⟨by show _ ≤ (0 : Int); decide, by show (0 : Int) ≤ _; decide⟩, ⟨by show _ ≤ (0 : Int); decide, by show (0 : Int) ≤ _; decide⟩⟩
def s1 : LS := ((⟨0, false, Disk.mk 1000⟩ : LS).begin 1).2
def s2 : LS := (s1.append [atC 1]).2
def s3 : LS := (s2.append [atC 2]).2
def s4 : LS := s3.roll.2.2
def s5 : LS := (s4.retire 2).2
theorem t0 : wname 1 = [108, 111, 103, 45, 49] := by decide +kernel
theorem t1 : ((⟨0, false, Disk.mk 1000⟩ : LS).begin 1).1 = 0 := by decide +kernel
theorem t2 : (s1.append [atC 1]).1 = 0 := by decide +kernel
theorem t3 : (s2.append [atC 2]).1 = 0 := by decide +kernel
theorem t4 : s3.roll.1 = 2 ∧ s3.roll.2.1 = 0 := by decide +kernel
theorem sort_of {l : List Bytes} (h : l.Pairwise fun x y => decide (x ≤ y) = true) : (l.mergeSort fun x y => decide (x ≤ y)) = l := List.mergeSort_of_pairwise h
theorem rise_of {l : List Int} (h : l.Pairwise fun x y => decide (x ≤ y) = true) : rise l = l := List.mergeSort_of_pairwise h
theorem n4 : s4.σ.files.map (·.name) = [[108, 111, 103, 45, 49], [108, 111, 103, 45, 50]] := by decide +kernel
theorem l4 : s4.σ.list = [[108, 111, 103, 45, 49], [108, 111, 103, 45, 50]] := by
  unfold Disk.DS.list
  rw [n4]; exact sort_of (by decide +kernel)
theorem m4 : numbersOf s4.σ = [1, 2] := by
  unfold numbersOf
  rw [l4]
  have : ([[108, 111, 103, 45, 49], [108, 111, 103, 45, 50]] : List Bytes).filterMap numberOf = [1, 2] := by decide +kernel
  rw [this]; exact rise_of (by decide +kernel)
theorem e4 : s4.retire 2 = s4.retireF 2 [1, 2] := by
  unfold LS.retire
  rw [m4, if_neg (by decide +kernel)]
theorem t5 : (s4.retire 2).1 = 0 := by rw [e4]; decide +kernel
theorem n5 : s5.σ.files.map (·.name) = [[108, 111, 103, 45, 50]] ∧ s5.σ.dark = false := by unfold s5; rw [e4]; decide +kernel
theorem t6 : s5.σ.list = [[108, 111, 103, 45, 50]] ∧ s5.σ.dark = false := by
  refine ⟨?_, n5.2⟩
  unfold Disk.DS.list
  rw [n5.1]; exact sort_of (by decide +kernel)
theorem g1 : Cells.cgood (atC 1) = true := by decide +kernel
theorem fair1 : Wal.Fair [atC 1] := ⟨fun c hc => by obtain rfl := List.mem_singleton.1 hc; exact at_fits 1 (by decide), by unfold maxLen; decide, fun _ _ => by decide +kernel⟩
theorem fair2 : Wal.Fair [atC 2] := ⟨fun c hc => by obtain rfl := List.mem_singleton.1 hc; exact at_fits 2 (by decide), by unfold maxLen; decide, fun _ _ => by decide +kernel⟩

set_option maxHeartbeats 400000 in
theorem At_calls (n : Int) (w : World) : Calls Tryz.prog 27 #[.int .i64 n] w fun e w' => e = .returned (.agg (cellV (atC n)).toArray) ∧ Below w.heap.size w w' := by
  go_enter Tryz.func27, Tryz.ntmps27
  go_wp2_with fail
  refine bodyPost_ret (v := .agg (cellV (atC n)).toArray) ?_ rfl ⟨rfl, (Below.refl _ _).alloc (Nat.le_refl _) _⟩
  simp [results, Tryz.results27, go_sem, cellV, atC]

theorem one_cell (w : World) (c : Cell) : CellsAt (w.alloc (.cells (cellV c).toArray 71)) (.slice (some ⟨w.heap.size, 0, none⟩) 1 1) [c] := by
  refine .inr ⟨w.heap.size, 0, 1, rfl, by simp, by simp, fun i hi j x hj => ?_⟩
  obtain rfl : i = 0 := by simp at hi; exact hi
  rw [cell_of (heap_alloc_new w _)]
  simpa using hj

set_option maxHeartbeats 400000 in
theorem Texts_same (va vb : Value) (ss : List ByteArray) (w : World) (ha : Disk.Texts w va ss) (hb : Disk.Texts w vb ss) (hl : ss.length ≤ 1000) :
    Calls Tryz.prog 28 #[va, vb] w fun e w' => e = .returned (.bool true) ∧ Below w.heap.size w w' := by
  have hn : ∀ k, (hk : k < ss.length) → ∃ b off cap b' off' cap', va = .slice (some ⟨b, off, none⟩) ss.length cap ∧ vb = .slice (some ⟨b', off', none⟩) ss.length cap' ∧ w.cell? ⟨b, off + k, none⟩ = some (.string ss[k]) ∧ w.cell? ⟨b', off' + k, none⟩ = some (.string ss[k]) ∧ b < w.heap.size ∧ b' < w.heap.size := fun k hk => by
    rcases ha with ⟨_, h⟩ | ⟨b, off, cap, h1, h2, _, h3⟩
    · rw [h] at hk; cases hk
    · rcases hb with ⟨_, h⟩ | ⟨b', off', cap', h1', h2', _, h3'⟩
      · rw [h] at hk; cases hk
      · exact ⟨b, off, cap, b', off', cap', h1, h1', h3 k hk, h3' k hk, h2, h2'⟩
  have HN := Lib.hid hn
  have form : ∀ {v : Value}, Disk.Texts w v ss → ∃ a c, v = .slice a ss.length c := fun {v} h => by
    rcases h with ⟨h1, h2⟩ | ⟨b, off, cap, h1, _⟩
    · exact ⟨none, 0, by rw [h1, h2]; rfl⟩
    · exact ⟨_, _, h1⟩
  obtain ⟨aa, ac, rfl⟩ := form ha
  obtain ⟨ba, bc, rfl⟩ := form hb
  clear hn form ha hb
  go_enter Tryz.func28, Tryz.ntmps28
  go_wp2_with fail
  go_loopw [5, 13] (fun _ i wx => ∃ k : Nat, i = .int .i64 k ∧ k ≤ ss.length ∧ ∃ n, wx = w.drewN n) (fun _ i _ => ss.length - (intOf i).toNat)
  case atStart => exact ⟨0, rfl, Nat.zero_le _, 0, rfl⟩
  case round =>
    obtain ⟨k, rfl, hk, n, rfl⟩ := hrel
    by_cases hlt : k < ss.length
    · obtain ⟨b, off, cap, b', off', cap', h1, h2, c1, c2, hlb, hlb'⟩ := HN.out k hlt
      simp only [Value.slice.injEq] at h1 h2
      obtain ⟨rfl, _, rfl⟩ := h1
      obtain ⟨rfl, _, rfl⟩ := h2
      generalize ss[k] = x at c1 c2
      have i1 : (0 : Int) ≤ (k : Int) := by omega
      have i2 : (k : Int) < (ss.length : Int) := by omega
      go_wp2_with fail
      go_quiet (fail)
      go_wp2_with fail
      go_roundw
      case rel => exact ⟨k + 1, by go_num, by omega, _, rfl⟩
      case measure => simp [intOf]; omega
    · have hke : k = ss.length := by omega
      subst hke
      go_wp2_with fail
      go_ret
      exact ⟨rfl, bdrewN _ (Below.refl _ _)⟩

set_option maxHeartbeats 400000 in
theorem Norm_nil (w : World) : Calls Tryz.prog 21 #[.slice none 0 0] w fun e w' => e = .returned (.slice none 0 0) ∧ w = w' := by
  go_enter Tryz.func21, Tryz.ntmps21
  go_wp2_with fail
  go_loop [3, 5, 8] (fun o _ i => o = .slice none 0 0 ∧ i = .int .i64 0) (fun _ _ _ => 0)
  case atStart => exact ⟨rfl, rfl⟩
  case round =>
    obtain ⟨rfl, rfl⟩ := hrel
    go_wp2_with fail
    go_ret
    exact ⟨rfl, rfl⟩

theorem wf_mk : Plan (Disk.mk 1000) := ⟨by decide, by decide⟩
theorem num0 : numbersOf (Disk.mk 1000) = [] := by unfold numbersOf Disk.DS.list; rw [show (Disk.mk 1000).files.map (·.name) = [] from rfl]; simp [rise]
theorem texts_list {w : World} {v : Value} {l : List Bytes} (h : w.ownsRow 0 9 1 v l.length (l.map fun s => .string (Disk.str s))) (hl : l.length ≤ 1000) : Disk.Texts w v (l.map Disk.str) := by
  rcases h.2 with ⟨h1, h2⟩ | ⟨g, cap, cur, h1, _, h3, h4, _⟩
  · exact .inl ⟨h1, by rw [List.length_eq_zero_iff.1 h2]; rfl⟩
  · subst h1
    refine .inr ⟨g, 0, cap, by simp, Disk.IsCells.lt ⟨_, _, h3⟩, by simpa using hl, fun i hi => ?_⟩
    have hi' : i < l.length := by simpa using hi
    rw [Nat.zero_add, h.cellAt i (by omega)]
    simp [hi']

/-- A log that is new since w. -/
structure St (G : Nat) (w : World) (l d : Nat) (s : LS) (F : Nat → Prop) (w' : World) : Prop where
  log : LogAt G w' l d s F
  below : Below w.heap.size w w'
  new : ∀ k, (k = l ∨ F k) → w.heap.size ≤ k
theorem St.later {G : Nat} {w w1 w2 : World} {l d : Nat} {s : LS} {F : Nat → Prop} (h : St G w l d s F w1) (hb : Below w1.heap.size w1 w2) : St G w l d s F w2 :=
  ⟨h.log.below hb, h.below.trans (hb.mono h.below.size), h.new⟩
theorem St.step {G : Nat} {w w1 w2 : World} {l d : Nat} {s s' : LS} {F : Nat → Prop} (h : St G w l d s F w1) (m : MovesL G w1 l d F s' w2) : ∃ F', St G w l d s' F' w2 := by
  obtain ⟨c, F', h', hs⟩ := m
  refine ⟨F', h', h.below.trans (c.below h.below.size fun k hk => h.new k hk), fun k hk => ?_⟩
  rcases hk with hk | hk
  · exact h.new k (.inl hk)
  · by_cases hlt : k < w1.heap.size
    · exact h.new k (.inr (hs k hlt hk))
    · have := h.below.size; omega

def Lived (w : World) (e : Ending) (w' : World) : Prop := e = .returned (.bool true) ∧ Below w.heap.size w w'

set_option maxRecDepth 100000 in
set_option maxHeartbeats 4000000 in
theorem Lives_calls (G : Nat) (w : World) (hlaid : Laid G w) : Calls Tryz.prog 8 #[] w (Lived w) := by
  have hnew := Disk.New_calls 1000 w (by decide) (by decide)
  have HL := Lib.hid hlaid
  have KA := Lib.hid At_calls
  clear hlaid
  go_enter Tryz.func8, Tryz.ntmps8
  go_wp2_with fail
  refine hnew.mono ?_
  rintro e w1 ⟨d, F, rfl, hown, hb1, hF⟩
  have HB1 := Lib.hid hb1
  have hL1 := HL.out.below hb1
  have hhigh : ∀ k, F k → G ≤ k := fun k hk => Nat.le_trans HL.out.size (hF k hk)
  have HF := Lib.hid hF
  have K2 := Lib.hid (Open0_calls G d (Disk.mk 1000) F 1 w1 hown hL1 hhigh wf_mk rfl num0 (by decide) (by decide) t1)
  clear hnew hown hL1 hhigh hb1 hF
  unfold ptr at *
  go_wp2_with fail
  refine K2.out.mono ?_
  rintro e w2 ⟨l, rfl, hl, hc2, F2, h2, hs2⟩
  have S2 : Hid (St G w l d s1 F2 w2) := by
    refine ⟨h2, HB1.out.trans (hc2.below HB1.out.size HF.out), fun k hk => ?_⟩
    have := HB1.out.size
    rcases hk with hk | hk
    · omega
    · by_cases hlt : k < w1.heap.size
      · exact HF.out k (hs2 k hlt hk)
      · omega
  clear K2 hc2 h2 hs2 hl
  go_wp2_with fail
  refine (KA.out 1 _).mono ?_
  rintro e w3 ⟨rfl, hb3⟩
  have S3 := Lib.hid ((S2.out.later hb3).later ((Below.refl _ w3).alloc (Nat.le_refl _) (.cells (cellV (atC 1)).toArray 71)))
  clear hb3
  have K4 := Lib.hid (Append_calls G l d s1 F2 _ [atC 1] _ S3.out.log (one_cell w3 (atC 1)) fair1)
  rw [t2, show (s1.append [atC 1]).2 = s2 from rfl] at K4
  simp only [cellV, atC] at K4 S3
  simp only [cellV, atC]
  go_wp2_with fail
  refine K4.out.mono ?_
  rintro e w4 ⟨rfl, hm4⟩
  obtain ⟨F4, h4⟩ := S3.out.step hm4
  have S4 : Hid (St G w l d s2 F4 w4) := h4
  clear h4 hm4 K4 S3 S2
  go_wp2_with fail
  refine (KA.out 2 _).mono ?_
  rintro e w5 ⟨rfl, hb5⟩
  have S5 := Lib.hid ((S4.out.later hb5).later ((Below.refl _ w5).alloc (Nat.le_refl _) (.cells (cellV (atC 2)).toArray 71)))
  clear hb5
  have K6 := Lib.hid (Append_calls G l d s2 F4 _ [atC 2] _ S5.out.log (one_cell w5 (atC 2)) fair2)
  rw [t3, show (s2.append [atC 2]).2 = s3 from rfl] at K6
  simp only [cellV, atC] at K6 S5
  simp only [cellV, atC]
  go_wp2_with fail
  refine K6.out.mono ?_
  rintro e w6 ⟨rfl, hm6⟩
  obtain ⟨F6, h6⟩ := S5.out.step hm6
  have S6 : Hid (St G w l d s3 F6 w6) := h6
  have K7 := Lib.hid (Roll_calls G l d s3 F6 w6 S6.out.log)
  rw [t4.1, t4.2, show s3.roll.2.2 = s4 from rfl] at K7
  clear h6 hm6 K6 S5 S4
  go_wp2_with fail
  refine K7.out.mono ?_
  rintro e w7 ⟨rfl, hm7⟩
  obtain ⟨F7, h7⟩ := S6.out.step hm7
  have S7 : Hid (St G w l d s4 F7 w7) := h7
  have K8 := Lib.hid (Retire_calls G l d s4 F7 2 w7 S7.out.log)
  rw [t5, show (s4.retire 2).2 = s5 from rfl] at K8
  clear h7 hm7 K7 S6
  go_wp2_with fail
  refine K8.out.mono ?_
  rintro e w8 ⟨rfl, hm8⟩
  obtain ⟨F8, h8⟩ := S7.out.step hm8
  have S8 : Hid (St G w l d s5 F8 w8) := h8
  have K9 := Lib.hid (Disk.List_calls d s5.σ F8 w8 S8.out.log.own t6.2)
  rw [t6.1] at K9
  unfold ptr at K9
  clear h8 hm8 K8 S7
  go_wp2_with fail
  refine K9.out.mono ?_
  rintro e w9 ⟨v9, rfl, hrow, hb9, hnew9⟩
  have hbx : Below w9.heap.size w9 (w9.alloc (.cells #[.string ⟨#[108, 111, 103, 45, 50]⟩] 9)) := (Below.refl _ _).alloc (Nat.le_refl _) _
  have ht9 := texts_list hrow (by simp)
  have K10 := Lib.hid (Texts_same v9 _ _ _ (ht9.below hbx) (Disk.Texts.one w9 ⟨#[108, 111, 103, 45, 50]⟩ 9) (by simp))
  have HB9 := Lib.hid (S8.out.below.trans ((hb9.trans (hbx.mono hb9.size)).mono S8.out.below.size))
  obtain ⟨va, vc, rfl⟩ := row_form hrow
  clear hrow hb9 hnew9 hbx ht9 K9
  go_wp2_with fail
  refine K10.out.mono ?_
  rintro e w10 ⟨rfl, hb10⟩
  have HB10 := Lib.hid (HB9.out.trans (hb10.mono HB9.out.size))
  clear hb10
  go_wp2_with fail
  refine (KA.out 1 _).mono ?_
  rintro e w11 ⟨rfl, hb11⟩
  have HB11 := Lib.hid (HB10.out.trans (hb11.mono HB10.out.size))
  have K12 := Lib.hid (Cells.CGood_calls (atC 1) w11)
  rw [g1] at K12
  simp only [cellV, atC] at K12
  simp only [cellV, atC]
  clear hb11
  go_wp2_with fail
  refine K12.out.mono ?_
  rintro e w12 ⟨rfl, hb12⟩
  go_wp2_with fail
  go_ret
  exact ⟨rfl, HB11.out.trans (hb12.mono HB11.out.size)⟩
end Lives
end Go.Proofs.YtlcenkkfcejnbaaGreatDoor
