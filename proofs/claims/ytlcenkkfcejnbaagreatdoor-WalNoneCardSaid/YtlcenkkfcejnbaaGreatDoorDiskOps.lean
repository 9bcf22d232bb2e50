/- The disk's operations: Create, Append, Sync, Rename, Remove. -/
import Derived.Test.YtlcenkkfcejnbaaGreatDoorDiskPerform
namespace Go.Proofs.YtlcenkkfcejnbaaGreatDoor
open Go.RowKit
namespace Disk

/-- A disk in memory, with the blocks that are its own. -/
structure Owns (w : World) (d : Nat) (σ : DS) (F : Nat → Prop) : Prop where
  at_ : ∃ L, DiskAt w d σ L ∧ ∀ k, L.foot d σ.files k → F k
  lt : ∀ k, F k → k < w.heap.size

/-- What a call makes of a disk and its blocks. -/
def Moves (w : World) (d : Nat) (F : Nat → Prop) (σ' : DS) (w' : World) : Prop :=
  Chg F w w' ∧ ∃ F', Owns w' d σ' F' ∧ ∀ k, k < w.heap.size → F' k → F k

theorem Owns.moves {w w' : World} {d : Nat} {σ σ' : DS} {F : Nat → Prop} {L : Lay} (_h : Owns w d σ F) (hL : ∀ k, L.foot d σ.files k → F k) (hs : Reached w d σ L σ' w') : Moves w d F σ' w' := by
  obtain ⟨L', hs⟩ := hs
  exact ⟨hs.chg.mono fun k _ hk => hL k hk, L'.foot d σ'.files, ⟨⟨L', hs.at_, fun _ h => h⟩, hs.at_.lt⟩, fun k hk hf => hL k (hs.foot k hk hf)⟩

theorem Moves.refl {w : World} {d : Nat} {σ : DS} {F : Nat → Prop} (h : Owns w d σ F) : Moves w d F σ w := ⟨Chg.refl _ _, F, h, fun _ _ h => h⟩
theorem Owns.keep {w w' : World} {d : Nat} {σ : DS} {F : Nat → Prop} (h : Owns w d σ F) (hs : w.heap.size ≤ w'.heap.size) (hk : ∀ k, F k → w'.heap[k]? = w.heap[k]?) : Owns w' d σ F := by
  obtain ⟨⟨L, hA, hL⟩, hl⟩ := h
  exact ⟨⟨L, hA.keep fun k hkf => hk k (hL k hkf), hL⟩, fun k hk => Nat.lt_of_lt_of_le (hl k hk) hs⟩
theorem Owns.below {w w' : World} {d : Nat} {σ : DS} {F : Nat → Prop} (h : Owns w d σ F) (hb : Below w.heap.size w w') : Owns w' d σ F := h.keep hb.size fun k hk => hb.block k (h.lt k hk)
theorem Moves.of_below {w w' : World} {d : Nat} {σ : DS} {F : Nat → Prop} (h : Owns w d σ F) (hb : Below w.heap.size w w') : Moves w d F σ w' := ⟨Chg.of_below hb, F, h.below hb, fun _ _ h => h⟩
theorem Moves.trans {w w1 w2 : World} {d : Nat} {F : Nat → Prop} {σ1 σ2 : DS} (h : Moves w d F σ1 w1) (k : ∀ F', Owns w1 d σ1 F' → (∀ k, k < w.heap.size → F' k → F k) → Moves w1 d F' σ2 w2) : Moves w d F σ2 w2 := by
  obtain ⟨c1, F1, o1, s1⟩ := h
  obtain ⟨c2, F2, o2, s2⟩ := k F1 o1 s1
  exact ⟨c1.then c2 s1, F2, o2, fun i hi hf => s1 i hi (s2 i (Nat.lt_of_lt_of_le hi c1.size) hf)⟩

theorem Texts.one (w : World) (s : ByteArray) (T : TypeId) : Texts (w.alloc (.cells #[.string s] T)) (.slice (some ⟨w.heap.size, 0, none⟩) 1 1) [s] := by
  refine .inr ⟨w.heap.size, 0, 1, rfl, by simp, by simp, fun i hi => ?_⟩
  have : (w.alloc (.cells #[.string s] T)).heap[w.heap.size]? = some (.cells #[.string s] T (0, 0)) := by show (w.heap.push _)[w.heap.size]? = _; simp
  have hi0 : i = 0 := by simp at hi; omega
  subst hi0
  rw [cell_of this]; rfl

theorem Texts.two (w : World) (s t : ByteArray) (T : TypeId) : Texts (w.alloc (.cells #[.string s, .string t] T)) (.slice (some ⟨w.heap.size, 0, none⟩) 2 2) [s, t] := by
  refine .inr ⟨w.heap.size, 0, 2, rfl, by simp, by simp, fun i hi => ?_⟩
  have : (w.alloc (.cells #[.string s, .string t] T)).heap[w.heap.size]? = some (.cells #[.string s, .string t] T (0, 0)) := by show (w.heap.push _)[w.heap.size]? = _; simp
  have hi0 : i = 0 ∨ i = 1 := by simp at hi; omega
  rcases hi0 with rfl | rfl <;> (rw [cell_of this]; rfl)

theorem fault_range (σ : DS) (l : List Bytes) (b : Bool) : σ.fault l b = 9 ∨ σ.fault l b = 3 ∨ σ.fault l b = 4 ∨ σ.fault l b = 0 := by
  unfold DS.fault
  split
  · exact .inl rfl
  split
  · exact .inr (.inl rfl)
  split
  · exact .inr (.inr (.inl rfl))
  · exact .inr (.inr (.inr rfl))

def Plan (σ : DS) : Prop := -9223372036854775808 ≤ σ.plan ∧ σ.plan ≤ 9223372036854775807

theorem sync_eq {σ : DS} {s : Bytes} {f : File} (h0 : σ.fault [s] true = 0) (hf : σ.find s = some f) : σ.sync s = Result9 σ σ.tick (σ.tick.synced f) := by
  unfold DS.sync
  simp only [h0, hf]
  rfl

theorem fault_found {σ : DS} {s : Bytes} (h0 : σ.fault [s] true = 0) : ∃ f, σ.find s = some f := by
  unfold DS.fault at h0
  split at h0
  · cases h0
  split at h0
  · cases h0
  split at h0
  · cases h0
  · rename_i h
    cases hx : σ.find s with
    | none => simp [hx] at h
    | some f => exact ⟨f, rfl⟩

theorem fault_good {σ : DS} {l : List Bytes} {b : Bool} (h0 : σ.fault l b = 0) : ∀ s ∈ l, good s = true := by
  unfold DS.fault at h0
  split at h0
  · cases h0
  split at h0
  · cases h0
  · rename_i h
    intro s hs
    cases hg : good s
    · exact absurd (List.any_eq_true.2 ⟨s, hs, by simp [hg]⟩) h
    · rfl

theorem find_tick (σ : DS) (s : Bytes) : σ.tick.find s = σ.find s := rfl

/-- Two variables that were just made. -/
theorem two_vars (w : World) (a b : Value) (S T : TypeId) : Below w.heap.size w ((w.alloc (.cells #[a] S)).alloc (.cells #[b] T)) ∧ ((w.alloc (.cells #[a] S)).alloc (.cells #[b] T)).heap[w.heap.size]? = some (.cells #[a] S (0, 0)) ∧
    ((w.alloc (.cells #[a] S)).alloc (.cells #[b] T)).heap[w.heap.size + 1]? = some (.cells #[b] T (0, 0)) ∧ ((w.alloc (.cells #[a] S)).alloc (.cells #[b] T)).heap.size = w.heap.size + 2 := by
  have e : w.heap.size + 1 = (w.alloc (.cells #[a] S)).heap.size := by simp
  refine ⟨((Below.refl _ _).alloc (Nat.le_refl _) _).alloc (by simp) _, ?_, ?_, by simp⟩
  · rw [Below.heap_alloc _ _ _ (by simp)]; show (w.heap.push _)[w.heap.size]? = _; simp
  · rw [e]; show (Array.push _ _)[_]? = _; exact Array.getElem?_push_size

theorem three_vars (w : World) (a b c : Value) (S T U : TypeId) : Below w.heap.size w (((w.alloc (.cells #[a] S)).alloc (.cells #[b] T)).alloc (.cells #[c] U)) ∧ (((w.alloc (.cells #[a] S)).alloc (.cells #[b] T)).alloc (.cells #[c] U)).heap[w.heap.size]? = some (.cells #[a] S (0, 0)) ∧
    (((w.alloc (.cells #[a] S)).alloc (.cells #[b] T)).alloc (.cells #[c] U)).heap[w.heap.size + 1]? = some (.cells #[b] T (0, 0)) ∧ (((w.alloc (.cells #[a] S)).alloc (.cells #[b] T)).alloc (.cells #[c] U)).heap[w.heap.size + 1 + 1]? = some (.cells #[c] U (0, 0)) ∧
    (((w.alloc (.cells #[a] S)).alloc (.cells #[b] T)).alloc (.cells #[c] U)).heap.size = w.heap.size + 3 := by
  obtain ⟨h1, h2, h3, h4⟩ := two_vars w a b S T
  refine ⟨h1.alloc h1.size _, ?_, ?_, ?_, by simp⟩
  · rw [Below.heap_alloc _ _ _ (by omega)]; exact h2
  · rw [Below.heap_alloc _ _ _ (by omega)]; exact h3
  · rw [show w.heap.size + 1 + 1 = ((w.alloc (.cells #[a] S)).alloc (.cells #[b] T)).heap.size by omega]; show (Array.push _ _)[_]? = _; exact Array.getElem?_push_size

/-- fault, at a world that is no more than grown. -/
def Faults (w : World) (d : Nat) (ss : List ByteArray) (b : Bool) (z : Int) : Prop := ∀ W v, Below w.heap.size w W → Texts W v ss → Calls Tryz.prog 52 #[.pointer (some ⟨d, 0, none⟩), v, .bool b] W fun e w' => e = .returned (.int .i64 z) ∧ Below W.heap.size W w'

theorem faults (w : World) (d : Nat) (σ : DS) (L : Lay) (h : DiskAt w d σ L) (ss : List ByteArray) (b : Bool) (hl : ∀ s ∈ ss, s.size ≤ maxLen) (hne : b = true → ss ≠ []) : Faults w d ss b (σ.fault (ss.map (·.data.toList)) b) :=
  fun W v hb hT => Fault_calls d σ L v ss b W (h.below hb) hT hl hne

theorem cell_old {W W' : World} {k o : Nat} {v : Value} (h : W.cell? ⟨k, o, none⟩ = some v) (hk : W'.heap[k]? = W.heap[k]?) : W'.cell? ⟨k, o, none⟩ = some v := by
  rw [World.cell?_of_block (w := W) (a := ⟨k, o, none⟩) hk]; exact h

theorem sync_bad {σ : DS} {s : Bytes} (h : σ.fault [s] true ≠ 0) : σ.sync s = (σ.fault [s] true, σ) := by
  unfold DS.sync
  simp only [h, ne_eq, not_false_eq_true, if_true]

theorem reach_from {w w1 w2 : World} {d : Nat} {σ σ' : DS} {L : Lay} (h : DiskAt w d σ L) (hb : Below w.heap.size w w1) (hr : Reached w1 d σ L σ' w2) : Reached w d σ L σ' w2 := by
  obtain ⟨L', hs⟩ := hr
  exact ⟨L', (Step.below h hb).trans hs⟩

theorem func_ok {f : Nat} (h : ∃ fn, Tryz.prog.funcs[f]? = some fn ∧ (fn.name == "runtime.NumGoroutine") = false ∧ fn.body.isNone = false) (args : Array Value) (w : World) : (callFunc f args).run Tryz.prog w = .ok (.enter f args) w := by
  obtain ⟨fn, h1, h2, h3⟩ := h
  exact enter_of h1 h2 h3 args w

set_option maxRecDepth 100000 in
set_option maxHeartbeats 1000000 in
theorem Sync_calls (d : Nat) (σ : DS) (F : Nat → Prop) (s : ByteArray) (w : World) (h : Owns w d σ F) (hs : s.size ≤ maxLen) (hp : Plan σ) :
    Calls Tryz.prog 45 #[ptr d, .string s] w fun e w' => e = .returned (.int .i64 (σ.sync s.data.toList).1) ∧ Moves w d F (σ.sync s.data.toList).2 w' := by
  obtain ⟨⟨L, hA, hL⟩, hlt⟩ := h
  have hF := faults w d σ L hA [s] true (by simpa using hs) (by simp)
  obtain ⟨z, hz⟩ : ∃ z, z = σ.fault [s.data.toList] true := ⟨_, rfl⟩
  rw [show ([s].map fun x : ByteArray => x.data.toList) = [s.data.toList] from rfl, ← hz] at hF
  obtain ⟨hb2, v0, v1, hsz⟩ := two_vars w (.pointer (some ⟨d, 0, none⟩)) (.string s) 40 9
  have hT := Texts.one ((w.alloc (.cells #[.pointer (some ⟨d, 0, none⟩)] 40)).alloc (.cells #[.string s] 9)) s 9
  rw [hsz] at hT
  have hb3 := hb2.alloc hb2.size (.cells #[.string s] 9)
  have HF := Lib.hid hF
  have HV0 := Lib.hid v0
  have HV1 := Lib.hid v1
  have HT := Lib.hid hT
  have HSZ := Lib.hid hsz
  have HO : Hid (Owns w d σ F) := ⟨⟨L, hA, hL⟩, hlt⟩
  have HL := Lib.hid hL
  clear hF v0 v1 hT hsz hL
  unfold ptr
  by_cases h0 : z = 0
  · subst h0
    obtain ⟨f, hf⟩ := fault_found hz.symm
    have hE : Hid (σ.sync s.data.toList = Result9 σ σ.tick (σ.tick.synced f)) := sync_eq hz.symm hf
    have hFN := Lib.hid hf
    have HZ := Lib.hid hz
    clear hz hf
    go_enter Tryz.func45, Tryz.ntmps45
    go_wp2_with fail
    refine (HF.out _ _ hb3 HT.out).mono ?_
    rintro e w1 ⟨rfl, hb1⟩
    have hw1 := hb3.trans (hb1.mono hb3.size)
    have u0 : w1.heap[w.heap.size]? = some (.cells #[.pointer (some ⟨d, 0, none⟩)] 40 (0, 0)) := by
      rw [hb1.block _ (by simp; omega), Below.heap_alloc _ _ _ (by simp; omega)]; exact HV0.out
    have u1 : w1.heap[w.heap.size + 1]? = some (.cells #[.string s] 9 (0, 0)) := by
      rw [hb1.block _ (by simp), Below.heap_alloc _ _ _ (by simp)]; exact HV1.out
    have c0 := cell_of u0 0
    have c1 := cell_of u1 0
    simp only [List.getElem?_toArray, List.getElem?_cons_zero] at c0 c1
    have hA1 := hA.below hw1
    have n0 : ¬ L.foot d σ.files w.heap.size := fun e => by have := hA.lt _ e; omega
    have n1 : ¬ L.foot d σ.files (w.heap.size + 1) := fun e => by have := hA.lt _ e; omega
    have l0 := IsCells.lt ⟨_, _, u0⟩
    have l1 := IsCells.lt ⟨_, _, u1⟩
    have key := Perform_calls d σ σ.tick (σ.tick.synced f) L w1 hA1 75 76 #[] #[.pointer (some ⟨w.heap.size, 0, none⟩), .pointer (some ⟨w.heap.size + 1, 0, none⟩)] hp
      (func_ok ⟨_, Tryz.func75, by kernel_rfl, by kernel_rfl⟩ _) (func_ok ⟨_, Tryz.func76, by kernel_rfl, by kernel_rfl⟩ _)
      (fun W hW => (None_calls W).mono fun e w' ⟨h1, h2⟩ => ⟨h1, L, by rw [← h2]; exact Step.refl hW.at_⟩)
      (fun W L1 hW => by
        obtain ⟨m0, k0, e0⟩ := hW.off l0 n0
        obtain ⟨m1, k1, e1⟩ := hW.off l1 n1
        exact SyncTail_calls d σ.tick L1 s f w.heap.size (w.heap.size + 1) W hW.at_ hFN.out (cell_old c0 e0) (cell_old c1 e1) m0 k0)
    have KEY := Lib.hid key
    clear key u0 u1
    go_wp2_with fail
    refine KEY.out.mono ?_
    rintro e w2 ⟨rfl, hr⟩
    go_wp2_with fail
    go_ret
    rw [hE.out]
    exact ⟨rfl, HO.out.moves HL.out (reach_from hA hw1 hr)⟩
  · have hE : Hid (σ.sync s.data.toList = (z, σ)) := by show _ = _; rw [hz]; exact sync_bad (by rw [← hz]; exact h0)
    have hz1 : (z == 0) = false := by rw [beq_eq_false_iff_ne]; exact h0
    have hz2 : (z != 0) = true := by rw [bne_iff_ne]; exact h0
    clear hz h0
    go_enter Tryz.func45, Tryz.ntmps45
    go_wp2_with fail
    refine (HF.out _ _ hb3 HT.out).mono ?_
    rintro e w1 ⟨rfl, hb1⟩
    go_wp2_with fail
    go_ret
    rw [hE.out]
    exact ⟨rfl, Moves.of_below HO.out (hb3.trans (hb1.mono hb3.size))⟩
theorem remove_eq {σ : DS} {s : Bytes} (h0 : σ.fault [s] true = 0) : σ.remove s = Result9 σ σ.tick (σ.tick.unlink s) := by
  unfold DS.remove
  simp only [h0]
  rfl
theorem remove_bad {σ : DS} {s : Bytes} (h : σ.fault [s] true ≠ 0) : σ.remove s = (σ.fault [s] true, σ) := by
  unfold DS.remove
  simp only [h, ne_eq, not_false_eq_true, if_true]

set_option maxRecDepth 100000 in
set_option maxHeartbeats 1000000 in
theorem Remove_calls (d : Nat) (σ : DS) (F : Nat → Prop) (s : ByteArray) (w : World) (h : Owns w d σ F) (hs : s.size ≤ maxLen) (hp : Plan σ) :
    Calls Tryz.prog 47 #[ptr d, .string s] w fun e w' => e = .returned (.int .i64 (σ.remove s.data.toList).1) ∧ Moves w d F (σ.remove s.data.toList).2 w' := by
  obtain ⟨⟨L, hA, hL⟩, hlt⟩ := h
  have hF := faults w d σ L hA [s] true (by simpa using hs) (by simp)
  obtain ⟨z, hz⟩ : ∃ z, z = σ.fault [s.data.toList] true := ⟨_, rfl⟩
  rw [show ([s].map fun x : ByteArray => x.data.toList) = [s.data.toList] from rfl, ← hz] at hF
  obtain ⟨hb2, v0, v1, hsz⟩ := two_vars w (.pointer (some ⟨d, 0, none⟩)) (.string s) 40 9
  have hT := Texts.one ((w.alloc (.cells #[.pointer (some ⟨d, 0, none⟩)] 40)).alloc (.cells #[.string s] 9)) s 9
  rw [hsz] at hT
  have hb3 := hb2.alloc hb2.size (.cells #[.string s] 9)
  have HF := Lib.hid hF
  have HV0 := Lib.hid v0
  have HV1 := Lib.hid v1
  have HT := Lib.hid hT
  have HSZ := Lib.hid hsz
  have HO : Hid (Owns w d σ F) := ⟨⟨L, hA, hL⟩, hlt⟩
  have HL := Lib.hid hL
  clear hF v0 v1 hT hsz hL
  unfold ptr
  by_cases h0 : z = 0
  · subst h0
    obtain ⟨f, hf⟩ := fault_found hz.symm
    have hE : Hid (σ.remove s.data.toList = Result9 σ σ.tick (σ.tick.unlink s.data.toList)) := remove_eq hz.symm
    have hFN := Lib.hid hf
    have HZ := Lib.hid hz
    clear hz hf
    go_enter Tryz.func47, Tryz.ntmps47
    go_wp2_with fail
    refine (HF.out _ _ hb3 HT.out).mono ?_
    rintro e w1 ⟨rfl, hb1⟩
    have hw1 := hb3.trans (hb1.mono hb3.size)
    have u0 : w1.heap[w.heap.size]? = some (.cells #[.pointer (some ⟨d, 0, none⟩)] 40 (0, 0)) := by
      rw [hb1.block _ (by simp; omega), Below.heap_alloc _ _ _ (by simp; omega)]; exact HV0.out
    have u1 : w1.heap[w.heap.size + 1]? = some (.cells #[.string s] 9 (0, 0)) := by
      rw [hb1.block _ (by simp), Below.heap_alloc _ _ _ (by simp)]; exact HV1.out
    have c0 := cell_of u0 0
    have c1 := cell_of u1 0
    simp only [List.getElem?_toArray, List.getElem?_cons_zero] at c0 c1
    have hA1 := hA.below hw1
    have n0 : ¬ L.foot d σ.files w.heap.size := fun e => by have := hA.lt _ e; omega
    have n1 : ¬ L.foot d σ.files (w.heap.size + 1) := fun e => by have := hA.lt _ e; omega
    have l0 := IsCells.lt ⟨_, _, u0⟩
    have l1 := IsCells.lt ⟨_, _, u1⟩
    have key := Perform_calls d σ σ.tick (σ.tick.unlink s.data.toList) L w1 hA1 75 79 #[] #[.pointer (some ⟨w.heap.size, 0, none⟩), .pointer (some ⟨w.heap.size + 1, 0, none⟩)] hp
      (func_ok ⟨_, Tryz.func75, by kernel_rfl, by kernel_rfl⟩ _) (func_ok ⟨_, Tryz.func79, by kernel_rfl, by kernel_rfl⟩ _)
      (fun W hW => (None_calls W).mono fun e w' ⟨h1, h2⟩ => ⟨h1, L, by rw [← h2]; exact Step.refl hW.at_⟩)
      (fun W L1 hW => by
        obtain ⟨m0, k0, e0⟩ := hW.off l0 n0
        obtain ⟨m1, k1, e1⟩ := hW.off l1 n1
        exact RemoveRest_calls d σ.tick L1 s w.heap.size (w.heap.size + 1) W hW.at_ (cell_old c0 e0) (cell_old c1 e1))
    have KEY := Lib.hid key
    clear key u0 u1
    go_wp2_with fail
    refine KEY.out.mono ?_
    rintro e w2 ⟨rfl, hr⟩
    go_wp2_with fail
    go_ret
    rw [hE.out]
    exact ⟨rfl, HO.out.moves HL.out (reach_from hA hw1 hr)⟩
  · have hE : Hid (σ.remove s.data.toList = (z, σ)) := by show _ = _; rw [hz]; exact remove_bad (by rw [← hz]; exact h0)
    have hz1 : (z == 0) = false := by rw [beq_eq_false_iff_ne]; exact h0
    have hz2 : (z != 0) = true := by rw [bne_iff_ne]; exact h0
    clear hz h0
    go_enter Tryz.func47, Tryz.ntmps47
    go_wp2_with fail
    refine (HF.out _ _ hb3 HT.out).mono ?_
    rintro e w1 ⟨rfl, hb1⟩
    go_wp2_with fail
    go_ret
    rw [hE.out]
    exact ⟨rfl, Moves.of_below HO.out (hb3.trans (hb1.mono hb3.size))⟩
end Disk
end Go.Proofs.YtlcenkkfcejnbaaGreatDoor
