/- slices.Contains over the line of dirty sectors. -/
import Derived.Test.YtlcenkkfcejnbaaGreatDoorDiskLine
namespace Go.Proofs.YtlcenkkfcejnbaaGreatDoor
open Go.RowKit
namespace Disk

theorem equalIn_page (w : World) (d a b : Nat) (ha : IsCells w a) (hb : IsCells w b) :
    (Op.equalIn (d + 1) 103 (.pointer (some ⟨a, 0, none⟩)) (.pointer (some ⟨b, 0, none⟩))).run Tryz.prog w = .ok (a == b) w := by
  have h0 : Tryz.prog.underlying 103 = some (.pointer 107) := by kernel_rfl
  have hs : (Tryz.prog.info? 107).map (·.size) = some 2 := by kernel_rfl
  cases hi : Tryz.prog.info? 107 with
  | none => rw [hi] at hs; cases hs
  | some j =>
    rw [hi] at hs
    have hj : j.size = 2 := by simpa using hs
    by_cases e : a = b
    · subst e
      simp [Op.equalIn, run_underlying h0, sizeOf, typeInfo, hi, run_sameAddr_same]
    · obtain ⟨c1, T1, h1⟩ := ha
      obtain ⟨c2, T2, h2⟩ := hb
      have := run_sameAddr_other (P := Tryz.prog) w (a := ⟨a, 0, none⟩) (b := ⟨b, 0, none⟩) (by simp [e]) h1 h2
      have he : (a == b) = false := by simpa using e
      simp [Op.equalIn, run_underlying h0, sizeOf, typeInfo, hi, hj, this, he]

def FoundM (l : List (Nat × Nat)) (m : Nat × Nat) (e : Ending) : Prop := ∃ n : Int, e = .returned (.int .i64 n) ∧ (0 ≤ n ↔ m ∈ l) ∧ -1 ≤ n ∧ n ≤ 4611686018427387904

set_option maxRecDepth 100000 in
set_option maxHeartbeats 400000 in
theorem IndexEq_calls (g cap p n : Nat) (l : List (Nat × Nat)) (w : World) (hl : Marks w g l) (hg : g < w.heap.size) (hb : ∀ m ∈ l, IsCells w m.1) (hpp : IsCells w p) (hsm : l.length ≤ 4611686018427387904) :
    Calls Tryz.prog 129 #[.slice (some ⟨g, 0, none⟩) l.length cap, .agg #[ptr p, .int .i64 n]] w fun e w' => FoundM l (p, n) e ∧ Below w.heap.size w w' := by
  unfold ptr
  go_enter Tryz.func129, Tryz.ntmps129
  go_wp2
  go_loopw [5, 8] (fun _ i wr => ∃ k : Nat, k ≤ l.length ∧ i = .int .i64 k ∧ Below w.heap.size w wr ∧ wr.heap[w.heap.size]? = some (.cells #[.pointer (some ⟨p, 0, none⟩), .int .i64 n] 105 (0, 0)) ∧ Hid ((p, n) ∉ l.take k)) (fun _ i _ => l.length - (intOf i).toNat)
  case atStart => exact ⟨0, Nat.zero_le _, rfl, (Below.refl _ _).alloc (Nat.le_refl _) _, by show (w.heap.push _)[w.heap.size]? = _; simp, by show _ ∉ _; simp⟩
  case round =>
    obtain ⟨k, hk, rfl, hbl, hbx, hn⟩ := hrel
    by_cases hlt : k < l.length
    · obtain ⟨m1, m2⟩ := (hl.below hbl hg) k hlt
      have b1 := cell_of hbx 0
      have b2 := cell_of hbx 1
      simp only [List.getElem?_toArray, List.getElem?_cons_succ, List.getElem?_cons_zero] at b1 b2
      have hnx : (p, n) ∉ l.take (k + 1) ↔ ¬ (p, n) = l[k] := by
        have h3 := hn.out
        rw [List.take_succ_eq_append_getElem hlt, List.mem_append, List.mem_singleton, not_or]
        exact ⟨fun h => h.2, fun h => ⟨h3, h⟩⟩
      have ib := (hb l[k] (List.getElem_mem _)).below hbl
      have ip := hpp.below hbl
      have heq := fun q d => equalIn_page (wr.drewN q) d p l[k].1 (ip.below (bdrewN _ (Below.refl _ _))) (ib.below (bdrewN _ (Below.refl _ _)))
      rw [Nat.mul_comm] at m1 m2
      have HX := Lib.hid hbx
      have HN := Lib.hid hnx
      clear hbx hnx
      unfold ptr at m1
      by_cases e1 : p = l[k].1
      · by_cases e2 : n = l[k].2
        · have e1' : (p == l[k].1) = true := by simpa using e1
          have e2' : ((n : Int) == l[k].2) = true := by rw [beq_iff_eq, e2]
          rw [e1'] at heq
          have hmem : (p, n) ∈ l := by
            have : (p, n) = l[k] := by rw [e1, e2]
            rw [this]; exact List.getElem_mem _
          have HM := Lib.hid hmem
          clear e1 e2 e1' hmem
          go_wp2
          go_quiet (fail)
          go_wp2
          go_ret
          have hF : FoundM l (p, n) (.returned (.int .i64 k)) := ⟨k, rfl, by simp [HM.out], by omega, by omega⟩
          exact ⟨hF, bdrewN _ hbl⟩
        · have e1' : (p == l[k].1) = true := by simpa using e1
          have e2' : ((n : Int) == l[k].2) = false := by rw [beq_eq_false_iff_ne]; omega
          rw [e1'] at heq
          have hne : (p, n) ∉ l.take (k + 1) := HN.out.2 fun h => e2 (by rw [← h])
          have HM := Lib.hid hne
          clear e1 e2 e1' hne
          go_wp2
          go_quiet (fail)
          go_wp2
          go_roundw
          case rel => exact ⟨k + 1, by omega, by go_num, bdrewN _ hbl, HX.out, HM⟩
          case measure => simp [intOf]; omega
      · have e1' : (p == l[k].1) = false := by simpa using e1
        rw [e1'] at heq
        have hne : (p, n) ∉ l.take (k + 1) := HN.out.2 fun h => e1 (by rw [← h])
        have HM := Lib.hid hne
        clear e1 e1' hne
        go_wp2
        go_quiet (fail)
        go_wp2
        go_roundw
        case rel => exact ⟨k + 1, by omega, by go_num, bdrewN _ hbl, HX.out, HM⟩
        case measure => simp [intOf]; omega
    · have hke : k = l.length := by omega
      subst hke
      have h3 := hn.out
      rw [List.take_length] at h3
      have H3 := Lib.hid h3
      clear h3 hn
      go_wp2
      go_ret
      have hF : FoundM l (p, n) (.returned (.int .i64 (-1))) := ⟨-1, rfl, by simp [H3.out], by omega, by omega⟩
      exact ⟨hF, hbl⟩

set_option maxHeartbeats 400000 in
theorem IndexEq_nil (p n : Nat) (w : World) :
    Calls Tryz.prog 129 #[.slice none 0 0, .agg #[ptr p, .int .i64 n]] w fun e w' => FoundM [] (p, n) e ∧ Below w.heap.size w w' := by
  unfold ptr
  go_enter Tryz.func129, Tryz.ntmps129
  go_wp2
  go_loop [5, 8] (fun _ i => i = .int .i64 0) (fun _ i => 0)
  case atStart => rfl
  case round =>
    obtain rfl := hrel
    go_wp2
    go_ret
    have hF : FoundM [] (p, n) (.returned (.int .i64 (-1))) := ⟨-1, rfl, by simp, by omega, by omega⟩
    exact ⟨hF, (Below.refl _ _).alloc (Nat.le_refl _) _⟩

/-- The line as a slice's value. -/
structure LineAt (w : World) (v : Value) (l : List (Nat × Nat)) : Prop where
  row : w.ownsRow 0 105 2 v l.length (marksB l)
  cells : ∀ m ∈ l, IsCells w m.1 ∧ v.ownBlock ≠ some m.1
  small : l.length ≤ 1073741824

theorem LineAt.open_ {w : World} {v : Value} {l : List (Nat × Nat)} (h : LineAt w v l) : (v = .slice none 0 0 ∧ l = []) ∨ ∃ g cap cur, v = .slice (some ⟨g, 0, none⟩) l.length cap ∧ w.heap[g]? = some (.cells cur 105 (0, 0)) ∧ l.length ≤ cap ∧ cap ≤ maxLen ∧ cur.size = cap * 2 ∧ cur.toList.take (l.length * 2) = marksB l := by
  rcases h.row.2 with ⟨h1, h2⟩ | ⟨g, cap, cur, h1, _, h2⟩
  · exact .inl ⟨h1, List.length_eq_zero_iff.1 h2⟩
  · exact .inr ⟨g, cap, cur, h1, h2⟩

set_option maxRecDepth 100000 in
set_option maxHeartbeats 400000 in
theorem ContainsMark_calls (v : Value) (p n : Nat) (l : List (Nat × Nat)) (w : World) (hl : LineAt w v l) (hpp : IsCells w p) :
    Calls Tryz.prog 104 #[v, .agg #[ptr p, .int .i64 n]] w fun e w' => e = .returned (.bool (decide ((p, n) ∈ l))) ∧ Below w.heap.size w w' := by
  have key : Hid (∀ W, Below w.heap.size w W → Calls Tryz.prog 129 #[v, .agg #[.pointer (some ⟨p, 0, none⟩), .int .i64 n]] W fun e w' => FoundM l (p, n) e ∧ Below W.heap.size W w') := by
    intro W hW
    rcases hl.open_ with ⟨rfl, rfl⟩ | ⟨g, cap, cur, rfl, h2, h3, h4, h5, h6⟩
    · exact IndexEq_nil p n W
    · have hg : g < w.heap.size := IsCells.lt ⟨_, _, h2⟩
      exact IndexEq_calls g cap p n l W ((Marks.of_row h2 h6).below hW hg) (Nat.lt_of_lt_of_le hg hW.size) (fun m hm => ((hl.cells m hm).1).below hW) (hpp.below hW) (by have := hl.small; omega)
  unfold ptr
  clear hl
  go_enter Tryz.func104, Tryz.ntmps104
  go_wp2_with (first | (go_at_call 129; refine (key.out _ ((Below.refl _ _).alloc (Nat.le_refl _) _)).mono ?_; rintro e w1 ⟨⟨k, rfl, hn0, h1, h2⟩, hb1⟩; have hn := Lib.hid hn0; clear hn0))
  go_ret
  refine ⟨ret_bool ?_, ((Below.refl _ _).alloc (Nat.le_refl _) _).trans (hb1.mono (by simp))⟩
  rw [Bool.eq_iff_iff, decide_eq_true_eq, decide_eq_true_eq]
  exact hn.out
end Disk
end Go.Proofs.YtlcenkkfcejnbaaGreatDoor
