/- The line of dirty sectors: the library's loops over it. -/
import Derived.Test.YtlcenkkfcejnbaaGreatDoorDiskFault
import Derived.LaidEqlPtr
namespace Go.Proofs.YtlcenkkfcejnbaaGreatDoor
open Go.RowKit
namespace Disk

def marksB (l : List (Nat × Nat)) : List Value := l.flatMap fun m => [ptr m.1, .int .i64 m.2]
theorem marksB_length (l : List (Nat × Nat)) : (marksB l).length = l.length * 2 := by
  induction l with
  | nil => rfl
  | cons a l ih => simp [marksB] at ih ⊢; omega
theorem marksB_app (l m : List (Nat × Nat)) : marksB (l ++ m) = marksB l ++ marksB m := by simp [marksB]
theorem marksB_at (l : List (Nat × Nat)) (i : Nat) (h : i < l.length) : (marksB l)[2 * i]? = some (ptr l[i].1) ∧ (marksB l)[2 * i + 1]? = some (.int .i64 l[i].2) := by
  induction l generalizing i with
  | nil => cases h
  | cons a l ih =>
    cases i with
    | zero => exact ⟨rfl, rfl⟩
    | succ i =>
      have := ih i (by simpa using h)
      have e1 : 2 * (i + 1) = 2 * i + 1 + 1 := by omega
      rw [e1]
      simpa [marksB] using this

/-- The marks that a slice shows, where they lie. -/
def Marks (w : World) (g : Nat) (l : List (Nat × Nat)) : Prop :=
  ∀ i, (h : i < l.length) → w.cell? ⟨g, 2 * i, none⟩ = some (ptr l[i].1) ∧ w.cell? ⟨g, 2 * i + 1, none⟩ = some (.int .i64 l[i].2)

theorem Marks.of_row {w : World} {g : Nat} {l : List (Nat × Nat)} {cur : Array Value} (hg : w.heap[g]? = some (.cells cur 105 (0, 0))) (ht : cur.toList.take (l.length * 2) = marksB l) : Marks w g l := by
  intro i h
  have hm := marksB_at l i h
  have hx : ∀ j, j < l.length * 2 → cur[j]? = (marksB l)[j]? := fun j hj => by
    rw [← ht, List.getElem?_take_of_lt hj]; simp
  rw [cell_of hg, cell_of hg, hx _ (by omega), hx _ (by omega)]
  exact hm

theorem Marks.below {w w' : World} {g : Nat} {l : List (Nat × Nat)} (h : Marks w g l) (hb : Below w.heap.size w w') (hg : g < w.heap.size) : Marks w' g l := fun i hi => by
  rw [(bcell hb).1 g _ hg, (bcell hb).1 g _ hg]; exact h i hi

/-- A block of cells of the call's own. -/
def IsCells (w : World) (b : Nat) : Prop := ∃ c T, w.heap[b]? = some (.cells c T (0, 0))
theorem IsCells.lt {w : World} {b : Nat} (h : IsCells w b) : b < w.heap.size := by
  obtain ⟨c, T, h⟩ := h
  rcases Nat.lt_or_ge b w.heap.size with h' | h'
  · exact h'
  · simp [Array.getElem?_eq_none h'] at h
theorem IsCells.keep {w w' : World} {b : Nat} (h : IsCells w b) (hb : w'.heap[b]? = w.heap[b]?) : IsCells w' b := by
  obtain ⟨c, T, h⟩ := h; exact ⟨c, T, by rw [hb]; exact h⟩
theorem IsCells.below {w w' : World} {b : Nat} (h : IsCells w b) (hb : Below w.heap.size w w') : IsCells w' b := h.keep (hb.block b h.lt)

theorem run_eq_page (w : World) (b p : Nat) (hb : IsCells w b) (hp : IsCells w p) : (binOp .eql 103 (.pointer (some ⟨b, 0, none⟩)) (.pointer (some ⟨p, 0, none⟩))).run Tryz.prog w = .ok (.bool (b == p)) w := by
  have h0 : Tryz.prog.underlying 103 = some (.pointer 107) := by kernel_rfl
  have hs : (Tryz.prog.info? 107).map (·.size) = some 2 := by kernel_rfl
  cases hi : Tryz.prog.info? 107 with
  | none => rw [hi] at hs; cases hs
  | some j =>
    rw [hi] at hs
    have hj : j.size = 2 := by simpa using hs
    by_cases e : b = p
    · subst e
      rw [run_eql_ptr_same w _ h0 hi]
      simp
    · obtain ⟨c1, T1, h1⟩ := hb
      obtain ⟨c2, T2, h2⟩ := hp
      rw [run_eql_ptr_other w h0 hi (by omega) (by simp [e]) h1 h2]
      have : (b == p) = false := by simpa using e
      rw [this]

set_option maxRecDepth 100000 in
set_option maxHeartbeats 400000 in
theorem IsOf_calls (b n p pc : Nat) (w : World) (hc : w.cell? ⟨pc, 0, none⟩ = some (ptr p)) (hp : pc < w.heap.size) (hb : IsCells w b) (hpp : IsCells w p) :
    Calls Tryz.prog 106 #[.agg #[ptr b, .int .i64 n], .pointer (some ⟨pc, 0, none⟩)] w fun e w' => e = .returned (.bool (b == p)) ∧ Below w.heap.size w w' := by
  have hq := fun o => run_eq_page (w.alloc o) b p (hb.below ((Below.refl _ _).alloc (Nat.le_refl _) _)) (hpp.below ((Below.refl _ _).alloc (Nat.le_refl _) _))
  unfold ptr at *
  go_enter Tryz.func106, Tryz.ntmps106
  go_wp2
  go_ret
  exact ⟨rfl, (Below.refl _ _).alloc (Nat.le_refl _) _⟩

def firstOf (l : List (Nat × Nat)) (p : Nat) : Nat := l.findIdx fun m => m.1 == p

def FoundAt (l : List (Nat × Nat)) (p : Nat) (e : Ending) : Prop :=
  (firstOf l p < l.length ∧ e = .returned (.int .i64 (firstOf l p))) ∨ (firstOf l p = l.length ∧ e = .returned (.int .i64 (-1)))

theorem first_step {l : List (Nat × Nat)} {p k : Nat} (hk : k < l.length) (hn : k ≤ firstOf l p) : (l[k].1 == p) = true ∧ firstOf l p = k ∨ (l[k].1 == p) = false ∧ k + 1 ≤ firstOf l p := by
  cases hb : (l[k].1 == p)
  · right
    refine ⟨rfl, ?_⟩
    rcases Nat.lt_or_ge k (firstOf l p) with h | h
    · exact h
    · have he : firstOf l p = k := by omega
      have := @List.findIdx_getElem _ (fun m : Nat × Nat => m.1 == p) l (by show firstOf l p < _; omega)
      have hx : (l[k].1 == p) = true := by
        simp only [firstOf] at he
        simp [he] at this ⊢; exact this
      rw [hb] at hx; cases hx
  · left
    refine ⟨rfl, ?_⟩
    rcases Nat.lt_or_ge k (firstOf l p) with h | h
    · have := List.not_of_lt_findIdx (p := fun m : Nat × Nat => m.1 == p) h
      rw [hb] at this; cases this
    · omega

set_option maxRecDepth 100000 in
set_option maxHeartbeats 400000 in
theorem IndexMark_calls (g cap p pc : Nat) (l : List (Nat × Nat)) (w : World) (hl : Marks w g l) (hg : g < w.heap.size) (hc : w.cell? ⟨pc, 0, none⟩ = some (ptr p)) (hp : pc < w.heap.size) (hb : ∀ m ∈ l, IsCells w m.1) (hpp : IsCells w p) (hsm : l.length ≤ 4611686018427387904) :
    Calls Tryz.prog 130 #[.slice (some ⟨g, 0, none⟩) l.length cap, .func (.func 106) #[] #[.pointer (some ⟨pc, 0, none⟩)]] w fun e w' => FoundAt l p e ∧ Below w.heap.size w w' := by
  go_enter Tryz.func130, Tryz.ntmps130
  go_wp2
  go_loopw [5, 8] (fun _ i wr => ∃ k : Nat, k ≤ l.length ∧ i = .int .i64 k ∧ Below w.heap.size w wr ∧ k ≤ firstOf l p) (fun _ i _ => l.length - (intOf i).toNat)
  case atStart => exact ⟨0, Nat.zero_le _, rfl, Below.refl _ _, Nat.zero_le _⟩
  case round =>
    obtain ⟨k, hk, rfl, hbl, hn⟩ := hrel
    by_cases hlt : k < l.length
    · obtain ⟨m1, m2⟩ := (hl.below hbl hg) k hlt
      have hcc := (bcell hbl).1 pc 0 hp
      rw [hc] at hcc
      have hpl : pc < wr.heap.size := Nat.lt_of_lt_of_le hp hbl.size
      have ib := (hb l[k] (List.getElem_mem _)).below hbl
      have ip := hpp.below hbl
      rw [Nat.mul_comm] at m1 m2
      rcases first_step hlt hn with ⟨h1, h2⟩ | ⟨h1, h2⟩
      · have H1 := Lib.hid h1
        have H2 := Lib.hid h2
        clear h1 h2
        unfold ptr at *
        go_wp2_with (first | (go_at_call 106; refine (IsOf_calls _ _ p pc _ hcc hpl ib ip).mono ?_; rintro e w1 ⟨rfl, hb1⟩; rw [H1.out]))
        go_ret
        have hF : FoundAt l p (.returned (.int .i64 k)) := .inl ⟨by rw [H2.out]; exact hlt, by rw [H2.out]⟩
        exact ⟨hF, hbl.trans (hb1.mono hbl.size)⟩
      · have H1 := Lib.hid h1
        clear h1
        unfold ptr at *
        go_wp2_with (first | (go_at_call 106; refine (IsOf_calls _ _ p pc _ hcc hpl ib ip).mono ?_; rintro e w1 ⟨rfl, hb1⟩; rw [H1.out]))
        go_roundw
        case rel => exact ⟨k + 1, by omega, by go_num, hbl.trans (hb1.mono hbl.size), h2⟩
        case measure => simp [intOf]; omega
    · have hke : firstOf l p = l.length := by
        have : firstOf l p ≤ l.length := List.findIdx_le_length
        omega
      have HK := Lib.hid hke
      clear hke
      go_wp2
      go_ret
      exact ⟨.inr ⟨HK.out, rfl⟩, hbl⟩

/-- What the loop of DeleteFunc has in the row when i elements are kept of the first j. -/
structure Sifted (cur : Array Value) (cap : Nat) (l : List (Nat × Nat)) (p i j : Nat) : Prop where
  size : cur.size = cap * 2
  count : i = ((l.take j).filter fun m => m.1 != p).length
  kept : cur.toList.take (i * 2) = marksB ((l.take j).filter fun m => m.1 != p)
  rest : ∀ t, (h : t < l.length) → j ≤ t → cur[t * 2]? = some (ptr l[t].1) ∧ cur[t * 2 + 1]? = some (.int .i64 l[t].2)
  le : i ≤ j

theorem filter_take_succ {l : List (Nat × Nat)} {p j : Nat} (hj : j < l.length) : (l.take (j + 1)).filter (fun m => m.1 != p) = (l.take j).filter (fun m => m.1 != p) ++ if (l[j].1 == p) = true then [] else [l[j]] := by
  rw [List.take_succ_eq_append_getElem hj, List.filter_append]
  congr 1
  cases h : (l[j].1 == p) <;> simp [bne, h]

theorem Sifted.drop {cur : Array Value} {cap : Nat} {l : List (Nat × Nat)} {p i j : Nat} (h : Sifted cur cap l p i j) (hj : j < l.length) (hp : (l[j].1 == p) = true) : Sifted cur cap l p i (j + 1) := by
  have e := filter_take_succ (p := p) hj
  rw [if_pos hp, List.append_nil] at e
  exact ⟨h.size, by rw [e]; exact h.count, by rw [e]; exact h.kept, fun t ht hj => h.rest t ht (by omega), by have := h.le; omega⟩

theorem Sifted.keep {cur : Array Value} {cap : Nat} {l : List (Nat × Nat)} {p i j : Nat} (h : Sifted cur cap l p i j) (hj : j < l.length) (hc : l.length ≤ cap) (hp : (l[j].1 == p) = false) :
    Sifted ((cur.setIfInBounds (i * 2) (ptr l[j].1)).setIfInBounds (i * 2 + 1) (.int .i64 l[j].2)) cap l p (i + 1) (j + 1) := by
  have e := filter_take_succ (p := p) hj
  rw [if_neg (by simp [hp])] at e
  have hle := h.le
  have hsz := h.size
  refine ⟨by simpa using h.size, by rw [e, List.length_append, ← h.count]; rfl, ?_, fun t ht hj' => ?_, by omega⟩
  · have e2 : (i + 1) * 2 = i * 2 + 2 := by omega
    rw [e, show marksB ((l.take j).filter (fun m => m.1 != p) ++ [l[j]]) = marksB ((l.take j).filter fun m => m.1 != p) ++ [ptr l[j].1, .int .i64 l[j].2] by simp [marksB], ← h.kept, e2]
    apply List.ext_getElem?
    intro t
    simp only [List.getElem?_take, List.getElem?_append, List.length_take, Array.length_toList, Array.getElem?_toList, Array.getElem?_setIfInBounds, Array.size_setIfInBounds]
    have hlen : min (i * 2) cur.size = i * 2 := by omega
    rw [hlen]
    by_cases h1 : t < i * 2
    · rw [if_pos (by omega), if_neg (by omega), if_neg (by omega), if_pos h1, if_pos h1]
    · rw [if_neg h1]
      by_cases h2 : t = i * 2
      · subst h2; simp; omega
      · by_cases h3 : t = i * 2 + 1
        · subst h3; simp; omega
        · rw [if_neg (by omega)]
          symm
          apply List.getElem?_eq_none
          simp; omega
  · obtain ⟨r1, r2⟩ := h.rest t ht (by omega)
    rw [Array.getElem?_setIfInBounds_ne (by omega), Array.getElem?_setIfInBounds_ne (by omega), Array.getElem?_setIfInBounds_ne (by omega), Array.getElem?_setIfInBounds_ne (by omega)]
    exact ⟨r1, r2⟩

theorem Sifted.cell {w : World} {g : Nat} {cur : Array Value} {cap : Nat} {l : List (Nat × Nat)} {p i j : Nat} (h : Sifted cur cap l p i j) (hg : w.heap[g]? = some (.cells cur 105 (0, 0))) (hj : j < l.length) :
    w.cell? ⟨g, j * 2, none⟩ = some (ptr l[j].1) ∧ w.cell? ⟨g, j * 2 + 1, none⟩ = some (.int .i64 l[j].2) := by
  rw [cell_of hg, cell_of hg]; exact h.rest j hj (Nat.le_refl _)

theorem before_first (l : List (Nat × Nat)) (p k : Nat) (hk : k ≤ firstOf l p) : (l.take k).filter (fun m => m.1 != p) = l.take k := by
  rw [List.filter_eq_self]
  intro m hm
  obtain ⟨i, hi, rfl⟩ := List.mem_take_iff_getElem.1 hm
  have hi' : i < firstOf l p := by omega
  have := List.not_of_lt_findIdx (p := fun m : Nat × Nat => m.1 == p) hi'
  simpa [bne] using this

theorem sifted_start {cur : Array Value} {cap : Nat} {l : List (Nat × Nat)} {p : Nat} (hs : cur.size = cap * 2) (ht : cur.toList.take (l.length * 2) = marksB l) (h : firstOf l p < l.length) : Sifted cur cap l p (firstOf l p) (firstOf l p + 1) := by
  have hb : (l[firstOf l p].1 == p) = true := @List.findIdx_getElem _ (fun m : Nat × Nat => m.1 == p) l h
  have e := filter_take_succ (p := p) h
  rw [if_pos hb, List.append_nil, before_first l p _ (Nat.le_refl _)] at e
  have hx : ∀ j, j < l.length * 2 → cur[j]? = (marksB l)[j]? := fun j hj => by
    rw [← ht, List.getElem?_take_of_lt hj]; simp
  refine ⟨hs, by rw [e, List.length_take]; omega, ?_, fun t h' _ => ?_, by omega⟩
  · rw [e]
    have hlen := marksB_length (l.take (firstOf l p))
    apply List.ext_getElem?
    intro t
    rw [List.getElem?_take]
    have hsplit : marksB l = marksB (l.take (firstOf l p)) ++ marksB (l.drop (firstOf l p)) :=
      (congrArg marksB (List.take_append_drop (firstOf l p) l).symm).trans (List.flatMap_append ..)
    rw [List.length_take] at hlen
    by_cases ht' : t < firstOf l p * 2
    · rw [if_pos ht', Array.getElem?_toList, hx t (by omega), hsplit, List.getElem?_append_left (by omega)]
    · rw [if_neg ht', List.getElem?_eq_none (by omega)]
  · rw [hx _ (by omega), hx _ (by omega), Nat.mul_comm]
    exact marksB_at l t h'

theorem set_block {w : World} {g : Nat} {cur : Array Value} {T : TypeId} {fr : Nat × Nat} (hg : w.heap[g]? = some (.cells cur T fr)) (o : Nat) (v : Value) : (w.setCell ⟨g, o, none⟩ v).heap[g]? = some (.cells (cur.setIfInBounds o v) T fr) := by
  simp only [World.setCell, Array.getElem?_modify, if_true, hg, Option.map_some]
  rfl

theorem run_store_at {P : Program} {w : World} {g o : Nat} {cu : Array Value} {T : TypeId} (hg : w.heap[g]? = some (.cells cu T (0, 0))) (ho : o < cu.size) (v : Value) (hv : v.oneCell' = true) :
    (store ⟨g, o, none⟩ v).run P w = .ok () (w.setCell ⟨g, o, none⟩ v) := by
  have h1 := cell_of hg o
  rw [Array.getElem?_eq_getElem ho] at h1
  have h2 := free_of hg o
  cases v <;> first | (simp [store, Sem.run, h1, h2]; done) | simp [Value.oneCell'] at hv

theorem run_storeCells {P : Program} (g : Nat) (T : TypeId) (vs : List Value) : ∀ (w : World) (cu : Array Value) (o i : Nat), w.heap[g]? = some (.cells cu T (0, 0)) → o + i + vs.length ≤ cu.size → (∀ v ∈ vs, v.oneCell' = true) →
    ∃ w' cu', (storeCells ⟨g, o, none⟩ vs i).run P w = .ok () w' ∧ Chg (· = g) w w' ∧ w'.heap[g]? = some (.cells cu' T (0, 0)) ∧ cu'.size = cu.size ∧ ∀ t, t < o + i → cu'[t]? = cu[t]? := by
  induction vs with
  | nil => intro w cu o i hg _ _; exact ⟨w, cu, rfl, Chg.refl _ _, hg, rfl, fun _ _ => rfl⟩
  | cons v vs ih =>
    intro w cu o i hg ho hv
    simp only [List.length_cons] at ho
    have ha : (⟨g, o, none⟩ : Addr).add i = ⟨g, o + i, none⟩ := by unfold Addr.add; split <;> simp_all
    obtain ⟨w', cu', h1, h2, h3, h4, h5⟩ := ih (w.setCell ⟨g, o + i, none⟩ v) (cu.setIfInBounds (o + i) v) o (i + 1) (set_block hg _ _) (by rw [Array.size_setIfInBounds]; omega) (fun u hu => hv u (List.mem_cons_of_mem _ hu))
    refine ⟨w', cu', ?_, ((Chg.refl (· = g) w).setCell (p := ⟨g, o + i, none⟩) (fun _ => rfl) v).trans h2, h3, by rw [h4]; simp, fun t ht => ?_⟩
    · rw [storeCells, ha]
      have hs := run_store_at (P := P) hg (o := o + i) (by omega) v (hv v (List.mem_cons_self ..))
      simp only [Sem.run_bind, hs, Result.andThen]
      exact h1
    · rw [h5 t (by omega), Array.getElem?_setIfInBounds_ne (by omega)]

theorem run_clear_marks {w : World} {g : Nat} {cu : Array Value} (hg : w.heap[g]? = some (.cells cu 105 (0, 0))) (o n c : Nat) (ho : o + n * 2 ≤ cu.size) :
    ∃ w' cu', (∀ ty, (Builtin.clear_ #[99] ty #[.slice (some ⟨g, o, none⟩) n c]).run Tryz.prog w = .ok (.tuple #[]) w') ∧ Chg (· = g) w w' ∧ w'.heap[g]? = some (.cells cu' 105 (0, 0)) ∧ cu'.size = cu.size ∧ ∀ t, t < o → cu'[t]? = cu[t]? := by
  have h1 : Tryz.prog.underlying 99 = some (.slice 105) := by kernel_rfl
  cases n with
  | zero =>
    exact ⟨w, cu, fun ty => by simp [Builtin.clear_, run_underlying h1], Chg.refl _ _, hg, rfl, fun _ _ => rfl⟩
  | succ n =>
    have hvs : ∀ v ∈ (Builtin.zeroCells #[.pointer none, .int .i64 0] (n + 1)).toList, v.oneCell' = true := by
      intro v hv
      simp only [Builtin.zeroCells, Array.mem_toList_iff, Array.mem_map] at hv
      obtain ⟨j, _, rfl⟩ := hv
      have : j % 2 = 0 ∨ j % 2 = 1 := by omega
      rcases this with h | h <;> simp [h, Value.oneCell']
    have hvl : (Builtin.zeroCells #[.pointer none, .int .i64 0] (n + 1)).toList.length = (n + 1) * 2 := by
      simp [Builtin.zeroCells]
    obtain ⟨w', cu', hst, hch', hblk', hsz', hsame⟩ := run_storeCells (P := Tryz.prog) g 105 (Builtin.zeroCells #[.pointer none, .int .i64 0] (n + 1)).toList w cu o 0 hg (by rw [hvl]; omega) hvs
    refine ⟨w', cu', fun ty => ?_, hch', hblk', hsz', hsame⟩
    simp [Builtin.clear_, run_underlying h1, Result.andThen, Value.cells, hst]

set_option maxRecDepth 100000 in
set_option maxHeartbeats 1000000 in
theorem DeleteMarks_calls (g cap p pc : Nat) (l : List (Nat × Nat)) (cur : Array Value) (w : World) (hgc : w.heap[g]? = some (.cells cur 105 (0, 0))) (hsz : cur.size = cap * 2) (hcap : l.length ≤ cap) (htake : cur.toList.take (l.length * 2) = marksB l)
    (hc : w.cell? ⟨pc, 0, none⟩ = some (ptr p)) (hp : pc < w.heap.size) (hpg : pc ≠ g) (hb : ∀ m ∈ l, IsCells w m.1 ∧ m.1 ≠ g) (hpp : IsCells w p) (hpn : p ≠ g) (hsm : l.length ≤ 4611686018427387904) (hcm : cap ≤ maxLen) :
    Calls Tryz.prog 105 #[.slice (some ⟨g, 0, none⟩) l.length cap, .func (.func 106) #[] #[.pointer (some ⟨pc, 0, none⟩)]] w
      fun e w' => e = .returned (.slice (some ⟨g, 0, none⟩) (l.filter fun m => m.1 != p).length cap) ∧ Chg (· = g) w w' ∧
        ∃ cur', w'.heap[g]? = some (.cells cur' 105 (0, 0)) ∧ cur'.size = cap * 2 ∧ cur'.toList.take ((l.filter fun m => m.1 != p).length * 2) = marksB (l.filter fun m => m.1 != p) := by
  have hl : Marks w g l := Marks.of_row hgc htake
  have hg : g < w.heap.size := (IsCells.lt ⟨_, _, hgc⟩)
  unfold maxLen at hcm
  go_enter Tryz.func105, Tryz.ntmps105
  go_wp2_with fail
  refine (IndexMark_calls g cap p pc l _ hl hg hc hp (fun m hm => (hb m hm).1) hpp (by omega)).mono ?_
  rintro e w1 ⟨hf, hb1⟩
  rcases hf with ⟨hlt, rfl⟩ | ⟨hend, rfl⟩
  · have hn : ((firstOf l p : Int) == -1) = false := by rw [beq_eq_false_iff_ne]; omega
    have hstart : Sifted cur cap l p (firstOf l p) (firstOf l p + 1) := sifted_start hsz htake hlt
    have hgc1 : w1.heap[g]? = some (.cells cur 105 (0, 0)) := by rw [hb1.block g hg]; exact hgc
    have HG := Lib.hid hgc1
    have HL := Lib.hid hl
    clear hgc hgc1 htake hl
    go_wp2_with fail
    go_loopw [5, 6, 7] (fun a b _ wr => ∃ i j : Nat, ∃ cu, a = .int .i64 i ∧ b = .int .i64 j ∧ j ≤ l.length ∧ Chg (· = g) w wr ∧ Sifted cu cap l p i j ∧ Hid (wr.heap[g]? = some (.cells cu 105 (0, 0)))) (fun _ b _ _ => l.length - (intOf b).toNat)
    case atStart => exact ⟨firstOf l p, firstOf l p + 1, cur, rfl, by go_num, by omega, Chg.of_below hb1, hstart, HG⟩
    case round =>
      obtain ⟨i, j, cu, rfl, rfl, hj, hch, hs, hgr⟩ := hrel
      have hgl : g < wr.heap.size := Nat.lt_of_lt_of_le hg hch.size
      have hpl : pc < wr.heap.size := Nat.lt_of_lt_of_le hp hch.size
      have hcp : wr.cell? ⟨pc, 0, none⟩ = some (ptr p) := by rw [hch.cell (p := ⟨pc, 0, none⟩) hp hpg]; exact hc
      have hle := hs.le
      by_cases hjl : j < l.length
      · have ib : IsCells wr l[j].1 := (hb l[j] (List.getElem_mem _)).1.keep (hch.block _ (hb l[j] (List.getElem_mem _)).1.lt (hb l[j] (List.getElem_mem _)).2)
        have ip : IsCells wr p := hpp.keep (hch.block _ hpp.lt hpn)
        obtain ⟨m1, m2⟩ := hs.cell hgr.out hjl
        clear hc hpp hb
        cases hq : (l[j].1 == p)
        · have HQ := Lib.hid hq
          clear hq
          unfold ptr at m1 hcp
          go_wp2_with fail
          refine (IsOf_calls l[j].1 l[j].2 p pc _ (by rw [Below.cell ((Below.refl _ _).alloc (Nat.le_refl _) _) (p := ⟨pc, 0, none⟩) hpl]; exact hcp) (by simp; omega) (ib.below ((Below.refl _ _).alloc (Nat.le_refl _) _)) (ip.below ((Below.refl _ _).alloc (Nat.le_refl _) _))).mono ?_
          rintro e w2 ⟨rfl, hb2⟩
          rw [HQ.out]
          have hz2 : wr.heap.size < w2.heap.size := by have := hb2.size; simp at this; omega
          have hblk : w2.heap[wr.heap.size]? = some (.cells #[ptr l[j].1, .int .i64 l[j].2] 105 (0, 0)) := by
            rw [hb2.block _ (by simp)]; show (wr.heap.push _)[wr.heap.size]? = _; simp [ptr]
          have v1 := cell_of hblk 0
          have v2 := cell_of hblk 1
          simp only [List.getElem?_toArray, List.getElem?_cons_succ, List.getElem?_cons_zero] at v1 v2
          have hgr2 : w2.heap[g]? = some (.cells cu 105 (0, 0)) := by
            rw [hb2.block g (by simp; omega), Below.heap_alloc _ _ _ hgl]; exact hgr.out
          have f1 := free_of hgr2 (i * 2)
          have f2 := free_of hgr2 (i * 2 + 1)
          have hcs := hs.size
          have g1 := cell_of hgr2 (i * 2)
          have g2 := cell_of hgr2 (i * 2 + 1)
          rw [Array.getElem?_eq_getElem (by omega)] at g1 g2
          have hfin : Sifted ((cu.setIfInBounds (i * 2) (ptr l[j].1)).setIfInBounds (i * 2 + 1) (.int .i64 l[j].2)) cap l p (i + 1) (j + 1) := hs.keep hjl hcap HQ.out
          have hch2 : Chg (· = g) w w2 := (hch.alloc _).then (Chg.of_below hb2 (F := (· = g))) (fun _ _ h => h)
          have HR := Lib.hid (set_block (set_block hgr2 (i * 2) (ptr l[j].1)) (i * 2 + 1) (.int .i64 l[j].2))
          have HG2 := Lib.hid hgr2
          have HB := Lib.hid hblk
          clear hgr2 hblk
          unfold ptr at v1
          go_wp2
          go_roundw
          case rel =>
            exact ⟨i + 1, j + 1, _, by go_num, by go_num, by omega, (hch2.setCell (fun _ => rfl) _).setCell (fun _ => rfl) _, hfin, HR⟩
          case measure => simp [intOf]; omega
        · have HQ := Lib.hid hq
          clear hq
          unfold ptr at m1 hcp
          go_wp2_with fail
          refine (IsOf_calls l[j].1 l[j].2 p pc _ (by rw [Below.cell ((Below.refl _ _).alloc (Nat.le_refl _) _) (p := ⟨pc, 0, none⟩) hpl]; exact hcp) (by simp; omega) (ib.below ((Below.refl _ _).alloc (Nat.le_refl _) _)) (ip.below ((Below.refl _ _).alloc (Nat.le_refl _) _))).mono ?_
          rintro e w2 ⟨rfl, hb2⟩
          rw [HQ.out]
          have hgr2 : w2.heap[g]? = some (.cells cu 105 (0, 0)) := by
            rw [hb2.block g (by simp; omega), Below.heap_alloc _ _ _ hgl]; exact hgr.out
          have HG2 := Lib.hid hgr2
          clear hgr2
          have hch2 : Chg (· = g) w w2 := (hch.alloc _).then (Chg.of_below hb2 (F := (· = g))) (fun _ _ h => h)
          have hfin : Sifted cu cap l p i (j + 1) := hs.drop hjl HQ.out
          go_wp2
          go_roundw
          case rel =>
            exact ⟨i, j + 1, cu, by go_num, by go_num, by omega, hch2, hfin, HG2⟩
          case measure => simp [intOf]; omega
      · obtain rfl : j = l.length := by omega
        clear hc hpp hb hjl
        have hcs := hs.size
        have hgr' := hgr.out
        have hcnt := hs.count
        have hkept := hs.kept
        rw [List.take_length] at hcnt hkept
        by_cases hic : i = cap
        · subst hic
          have hln : l.length = i := by omega
          have HN := Lib.hid hcnt
          have HK := Lib.hid hkept
          have HB := Lib.hid hgr'
          have HL := Lib.hid hln
          clear hcnt hkept hcs hln
          obtain ⟨w', cu', hcl', hch', hblk', hsz', hsame⟩ := run_clear_marks hgr' 0 0 0 (by omega)
          have hcl2 : ∀ ty, (Builtin.clear_ #[99] ty #[.slice (some ⟨g, 0, none⟩) 0 0]).run Tryz.prog wr = .ok (.tuple #[]) wr := fun ty => by
            have h1 : Tryz.prog.underlying 99 = some (.slice 105) := by kernel_rfl
            simp [Builtin.clear_, run_underlying h1]
          clear hgr' hcl' hch' hblk' hsz' hsame
          go_wp2_with fail
          go_ret
          refine ⟨?_, hch, cu, HB.out, hs.size, ?_⟩
          · have e := HN.out
            exact congrArg (fun n => Ending.returned (Value.slice (some ⟨g, 0, none⟩) n i)) e
          · rw [← HN.out]; exact HK.out
        · obtain ⟨w', cu', hcl, hch', hblk', hsz', hsame⟩ := run_clear_marks hgr' (i * 2) (l.length - i) (cap - i) (by omega)
          have HN := Lib.hid hcnt
          have HK := Lib.hid hkept
          have HS := Lib.hid hsame
          have HB := Lib.hid hblk'
          have HZ := Lib.hid hsz'
          have HC := Lib.hid hcs
          have hgrz := Lib.hid hgr'
          clear hcnt hkept hsame hblk' hsz' hgr' hcs
          go_wp2_with fail
          go_ret
          refine ⟨?_, hch.trans hch', cu', HB.out, by rw [HZ.out]; exact HC.out, ?_⟩
          · have e := HN.out
            exact congrArg (fun n => Ending.returned (Value.slice (some ⟨g, 0, none⟩) n cap)) e
          · rw [← HN.out, ← HK.out]
            apply List.ext_getElem?
            intro t
            rw [List.getElem?_take, List.getElem?_take]
            split
            · rename_i ht; simpa using HS.out t ht
            · rfl
  · have hn : ((-1 : Int) == -1) = true := rfl
    have hno : l.filter (fun m => m.1 != p) = l := by
      rw [List.filter_eq_self]
      intro m hm
      have h2 : ∀ x ∈ l, (fun m : Nat × Nat => m.1 == p) x = false := List.findIdx_eq_length.1 hend
      have := h2 m hm
      simpa [bne] using this
    have HE := Lib.hid hend
    have HT := Lib.hid htake
    have HO := Lib.hid hno
    have HG := Lib.hid hgc
    have HL := Lib.hid hl
    clear hend htake hno hgc hl hc hb hpp
    go_wp2_with fail
    go_ret
    rw [HO.out]
    exact ⟨rfl, Chg.of_below hb1, cur, by rw [hb1.block g hg]; exact HG.out, hsz, HT.out⟩
end Disk
end Go.Proofs.YtlcenkkfcejnbaaGreatDoor
