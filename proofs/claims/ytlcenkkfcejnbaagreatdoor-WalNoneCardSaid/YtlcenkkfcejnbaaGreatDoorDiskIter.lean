/- Going over a disk's map of names; how much room is free. -/
import Derived.Test.YtlcenkkfcejnbaaGreatDoorDiskUnlink
namespace Go.Proofs.YtlcenkkfcejnbaaGreatDoor
open Go.RowKit
open Go.ChangeMaps (setBlock)
namespace Disk

/-- The map's entries and the files that they are of. -/
structure View (L : Lay) (fs : List File) (es : Array MapEntry) (clock : Nat) (B : File → Nat) : Prop where
  file : ∀ e ∈ es.toList, ∃ f ∈ fs, B f = e.born ∧ e.val = L.page f
  back : ∀ f ∈ fs, ∃ e ∈ es.toList, e.born = B f
  inj : ∀ f ∈ fs, ∀ g ∈ fs, B f = B g → f = g
  nodup : (es.toList.map (·.born)).Nodup
  old : ∀ e ∈ es.toList, e.born < clock

theorem view_lists (L : Lay) : ∀ (fs : List File) (es : List MapEntry), es.map (fun e => (e.key, e.val)) = fs.map (pair L) → (fs.map (·.id)).Nodup →
    ∃ B : Nat → Nat, (∀ e ∈ es, ∃ f ∈ fs, B f.id = e.born ∧ e.val = L.page f) ∧ ∀ f ∈ fs, ∃ e ∈ es, e.born = B f.id ∧ e.val = L.page f := by
  intro fs
  induction fs with
  | nil =>
    intro es h _
    obtain rfl : es = [] := by simpa using h
    exact ⟨fun _ => 0, by simp, by simp⟩
  | cons f fs ih =>
    intro es h hn
    cases es with
    | nil => simp at h
    | cons e es =>
      simp only [List.map_cons, List.cons.injEq, pair, Prod.mk.injEq] at h
      rw [List.map_cons, List.nodup_cons] at hn
      obtain ⟨B, h1, h2⟩ := ih es h.2 hn.2
      have hne : ∀ g ∈ fs, g.id ≠ f.id := fun g hg e => hn.1 (List.mem_map.2 ⟨g, hg, e⟩)
      refine ⟨fun i => if i = f.id then e.born else B i, ?_, ?_⟩
      · intro x hx
        rcases List.mem_cons.1 hx with hx | hx
        · exact ⟨f, List.mem_cons_self .., by simp [hx], by rw [hx]; exact h.1.2⟩
        · obtain ⟨g, hg, h3, h4⟩ := h1 x hx
          exact ⟨g, List.mem_cons_of_mem _ hg, by simp only [if_neg (hne g hg)]; exact h3, h4⟩
      · intro g hg
        rcases List.mem_cons.1 hg with hg | hg
        · exact ⟨e, List.mem_cons_self .., by simp [hg], by rw [hg]; exact h.1.2⟩
        · obtain ⟨x, hx, h3, h4⟩ := h2 g hg
          exact ⟨x, List.mem_cons_of_mem _ hx, by simp only [if_neg (hne g hg)]; exact h3, h4⟩

theorem nodup_born {es : List MapEntry} (hn : (es.map (·.born)).Nodup) {a b : MapEntry} (ha : a ∈ es) (hb : b ∈ es) (e : a.born = b.born) : a = b := by
  induction es with
  | nil => cases ha
  | cons x es ih =>
    rw [List.map_cons, List.nodup_cons] at hn
    rcases List.mem_cons.1 ha with e1 | ha1
    · rcases List.mem_cons.1 hb with e2 | hb1
      · rw [e1, e2]
      · exact (hn.1 (List.mem_map.2 ⟨b, hb1, by rw [← e, e1]⟩)).elim
    · rcases List.mem_cons.1 hb with e2 | hb1
      · exact (hn.1 (List.mem_map.2 ⟨a, ha1, by rw [e, e2]⟩)).elim
      · exact ih hn.2 ha1 hb1

theorem DiskAt.view {w : World} {d : Nat} {σ : DS} {L : Lay} (h : DiskAt w d σ L) : ∃ es clock B, w.heap[L.m]? = some (.map es clock) ∧ View L σ.files es clock B := by
  obtain ⟨es, clock, h1, h2, h3, h4⟩ := h.map
  obtain ⟨B, b1, b2⟩ := view_lists L σ.files es.toList h2 h.wf.ids
  refine ⟨es, clock, fun f => B f.id, h1, b1, fun f hf => ?_, fun f hf g hg e => ?_, h3, h4⟩
  · obtain ⟨x, hx, e, _⟩ := b2 f hf; exact ⟨x, hx, e⟩
  · obtain ⟨x, hx, e1, v1⟩ := b2 f hf
    obtain ⟨y, hy, e2, v2⟩ := b2 g hg
    have hxy : x = y := nodup_born h3 hx hy (by rw [e1, e2]; exact e)
    rw [hxy, v2] at v1
    refine h.blks f hf g hg ?_
    simp only [Lay.page, ptr, Value.pointer.injEq, Option.some.injEq, Addr.mk.injEq] at v1
    exact v1.1.symm

/-- One step over the map: all files were seen, or one that was not. -/
theorem View.next {L : Lay} {fs : List File} {es : Array MapEntry} {clock : Nat} {B : File → Nat} (v : View L fs es clock B) {wr : World} {r : Nat} {seen : Array Nat}
    (hr : wr.heap[r]? = some (.mapIter (some L.m) clock seen clock)) (hm : wr.heap[L.m]? = some (.map es clock)) :
    ((∀ f ∈ fs, seen.contains (B f) = true) ∧ ∀ ty, (Instr.next (.pointer (some ⟨r, 0, none⟩)) false ty).run Tryz.prog wr = .ok (.tuple #[.bool false]) wr) ∨
    ∃ f ∈ fs, seen.contains (B f) = false ∧ ∃ w1 key, (∀ ty, (Instr.next (.pointer (some ⟨r, 0, none⟩)) false ty).run Tryz.prog wr = .ok (.tuple #[.bool true, key, L.page f]) w1) ∧ Chg (· = r) wr w1 ∧
      w1.heap[r]? = some (.mapIter (some L.m) clock (seen.push (B f)) clock) ∧
      ∀ w2, w2.heap[r]? = w1.heap[r]? → w2.heap[L.m]? = wr.heap[L.m]? → (Instr.entry (.pointer (some ⟨r, 0, none⟩))).run Tryz.prog w2 = .ok (.tuple #[key, L.page f]) w2 := by
  have hne : r ≠ L.m := fun e => by rw [e, hm] at hr; cases hr
  rcases run_next_at (P := Tryz.prog) wr 0 r L.m clock clock seen es clock hr hm v.old (Nat.le_refl _) with ⟨h0, h1⟩ | ⟨e, he, w1, hw1, h1⟩
  · left
    refine ⟨fun f hf => ?_, fun ty => h1⟩
    obtain ⟨e, he, hb⟩ := v.back f hf
    cases hc : seen.contains (B f)
    · have : e ∈ (leftOf es seen).toList := by
        unfold leftOf
        simp only [Array.mem_toList_iff, Array.mem_filter, Bool.not_eq_true'] at he ⊢
        exact ⟨he, by rw [hb]; exact hc⟩
      have hz : (leftOf es seen).toList = [] := List.eq_nil_of_length_eq_zero (by simpa using h0)
      rw [hz] at this; cases this
    · rfl
  · right
    unfold leftOf at he
    simp only [Array.mem_toList_iff, Array.mem_filter, Bool.not_eq_true'] at he
    obtain ⟨f, hf, hb, hv⟩ := v.file e (by simpa using he.1)
    refine ⟨f, hf, by rw [hb]; exact he.2, _, e.key, fun ty => by rw [← hv]; exact h1, ?_, ?_, fun w2 hr2 hm2 => ?_⟩
    · have hc : Chg (· = r) wr w1 := by rcases hw1 with rfl | rfl; exact Chg.refl _ _; exact (Chg.refl _ _).drew
      exact hc.trans (setBlock_chg _ _ _)
    · rw [hb]
      refine setBlock_get (o := .mapIter (some L.m) clock seen clock) ?_
      rcases hw1 with rfl | rfl <;> exact hr
    · rw [← hv]
      refine run_entry_at (P := Tryz.prog) w2 r L.m clock seen es clock e ?_ (by rw [hm2]; exact hm) (by simpa using he.1) v.nodup
      rw [hr2]
      refine setBlock_get (o := .mapIter (some L.m) clock seen clock) ?_
      rcases hw1 with rfl | rfl <;> exact hr

theorem used_erase {l : List File} {f : File} (h : f ∈ l) : used l = used (l.erase f) + (sectors f.all.length + 1) := by
  induction l with
  | nil => cases h
  | cons a l ih =>
    rw [List.erase_cons]
    split
    · rename_i e
      obtain rfl : a = f := by simpa using e
      simp [used]; omega
    · rename_i e
      have : f ∈ l := by
        rcases List.mem_cons.1 h with h | h
        · exact absurd h.symm (by simpa using e)
        · exact h
      have := ih this
      simp [used] at this ⊢; omega

theorem sectors_int (n : Nat) : ((sectors n : Nat) : Int) = (n : Int) / 16 + min ((n : Int) % 16) 1 := by
  unfold sectors; omega

set_option maxHeartbeats 400000 in
theorem Sectors_calls (n : Nat) (w : World) (h : n ≤ maxLen) :
    Calls Tryz.prog 70 #[.int .i64 n] w fun e w' => e = .returned (.int .i64 (sectors n : Nat)) ∧ w = w' := by
  unfold maxLen at h
  have H := Lib.hid (sectors_int n)
  go_enter Tryz.func70, Tryz.ntmps70
  go_wp2
  all_goals
    go_ret
    refine ⟨ret_int ?_, rfl⟩
    rw [H.out]
    omega

theorem DiskAt.page_cells {w : World} {d : Nat} {σ : DS} {L : Lay} (h : DiskAt w d σ L) {f : File} (hf : f ∈ σ.files) : ∃ a c, L.arr f.id = .slice a f.all.length c ∧ f.all.length ≤ maxLen ∧ f.all.length ≤ c ∧ w.heap[L.blk f.id]? = some (.cells #[.slice a f.all.length c, .int .i64 f.written] 107 (0, 0)) := by
  have h1 := h.pages f hf
  rcases h1.arr.2 with ⟨h2, h3⟩ | ⟨g, cap, cur, h2, _, _, h3, h4, _⟩
  · have := h1.self
    rw [h2] at this
    exact ⟨none, 0, by rw [h2, h3], by rw [h3]; unfold maxLen; omega, by omega, by rw [h3]; exact this⟩
  · have := h1.self
    rw [h2] at this
    exact ⟨_, _, h2, by omega, h3, this⟩

theorem DS.Wf.used_le {σ : DS} (h : σ.Wf) : used σ.files ≤ 1073741824 := by
  have h2 := h.free
  have h3 := h.room
  unfold DS.free at h2
  omega

theorem nodup_files {l : List File} (h : (l.map (·.id)).Nodup) : l.Nodup := by
  induction l with
  | nil => exact List.nodup_nil
  | cons a l ih =>
    rw [List.map_cons, List.nodup_cons] at h
    exact List.nodup_cons.2 ⟨fun hm => h.1 (List.mem_map.2 ⟨a, hm, rfl⟩), ih h.2⟩

set_option maxRecDepth 100000 in
set_option maxHeartbeats 400000 in
theorem Free_calls (d : Nat) (σ : DS) (L : Lay) (w : World) (h : DiskAt w d σ L) :
    Calls Tryz.prog 71 #[ptr d] w fun e w' => e = .returned (.int .i64 σ.free) ∧ Below w.heap.size w w' := by
  have hc0 := h.cell 0
  have hc1 := h.cell 1
  simp only [List.getElem?_toArray, List.getElem?_cons_succ, List.getElem?_cons_zero] at hc0 hc1
  obtain ⟨es, clock, B, hm, hv⟩ := h.view
  have hml := h.lt L.m (.inr (.inl rfl))
  have hfr := h.wf.free
  have hus := h.wf.used_le
  have hrm := h.wf.room
  have hrg : ∀ w, w.heap[L.m]? = some (.map es clock) → (Instr.range 98 (.map (some L.m))).run Tryz.prog w = .ok (.pointer (some ⟨w.heap.size, 0, none⟩)) (w.alloc (.mapIter (some L.m) clock #[] clock)) := by
    intro w hm
    simp only [Instr.range, Sem.run_bind, run_underlying und_map, Result.andThen_ok, MapKept.run_getObj_map hm, Sem.run_pure]
    rfl
  have hrg1 := hrg w hm
  have hfr2 : σ.free ≤ 1073741824 := by unfold DS.free; omega
  have hus2 : σ.room = σ.free + used σ.files := by unfold DS.free; omega
  have HU := Lib.hid hus2
  clear hrg hus2
  unfold ptr at *
  go_enter Tryz.func71, Tryz.ntmps71
  go_wp2_with fail
  go_loopw [3, 5] (fun n _ wr => ∃ (rem : List File) (seen : Array Nat), n = .int .i64 (σ.free + used rem) ∧ Below w.heap.size w wr ∧ Hid (wr.heap[w.heap.size]? = some (.mapIter (some L.m) clock seen clock)) ∧ Hid (rem.Nodup) ∧ Hid (∀ f, f ∈ rem ↔ f ∈ σ.files ∧ seen.contains (B f) = false) ∧ used rem ≤ used σ.files) (fun n _ _ => (intOf n - σ.free).toNat)
  case atStart =>
    refine ⟨σ.files, #[], ?_, (Below.refl _ _).alloc (Nat.le_refl _) _, ?_, ?_, fun f => ?_, Nat.le_refl _⟩
    · rw [HU.out]
    · show (w.heap.push _)[w.heap.size]? = _; simp
    · exact nodup_files h.wf.ids
    · simp
  case round =>
    obtain ⟨rem, seen, rfl, hbl, hit, hnd, hmem, hle⟩ := hrel
    have hmr : wr.heap[L.m]? = some (.map es clock) := by rw [hbl.block _ hml]; exact hm
    rcases hv.next hit.out hmr with ⟨hall, hnx⟩ | ⟨f, hf, hns, w1, key, hnx, hch, hit1, hen⟩
    · have hemp : used rem = 0 := by
        cases rem with
        | nil => rfl
        | cons g rem =>
          have := (hmem.out g).1 (List.mem_cons_self ..)
          rw [hall g this.1] at this
          cases this.2
      have HE := Lib.hid hemp
      clear hemp hmr hall
      go_wp2
      go_ret
      refine ⟨ret_int ?_, hbl⟩
      rw [HE.out]; omega
    · obtain ⟨a, c, hl1, hl2, hl3, hpg⟩ := h.page_cells hf
      have hfr' : f ∈ rem := (hmem.out f).2 ⟨hf, hns⟩
      have hue := used_erase hfr'
      have hb1 : Below w.heap.size w w1 := ⟨hch.os.trans hbl.os, hch.tape.trans hbl.tape, hch.output.trans hbl.output, Nat.le_trans hbl.size hch.size, fun k hk => by rw [hch.block k (Nat.lt_of_lt_of_le hk hbl.size) (by omega)]; exact hbl.block k hk⟩
      have hen1 := hen w1 rfl (by rw [hb1.block _ hml, hbl.block _ hml])
      have hpl := h.lt (L.blk f.id) (.inr (.inr (.inr ⟨f, hf, .inl rfl⟩)))
      have hpg1 : w1.heap[L.blk f.id]? = some (.cells #[.slice a f.all.length c, .int .i64 f.written] 107 (0, 0)) := by rw [hb1.block _ hpl]; exact hpg
      have p0 := cell_of hpg1 0
      simp only [List.getElem?_toArray, List.getElem?_cons_zero] at p0
      have hrel : Hid (∀ g, g ∈ rem.erase f ↔ g ∈ σ.files ∧ (seen.push (B f)).contains (B g) = false) := by
        show ∀ _, _ ↔ _
        intro g
        rw [hnd.out.mem_erase_iff, hmem.out g]
        constructor
        · rintro ⟨h1, h2, h3⟩
          refine ⟨h2, ?_⟩
          rw [Array.contains_push, h3, Bool.false_or, beq_eq_false_iff_ne]
          exact fun e => h1 (hv.inj g h2 f hf e)
        · rintro ⟨h1, h2⟩
          rw [Array.contains_push, Bool.or_eq_false_iff, beq_eq_false_iff_ne] at h2
          exact ⟨fun e => h2.2 (by rw [e]), h1, h2.1⟩
      have HE := Lib.hid hue
      have HI := Lib.hid hit1
      have hle2 : sectors f.all.length + 1 ≤ used rem := by omega
      clear hpg hpg1 hue hit1 hmr
      unfold Lay.page ptr at hnx hen1
      go_wp2_with (first | (go_at_call 70; refine (Sectors_calls f.all.length _ hl2).mono ?_; rintro e w' ⟨rfl, rfl⟩))
      go_roundw
      case rel =>
        refine ⟨rem.erase f, seen.push (B f), ?_, hb1, HI, hnd.out.erase _, hrel, ?_⟩
        · have := HE.out
          exact congrArg (Value.int .i64) (by omega)
        · have := HE.out; omega
      case measure =>
        have := HE.out
        simp [intOf]; omega
end Disk
end Go.Proofs.YtlcenkkfcejnbaaGreatDoor
