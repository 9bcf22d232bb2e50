/- What forget, unlink and soil make of a disk in memory. -/
import Derived.Test.YtlcenkkfcejnbaaGreatDoorDiskContains
namespace Go.Proofs.YtlcenkkfcejnbaaGreatDoor
open Go.RowKit
namespace Disk

theorem nodup_sub_len : ∀ (l m : List (Nat × Nat)), l.Nodup → (∀ x ∈ l, x ∈ m) → l.length ≤ m.length := by
  intro l
  induction l with
  | nil => intro m _ _; simp
  | cons a l ih =>
    intro m hn hs
    rw [List.nodup_cons] at hn
    have ha := hs a (List.mem_cons_self ..)
    have := ih (m.erase a) hn.2 fun x hx => by
      refine (List.mem_erase_of_ne ?_).2 (hs x (List.mem_cons_of_mem _ hx))
      intro e; exact hn.1 (e ▸ hx)
    rw [List.length_erase_of_mem ha] at this
    have hp : 0 < m.length := List.length_pos_of_mem ha
    simp; omega

theorem dirty_len (l : List (Nat × Nat)) (fs : List File) (hn : l.Nodup) (hd : ∀ m ∈ l, ∃ f ∈ fs, f.id = m.1 ∧ m.2 < sectors f.all.length) : l.length ≤ used fs := by
  refine Nat.le_trans (nodup_sub_len l (fs.flatMap fun f => (List.range (sectors f.all.length)).map fun n => (f.id, n)) hn ?_) ?_
  · rintro ⟨i, n⟩ hm
    obtain ⟨f, hf, h1, h2⟩ := hd _ hm
    exact List.mem_flatMap.2 ⟨f, hf, List.mem_map.2 ⟨n, List.mem_range.2 h2, by simp at h1; rw [h1]⟩⟩
  · clear hn hd
    induction fs with
    | nil => simp [used]
    | cons f fs ih => simp [used] at ih ⊢; omega

theorem DS.Wf.line_len {σ : DS} (h : σ.Wf) : σ.line.length ≤ 1073741824 := by
  have h1 := dirty_len σ.line σ.files h.line h.dirty
  have h2 := h.free
  have h3 := h.room
  unfold DS.free at h2
  omega

def Lay.blocks (L : Lay) (l : List (Nat × Nat)) : List (Nat × Nat) := l.map fun m => (L.blk m.1, m.2)
theorem marks_blocks (L : Lay) (l : List (Nat × Nat)) : L.marks l = marksB (L.blocks l) := by
  simp [Lay.marks, marksB, Lay.blocks, List.flatMap_map]

theorem DiskAt.page {w : World} {d : Nat} {σ : DS} {L : Lay} (h : DiskAt w d σ L) {f : File} (hf : f ∈ σ.files) : IsCells w (L.blk f.id) := ⟨_, _, (h.pages f hf).self⟩
theorem DiskAt.line_block {w : World} {d : Nat} {σ : DS} {L : Lay} (h : DiskAt w d σ L) {g : Nat} (hg : L.line.ownBlock = some g) : ∃ cur, w.heap[g]? = some (.cells cur 105 (0, 0)) := by
  rcases h.line.2 with ⟨h1, h2⟩ | ⟨g', cap, cur, h1, _, h2, _⟩
  · rw [h1] at hg; simp [Value.ownBlock] at hg
  · rw [h1] at hg
    simp only [Value.ownBlock, Option.some.injEq] at hg
    subst hg
    exact ⟨cur, h2⟩
theorem DiskAt.arr_block {w : World} {d : Nat} {σ : DS} {L : Lay} (h : DiskAt w d σ L) {f : File} (hf : f ∈ σ.files) {g : Nat} (hg : (L.arr f.id).ownBlock = some g) : ∃ cur, w.heap[g]? = some (.cells cur 5 (0, 0)) := by
  rcases (h.pages f hf).arr.2 with ⟨h1, h2⟩ | ⟨g', cap, cur, h1, _, h2, _⟩
  · rw [h1] at hg; simp [Value.ownBlock] at hg
  · rw [h1] at hg
    simp only [Value.ownBlock, Option.some.injEq] at hg
    subst hg
    exact ⟨cur, h2⟩
theorem DiskAt.line_ne {w : World} {d : Nat} {σ : DS} {L : Lay} (h : DiskAt w d σ L) {f : File} (hf : f ∈ σ.files) : L.line.ownBlock ≠ some (L.blk f.id) := fun e => by
  obtain ⟨cur, hc⟩ := h.line_block e
  rw [(h.pages f hf).self] at hc
  simp at hc

theorem DiskAt.lineAt {w : World} {d : Nat} {σ : DS} {L : Lay} (h : DiskAt w d σ L) : LineAt w L.line (L.blocks σ.line) where
  row := by
    have := h.line
    rw [marks_blocks] at this
    simpa [Lay.blocks] using this
  cells := by
    rintro ⟨b, n⟩ hm
    obtain ⟨⟨i, n'⟩, hm', e⟩ := List.mem_map.1 hm
    simp only [Prod.mk.injEq] at e
    obtain ⟨f, hf, hi, _⟩ := h.wf.dirty _ hm'
    simp only at hi
    rw [← e.1, ← hi]
    exact ⟨h.page hf, h.line_ne hf⟩
  small := by simpa [Lay.blocks] using h.wf.line_len

/-- What a step leaves of a disk: the new state, somewhere in what was the disk's or is new. -/
structure Step (w : World) (d : Nat) (σ : DS) (L : Lay) (σ' : DS) (L' : Lay) (w' : World) : Prop where
  at_ : DiskAt w' d σ' L'
  m : L'.m = L.m
  foot : ∀ k, k < w.heap.size → L'.foot d σ'.files k → L.foot d σ.files k
  chg : Chg (L.foot d σ.files) w w'

theorem Step.trans {w w1 w2 : World} {d : Nat} {σ σ1 σ2 : DS} {L L1 L2 : Lay} (h : Step w d σ L σ1 L1 w1) (k : Step w1 d σ1 L1 σ2 L2 w2) : Step w d σ L σ2 L2 w2 :=
  ⟨k.at_, k.m.trans h.m, fun i hi hf => h.foot i hi (k.foot i (Nat.lt_of_lt_of_le hi h.chg.size) hf), h.chg.then k.chg fun i hi hf => h.foot i hi hf⟩
theorem Step.refl {w : World} {d : Nat} {σ : DS} {L : Lay} (h : DiskAt w d σ L) : Step w d σ L σ L w := ⟨h, rfl, fun _ _ h => h, Chg.refl _ _⟩
theorem Step.below {w w1 : World} {d : Nat} {σ : DS} {L : Lay} (h : DiskAt w d σ L) (hb : Below w.heap.size w w1) : Step w d σ L σ L w1 := ⟨h.below hb, rfl, fun _ _ h => h, Chg.of_below hb⟩

/-- The disk's own cells are written, and its line is another. -/
theorem DiskAt.put {w w' : World} {d : Nat} {σ σ' : DS} {L : Lay} (h : DiskAt w d σ L) (v : Value) (hf : σ'.files = σ.files) (hr : σ'.room = σ.room) (hn : σ'.next = σ.next)
    (hs : w'.heap[d]? = some (.cells #[.int .i64 σ'.room, .map (some L.m), v, .bool σ'.dark, .int .i64 σ'.ops, .int .i64 σ'.plan, .int .i64 σ'.keep] 101 (0, 0)))
    (ho : ∀ k, k ≠ d → L.line.ownBlock ≠ some k → L.foot d σ.files k → w'.heap[k]? = w.heap[k]?)
    (hl : w'.ownsRow 0 105 2 v σ'.line.length (L.marks σ'.line)) (hnd : σ'.line.Nodup) (hdi : ∀ m ∈ σ'.line, ∃ f ∈ σ.files, f.id = m.1 ∧ m.2 < sectors f.all.length) :
    DiskAt w' d σ' { L with line := v } := by
  have hm : L.m ≠ d := by
    obtain ⟨es, c, hm, _⟩ := h.map
    intro e; rw [e, h.self] at hm; cases hm
  have hml : L.line.ownBlock ≠ some L.m := fun e => by
    obtain ⟨cur, hc⟩ := h.line_block e
    obtain ⟨es, c, hm, _⟩ := h.map
    rw [hm] at hc; cases hc
  refine ⟨⟨hr ▸ h.wf.room, ?_, hf ▸ h.wf.most, hf ▸ h.wf.names, hf ▸ h.wf.ids, by rw [hf, hn]; exact h.wf.next, by rw [hf]; exact h.wf.written, hnd, by rw [hf]; exact hdi, by rw [hf]; exact h.wf.good⟩, hs, ?_, ?_, hl, ?_, ?_⟩
  · have := h.wf.free
    unfold DS.free at *
    rw [hf, hr]; exact this
  · obtain ⟨es, c, h1, h2, h3⟩ := h.map
    exact ⟨es, c, by show w'.heap[L.m]? = _; rw [ho L.m hm hml (.inr (.inl rfl))]; exact h1, by rw [hf]; exact h2, h3⟩
  · rw [hf]
    intro f hm'
    have hp := h.pages f hm'
    refine ⟨?_, ownsRow_keep hp.arr fun k hk => ?_⟩
    · show w'.heap[L.blk f.id]? = _
      rw [ho _ (fun e => ?_) (h.line_ne hm') (.inr (.inr (.inr ⟨f, hm', .inl rfl⟩)))]
      · exact hp.self
      · have := hp.self; rw [e, h.self] at this; simp at this
    · refine ho _ (fun e => ?_) (fun e => ?_) (.inr (.inr (.inr ⟨f, hm', .inr hk⟩)))
      · obtain ⟨cur, hc⟩ := h.arr_block hm' hk
        rw [e, h.self] at hc; simp at hc
      · obtain ⟨cur, hc⟩ := h.arr_block hm' hk
        obtain ⟨cur', hc'⟩ := h.line_block e
        rw [hc] at hc'; simp at hc'
  · rw [hf]; exact h.blks
  · rw [hf]; exact h.arrs

set_option maxHeartbeats 400000 in
theorem DeleteMarks_nil (_p pc : Nat) (w : World) :
    Calls Tryz.prog 105 #[.slice none 0 0, .func (.func 106) #[] #[.pointer (some ⟨pc, 0, none⟩)]] w
      fun e w' => e = .returned (.slice none 0 0) ∧ w = w' := by
  have key : Hid (∀ w, Calls Tryz.prog 130 #[.slice none 0 0, .func (.func 106) #[] #[.pointer (some ⟨pc, 0, none⟩)]] w fun e w' => e = .returned (.int .i64 (-1)) ∧ w = w') := by
    intro w
    go_enter Tryz.func130, Tryz.ntmps130
    go_wp2
    go_loop [5, 8] (fun _ i => i = .int .i64 0) (fun _ i => 0)
    case atStart => rfl
    case round =>
      obtain rfl := hrel
      go_wp2
      go_ret
      exact ⟨rfl, rfl⟩
  go_enter Tryz.func105, Tryz.ntmps105
  go_wp2_with (first | (go_at_call 130; refine (key.out _).mono ?_; rintro e w1 ⟨rfl, rfl⟩))
  go_ret
  exact ⟨rfl, rfl⟩

theorem DeleteMarks_any (v : Value) (p pc : Nat) (l : List (Nat × Nat)) (w : World) (hl : LineAt w v l)
    (hc : w.cell? ⟨pc, 0, none⟩ = some (ptr p)) (hp : pc < w.heap.size) (hpg : v.ownBlock ≠ some pc) (hpp : IsCells w p) (hpn : v.ownBlock ≠ some p) :
    Calls Tryz.prog 105 #[v, .func (.func 106) #[] #[.pointer (some ⟨pc, 0, none⟩)]] w
      fun e w' => ∃ v', e = .returned v' ∧ v'.ownBlock = v.ownBlock ∧ Chg (fun k => v.ownBlock = some k) w w' ∧ w'.ownsRow 0 105 2 v' (l.filter fun m => m.1 != p).length (marksB (l.filter fun m => m.1 != p)) := by
  rcases hl.open_ with ⟨rfl, rfl⟩ | ⟨g, cap, cur, rfl, h2, h3, h4, h5, h6⟩
  · refine (DeleteMarks_nil p pc w).mono ?_
    rintro e w1 ⟨rfl, rfl⟩
    exact ⟨_, rfl, rfl, Chg.refl _ _, rfl, .inl ⟨rfl, rfl⟩⟩
  · refine (DeleteMarks_calls g cap p pc l cur w h2 h5 h3 h6 hc hp (fun e => hpg (by rw [e]; rfl)) (fun m hm => ⟨(hl.cells m hm).1, fun e => (hl.cells m hm).2 (by rw [e]; rfl)⟩) hpp (fun e => hpn (by rw [e]; rfl)) (by have := hl.small; omega) h4).mono ?_
    rintro e w1 ⟨rfl, hch, cur', c1, c2, c3⟩
    refine ⟨_, rfl, rfl, hch.mono fun k _ hk => by rw [hk]; rfl, marksB_length _, .inr ⟨g, cap, cur', rfl, Nat.zero_le _, c1, Nat.le_trans (List.length_filter_le _ _) h3, h4, c2, c3⟩⟩

theorem row_slice {w : World} {b e n m : Nat} {v : Value} {xs : List Value} (h : w.ownsRow b e n v m xs) : ∃ a k c, v = .slice a k c := by
  rcases h.2 with ⟨h, _⟩ | ⟨g, cap, cur, h, _⟩ <;> exact ⟨_, _, _, h⟩

theorem filter_blocks (L : Lay) (l : List (Nat × Nat)) (id : Nat) (h : ∀ m ∈ l, L.blk m.1 = L.blk id → m.1 = id) : (L.blocks l).filter (fun m => m.1 != L.blk id) = L.blocks (l.filter fun m => m.1 != id) := by
  induction l with
  | nil => rfl
  | cons a l ih =>
    have h1 := ih fun m hm => h m (List.mem_cons_of_mem _ hm)
    have h2 := h a (List.mem_cons_self ..)
    simp only [Lay.blocks, List.map_cons, List.filter_cons] at h1 ⊢
    by_cases e : a.1 = id
    · have e1 : (L.blk a.1 != L.blk id) = false := by simp [e]
      have e2 : (a.1 != id) = false := by simp [e]
      rw [e1, e2]; simpa using h1
    · have e1 : (L.blk a.1 != L.blk id) = true := by simp; exact fun h => e (h2 h)
      have e2 : (a.1 != id) = true := by simp [e]
      rw [e1, e2]; simp [h1]

def Forgot (w : World) (d : Nat) (σ : DS) (L : Lay) (id : Nat) (w' : World) : Prop := ∃ L' : Lay, Step w d σ L (σ.forget id) L' w' ∧ L'.blk = L.blk ∧ L'.arr = L.arr

set_option maxRecDepth 100000 in
set_option maxHeartbeats 400000 in
theorem Forget_calls (d : Nat) (σ : DS) (L : Lay) (f : File) (w : World) (h : DiskAt w d σ L) (hf : f ∈ σ.files) :
    Calls Tryz.prog 77 #[ptr d, ptr (L.blk f.id)] w fun e w' => e = .returned (.tuple #[]) ∧ Forgot w d σ L f.id w' := by
  have hc2 := h.cell 2
  simp only [List.getElem?_toArray, List.getElem?_cons_succ, List.getElem?_cons_zero] at hc2
  have hd := h.lt d (.inl rfl)
  have hlf : ∀ k, L.line.ownBlock = some k → k < w.heap.size := fun k hk => h.lt k (.inr (.inr (.inl hk)))
  have hA : Below w.heap.size w (w.alloc (.cells #[ptr (L.blk f.id)] 103)) := (Below.refl _ _).alloc (Nat.le_refl _) _
  have hAt := h.below hA
  have hcp : (w.alloc (.cells #[ptr (L.blk f.id)] 103)).cell? ⟨w.heap.size, 0, none⟩ = some (ptr (L.blk f.id)) := by
    have : (w.alloc (.cells #[ptr (L.blk f.id)] 103)).heap[w.heap.size]? = some (.cells #[ptr (L.blk f.id)] 103 (0, 0)) := by
      show (w.heap.push _)[w.heap.size]? = _; simp
    rw [cell_of this]; rfl
  have hD := DeleteMarks_any L.line (L.blk f.id) w.heap.size (L.blocks σ.line) _ hAt.lineAt hcp (by simp) (fun e => by have := hlf _ e; omega) (hAt.page hf) (hAt.line_ne hf)
  rw [filter_blocks L σ.line f.id (fun m hm e => by
    obtain ⟨g, hg, hi, _⟩ := h.wf.dirty m hm
    rw [← hi] at e ⊢
    rw [h.blks g hg f hf e])] at hD
  have HD := Lib.hid hD
  have HA := Lib.hid hAt
  clear hD hAt
  unfold ptr at *
  go_enter Tryz.func77, Tryz.ntmps77
  go_wp2_with fail
  refine HD.out.mono ?_
  rintro e w1 ⟨v', rfl, hv', hch, hrow⟩
  obtain ⟨va, vn, vc, rfl⟩ := row_slice hrow
  have hself : w1.heap[d]? = some (.cells #[.int .i64 σ.room, .map (some L.m), L.line, .bool σ.dark, .int .i64 σ.ops, .int .i64 σ.plan, .int .i64 σ.keep] 101 (0, 0)) := by
    rw [hch.block d (by simp; omega) (fun e => ?_)]
    · exact HA.out.self
    · obtain ⟨cur, hc⟩ := h.line_block e
      rw [h.self] at hc; simp at hc
  have x1 := cell_of hself 2
  have x2 := free_of hself 2
  simp only [List.getElem?_toArray, List.getElem?_cons_succ, List.getElem?_cons_zero] at x1
  have HS := Lib.hid hself
  have HR := Lib.hid hrow
  have HV := Lib.hid hv'
  clear hself hrow hv'
  go_wp2
  go_end0
  have hset := set_block HS.out 2 (.slice va vn vc)
  have hAf := HA.out
  have hput : DiskAt (w1.setCell ⟨d, 2, none⟩ (.slice va vn vc)) d (σ.forget f.id) { L with line := .slice va vn vc } := by
    refine hAf.put (σ' := σ.forget f.id) _ rfl rfl rfl hset (fun k hk hkl hkf => ?_) ?_ ?_ ?_
    · rw [Below.heap_setCell _ _ _ _ hk, hch.block k (hAf.lt k hkf) hkl]
    · have hrow := HR.out
      rw [marks_blocks]
      refine ownsRow_keep ?_ (fun k hk => Below.heap_setCell _ _ _ _ fun e => ?_)
      · simpa [Lay.blocks, DS.forget] using hrow
      · rw [HV.out] at hk
        obtain ⟨cur, hc⟩ := h.line_block hk
        have e' : k = d := e
        rw [e', h.self] at hc; simp at hc
    · exact h.wf.line.sublist List.filter_sublist
    · intro m hm
      exact h.wf.dirty m (List.mem_filter.1 hm).1
  refine ⟨rfl, _, ⟨hput, rfl, ?_, ?_⟩, rfl, rfl⟩
  · rintro k hk (h1 | h1 | h1 | h1)
    · exact .inl h1
    · exact .inr (.inl h1)
    · exact .inr (.inr (.inl (by rw [← HV.out]; exact h1)))
    · exact .inr (.inr (.inr h1))
  · have c1 : Chg (L.foot d σ.files) w w1 := ((Chg.refl (L.foot d σ.files) w).alloc (.cells #[ptr (L.blk f.id)] 103)).then (hch.mono fun k _ hk => (show L.foot d σ.files k from .inr (.inr (.inl hk)))) (fun _ _ h => h)
    exact c1.setCell (fun _ => .inl rfl) _
end Disk
end Go.Proofs.YtlcenkkfcejnbaaGreatDoor
