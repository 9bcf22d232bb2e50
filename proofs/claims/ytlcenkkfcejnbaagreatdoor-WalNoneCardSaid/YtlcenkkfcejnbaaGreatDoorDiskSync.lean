/- A page that is written; what Sync's closure makes of a disk. -/
import Derived.Test.YtlcenkkfcejnbaaGreatDoorDiskIter
namespace Go.Proofs.YtlcenkkfcejnbaaGreatDoor
open Go.RowKit
namespace Disk

def Lay.setArr (L : Lay) (id : Nat) (v : Value) : Lay := { L with arr := fun i => if i = id then v else L.arr i }
def DS.set (σ : DS) (id : Nat) (g : File → File) : DS := { σ with files := upd id g σ.files }

theorem mem_upd {id : Nat} {g : File → File} {l : List File} {x : File} (h : x ∈ upd id g l) : ∃ y ∈ l, x = if y.id = id then g y else y := by
  obtain ⟨y, hy, rfl⟩ := List.mem_map.1 h; exact ⟨y, hy, rfl⟩

theorem DS.Wf.same_id {σ : DS} (h : σ.Wf) {f g : File} (hf : f ∈ σ.files) (hg : g ∈ σ.files) (e : f.id = g.id) : f = g := by
  have := h.ids
  revert hf hg this
  induction σ.files with
  | nil => intro hf; cases hf
  | cons a l ih =>
    intro hf hg hn
    rw [List.map_cons, List.nodup_cons] at hn
    rcases List.mem_cons.1 hf with e1 | hf1
    · rcases List.mem_cons.1 hg with e2 | hg1
      · rw [e1, e2]
      · exact (hn.1 (List.mem_map.2 ⟨g, hg1, by rw [← e, e1]⟩)).elim
    · rcases List.mem_cons.1 hg with e2 | hg1
      · exact (hn.1 (List.mem_map.2 ⟨f, hf1, by rw [e, e2]⟩)).elim
      · exact ih hf1 hg1 hn.2

/-- One page is written anew: its slice is v. -/
theorem DiskAt.setPage {w w' : World} {d : Nat} {σ : DS} {L : Lay} (h : DiskAt w d σ L) {f : File} (hf : f ∈ σ.files) (g : File → File) (hg : ∀ x, (g x).name = x.name ∧ (g x).id = x.id) (v : Value) (hwf : (σ.set f.id g).Wf)
    (hp : w'.heap[L.blk f.id]? = some (.cells #[v, .int .i64 (g f).written] 107 (0, 0)))
    (ha : w'.ownsRow 0 5 1 v (g f).all.length (bytesV (g f).all))
    (ho : ∀ k, L.foot d σ.files k → k ≠ L.blk f.id → (L.arr f.id).ownBlock ≠ some k → w'.heap[k]? = w.heap[k]?)
    (hv : ∀ k, v.ownBlock = some k → (L.arr f.id).ownBlock = some k ∨ ¬ L.foot d σ.files k) :
    DiskAt w' d (σ.set f.id g) (L.setArr f.id v) := by
  obtain ⟨n1, n2, n3⟩ := h.m_ne
  have hpf := (h.pages f hf).self
  have pd : d ≠ L.blk f.id := fun e => by rw [← e, h.self] at hpf; simp at hpf
  have ad : (L.arr f.id).ownBlock ≠ some d := fun e => by
    obtain ⟨cur, hc⟩ := h.arr_block hf e
    rw [h.self] at hc; simp at hc
  have hl : ∀ k, L.line.ownBlock = some k → k ≠ L.blk f.id ∧ (L.arr f.id).ownBlock ≠ some k := fun k hk => by
    obtain ⟨c1, h1⟩ := h.line_block hk
    refine ⟨fun e => ?_, fun e => ?_⟩
    · rw [e, hpf] at h1; simp at h1
    · obtain ⟨c2, h2⟩ := h.arr_block hf e
      rw [h1] at h2; simp at h2
  refine ⟨hwf, ?_, ?_, ?_, ?_, ?_, ?_⟩
  · rw [ho d (.inl rfl) pd ad]; exact h.self
  · obtain ⟨es, c, h1, h2, h3⟩ := h.map
    refine ⟨es, c, ?_, ?_, h3⟩
    · show w'.heap[L.m]? = _
      rw [ho L.m (.inr (.inl rfl)) (fun e => (n3 f hf).1 e.symm) (n3 f hf).2]; exact h1
    · rw [h2]
      show _ = (upd f.id g σ.files).map (pair _)
      rw [upd, List.map_map]
      apply List.map_congr_left
      intro x _
      simp only [Function.comp_def, pair, Lay.page, Lay.setArr]
      split <;> simp [(hg x).1, (hg x).2]
  · intro x hx
    obtain ⟨y, hy, rfl⟩ := mem_upd hx
    by_cases e : y.id = f.id
    · obtain rfl := h.wf.same_id hy hf e
      rw [if_pos rfl]
      refine ⟨?_, ?_⟩
      · simp only [Lay.setArr, (hg y).2, if_true]; exact hp
      · simp only [Lay.setArr, (hg y).2, if_true]; exact ha
    · rw [if_neg e]
      have hpy := h.pages y hy
      have hb : L.blk y.id ≠ L.blk f.id := fun e' => e (by rw [h.blks y hy f hf e'])
      refine ⟨?_, ?_⟩
      · simp only [Lay.setArr, if_neg e]
        rw [ho _ (.inr (.inr (.inr ⟨y, hy, .inl rfl⟩))) hb (fun e' => ?_)]
        · exact hpy.self
        · obtain ⟨cur, hc⟩ := h.arr_block hf e'
          rw [hpy.self] at hc; simp at hc
      · simp only [Lay.setArr, if_neg e]
        refine ownsRow_keep hpy.arr fun k hk => ho k (.inr (.inr (.inr ⟨y, hy, .inr hk⟩))) (fun e' => ?_) (fun e' => e (by rw [h.arrs y hy f hf k hk e']))
        obtain ⟨cur, hc⟩ := h.arr_block hy hk
        rw [e', hpf] at hc; simp at hc
  · exact ownsRow_keep h.line fun k hk => ho k (.inr (.inr (.inl hk))) (hl k hk).1 (hl k hk).2
  · intro x hx y hy e
    obtain ⟨x', hx', rfl⟩ := mem_upd hx
    obtain ⟨y', hy', rfl⟩ := mem_upd hy
    have hi : ∀ z : File, (if z.id = f.id then g z else z).id = z.id := fun z => by split; exact (hg z).2; rfl
    rw [hi, hi] at e
    rw [h.blks x' hx' y' hy' e]
  · intro x hx y hy k e1 e2
    obtain ⟨x', hx', rfl⟩ := mem_upd hx
    obtain ⟨y', hy', rfl⟩ := mem_upd hy
    have hi : ∀ z : File, (if z.id = f.id then g z else z).id = z.id := fun z => by split; exact (hg z).2; rfl
    rw [hi] at e1 e2
    have key : ∀ z ∈ σ.files, ((L.setArr f.id v).arr z.id).ownBlock = some k → z.id ≠ f.id → (L.arr z.id).ownBlock = some k := fun z _ hz hn => by
      simpa [Lay.setArr, hn] using hz
    have same : ∀ z ∈ σ.files, z.id = f.id → ((L.setArr f.id v).arr z.id).ownBlock = some k → v.ownBlock = some k := fun z _ hn hz => by
      simpa [Lay.setArr, hn] using hz
    have mixed : ∀ z ∈ σ.files, z.id ≠ f.id → (L.arr z.id).ownBlock = some k → v.ownBlock = some k → False := fun z hz hn h1 h2 => by
      rcases hv k h2 with h3 | h3
      · exact hn (by rw [h.arrs z hz f hf k h1 h3])
      · exact h3 (.inr (.inr (.inr ⟨z, hz, .inr h1⟩)))
    by_cases ex : x'.id = f.id <;> by_cases ey : y'.id = f.id
    · rw [h.wf.same_id hx' hy' (ex.trans ey.symm)]
    · exact (mixed y' hy' ey (key y' hy' e2 ey) (same x' hx' ex e1)).elim
    · exact (mixed x' hx' ex (key x' hx' e1 ex) (same y' hy' ey e2)).elim
    · rw [h.arrs x' hx' y' hy' k (key x' hx' e1 ex) (key y' hy' e2 ey)]

theorem upd_len (id : Nat) (g : File → File) (l : List File) : (upd id g l).length = l.length := by simp [upd]
theorem upd_names (id : Nat) (g : File → File) (hg : ∀ x, (g x).name = x.name ∧ (g x).id = x.id) (l : List File) : (upd id g l).map (·.name) = l.map (·.name) ∧ (upd id g l).map (·.id) = l.map (·.id) := by
  simp only [upd, List.map_map]
  constructor <;>
  · apply List.map_congr_left
    intro x _
    simp only [Function.comp_def]
    split <;> simp [(hg x).1, (hg x).2]

/-- A change of a page that leaves the names alone keeps a disk in order. -/
theorem DS.Wf.set {σ : DS} (h : σ.Wf) (id : Nat) (g : File → File) (hg : ∀ x, (g x).name = x.name ∧ (g x).id = x.id) (hw : ∀ f ∈ σ.files, f.id = id → (g f).written ≤ (g f).all.length) (hfree : 0 ≤ (σ.set id g).free)
    (hd : ∀ f ∈ σ.files, f.id = id → sectors f.all.length ≤ sectors (g f).all.length) : (σ.set id g).Wf := by
  refine ⟨h.room, hfree, by show (upd id g σ.files).length ≤ 48; rw [upd_len]; exact h.most, by show ((upd id g σ.files).map _).Nodup; rw [(upd_names id g hg _).1]; exact h.names, by show ((upd id g σ.files).map _).Nodup; rw [(upd_names id g hg _).2]; exact h.ids, ?_, ?_, h.line, ?_, ?_⟩
  · intro x hx
    obtain ⟨y, hy, rfl⟩ := mem_upd hx
    have := h.next y hy
    split
    · rw [(hg y).2]; exact this
    · exact this
  · intro x hx
    obtain ⟨y, hy, rfl⟩ := mem_upd hx
    split
    · rename_i e; exact hw y hy e
    · exact h.written y hy
  · intro m hm
    obtain ⟨f, hf, h1, h2⟩ := h.dirty m hm
    refine ⟨if f.id = id then g f else f, List.mem_map.2 ⟨f, hf, rfl⟩, ?_, ?_⟩
    · split
      · rw [(hg f).2]; exact h1
      · exact h1
    · split
      · rename_i e; have := hd f hf e; omega
      · exact h2
  · intro x hx
    obtain ⟨y, hy, rfl⟩ := mem_upd hx
    have := h.good y hy
    split
    · rw [(hg y).1]; exact this
    · exact this

def synced (f : File) : File := { f with written := f.all.length }
theorem used_set (id : Nat) (g : File → File) (hg : ∀ x, (g x).all.length = x.all.length) (l : List File) : used (upd id g l) = used l := by
  simp only [used, upd, List.map_map]
  congr 1
  apply List.map_congr_left
  intro x _
  simp only [Function.comp_def]
  split <;> simp [hg x]

def DS.synced (σ : DS) (f : File) : DS := (σ.forget f.id).set f.id Disk.synced
theorem set_forget (σ : DS) (id i : Nat) (g : File → File) : (σ.set i g).forget id = (σ.forget id).set i g := rfl

def Reached (w : World) (d : Nat) (σ : DS) (L : Lay) (σ' : DS) (w' : World) : Prop := ∃ L' : Lay, Step w d σ L σ' L' w'

set_option maxRecDepth 100000 in
set_option maxHeartbeats 400000 in
theorem SyncTail_calls (d : Nat) (σ : DS) (L : Lay) (s : ByteArray) (f : File) (pd ps : Nat) (w : World) (h : DiskAt w d σ L) (hfnd : σ.find s.data.toList = some f)
    (hpd : w.cell? ⟨pd, 0, none⟩ = some (ptr d)) (hps : w.cell? ⟨ps, 0, none⟩ = some (.string s)) (_hpd' : ¬ L.foot d σ.files pd) (_hpl : pd < w.heap.size) :
    Calls Tryz.prog 76 #[.pointer (some ⟨pd, 0, none⟩), .pointer (some ⟨ps, 0, none⟩)] w fun e w' => e = .returned (.tuple #[]) ∧ Reached w d σ L (σ.synced f) w' := by
  obtain ⟨hf, hname⟩ := find_some hfnd
  have hc1 := h.cell 1
  simp only [List.getElem?_toArray, List.getElem?_cons_succ, List.getElem?_cons_zero] at hc1
  have hfv : findV L σ s.data.toList = ptr (L.blk f.id) := by unfold findV; rw [hfnd]; rfl
  have hlk := fun n => run_look (w.drewN n) d σ L (h.below (bdrewN n (Below.refl _ _))) s
  rw [hfv] at hlk
  obtain ⟨a, c, hl1, hl2, hl3, hpg⟩ := h.page_cells hf
  have p0 := cell_of hpg 0
  have p1 := cell_of hpg 1
  have p2 := free_of hpg 1
  simp only [List.getElem?_toArray, List.getElem?_cons_succ, List.getElem?_cons_zero] at p0 p1
  have HP := Lib.hid hpg
  have HL := Lib.hid hl1
  have HF := Lib.hid hfnd
  have HN := Lib.hid hname
  clear hpg hl1 hfnd hname hfv
  unfold ptr at *
  go_enter Tryz.func76, Tryz.ntmps76
  go_wp2_with fail
  go_quiet (fail)
  rename_i nq
  go_wp2_with fail
  have hset := set_block (w := w.drewN nq) HP.out 1 (.int .i64 (f.all.length : Int))
  have hA : DiskAt ((w.drewN nq).setCell ⟨L.blk f.id, 1, none⟩ (.int .i64 (f.all.length : Int))) d (σ.set f.id synced) (L.setArr f.id (L.arr f.id)) := by
    refine h.setPage hf synced (fun x => ⟨rfl, rfl⟩) (L.arr f.id) ?_ ?_ ?_ ?_ ?_
    · refine h.wf.set f.id synced (fun x => ⟨rfl, rfl⟩) (fun g _ _ => Nat.le_refl _) ?_ (fun g _ _ => Nat.le_refl _)
      have := h.wf.free
      unfold DS.free at *
      show 0 ≤ σ.room - (used (upd f.id synced σ.files) : Int)
      rw [used_set f.id synced (fun x => rfl)]
      exact this
    · rw [HL.out]; exact hset
    · refine ownsRow_keep (h.pages f hf).arr fun k hk => ?_
      rw [Below.heap_setCell _ _ _ _ (fun e => ?_)]; rfl
      obtain ⟨cur, hc⟩ := h.arr_block hf hk
      have e' : k = L.blk f.id := e
      rw [e', (h.pages f hf).self] at hc; simp at hc
    · intro k _ hk _
      rw [Below.heap_setCell _ _ _ _ hk]; rfl
    · intro k hk; exact .inl hk
  have hL : L.setArr f.id (L.arr f.id) = L := by
    unfold Lay.setArr
    have : (fun i => if i = f.id then L.arr f.id else L.arr i) = L.arr := by
      funext i; split
      · rename_i e; rw [e]
      · rfl
    rw [this]
  rw [hL] at hA
  refine (Forget_calls d _ L (synced f) _ hA (List.mem_map.2 ⟨f, hf, by simp⟩)).mono ?_
  rintro e w1 ⟨rfl, L1, hst, _, _⟩
  go_wp2
  go_end0
  refine ⟨rfl, L1, ?_⟩
  have hS : Step w d σ L (σ.set f.id synced) L ((w.drewN nq).setCell ⟨L.blk f.id, 1, none⟩ (.int .i64 (f.all.length : Int))) := by
    refine ⟨hA, rfl, ?_, ((Chg.refl _ w).drewN nq).setCell (fun _ => .inr (.inr (.inr ⟨f, hf, .inl rfl⟩))) _⟩
    rintro k hk (h1 | h1 | h1 | ⟨g, hg, h1⟩)
    · exact .inl h1
    · exact .inr (.inl h1)
    · exact .inr (.inr (.inl h1))
    · obtain ⟨y, hy, rfl⟩ := mem_upd hg
      refine .inr (.inr (.inr ⟨y, hy, ?_⟩))
      split at h1 <;> exact h1
  exact hS.trans hst
end Disk
end Go.Proofs.YtlcenkkfcejnbaaGreatDoor
