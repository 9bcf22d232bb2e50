/- What the closures of Append and Remove make of a disk. -/
import Derived.Test.YtlcenkkfcejnbaaGreatDoorDiskSoil
import Derived.Deep.DeepCutAuto
namespace Go.Proofs.YtlcenkkfcejnbaaGreatDoor
open Go.RowKit
namespace Disk

def grow (b : Bytes) (f : File) : File := { f with all := f.all ++ b }
def DS.appended (σ : DS) (f : File) (b : Bytes) : DS :=
  let σ1 := σ.set f.id (grow b)
  if b.length = 0 then σ1 else σ1.soil f.id (f.all.length + b.length) f.all.length

theorem used_grow (id : Nat) (g : File → File) : ∀ (l : List File) (f : File), (l.map (·.id)).Nodup → f ∈ l → f.id = id → (used (upd id g l) : Int) = used l + (sectors (g f).all.length - sectors f.all.length : Int) := by
  intro l
  induction l with
  | nil => intro f _ h; cases h
  | cons a l ih =>
    intro f hn hf e
    rw [List.map_cons, List.nodup_cons] at hn
    rcases List.mem_cons.1 hf with h1 | h1
    · subst h1
      have : upd id g l = l := by
        unfold upd
        conv => rhs; rw [← List.map_id l]
        apply List.map_congr_left
        intro x hx
        rw [if_neg (fun e' => hn.1 (List.mem_map.2 ⟨x, hx, by rw [e', e]⟩))]; rfl
      have h2 : upd id g (f :: l) = g f :: upd id g l := by simp [upd, e]
      rw [h2, this]
      simp [used]; omega
    · have := ih f hn.2 h1 e
      have h3 : a.id ≠ id := fun e' => hn.1 (List.mem_map.2 ⟨f, h1, by rw [e, e']⟩)
      have h2 : upd id g (a :: l) = a :: upd id g l := by simp [upd, h3]
      rw [h2]
      simp [used] at this ⊢; omega

theorem wf_grow {σ : DS} (h : σ.Wf) {f : File} (hf : f ∈ σ.files) (b : Bytes) (hfree : (sectors (f.all.length + b.length) : Int) - sectors f.all.length ≤ σ.free) : (σ.set f.id (grow b)).Wf := by
  refine h.set f.id (grow b) (fun x => ⟨rfl, rfl⟩) (fun g hg e => ?_) ?_ (fun g hg e => ?_)
  · have := h.written g hg
    simp [grow]; omega
  · have h1 := used_grow f.id (grow b) σ.files f h.ids hf rfl
    unfold DS.free at *
    show 0 ≤ σ.room - (used (upd f.id (grow b) σ.files) : Int)
    rw [h1]
    simp [grow] at hfree ⊢; omega
  · exact sectors_mono (by simp [grow])

theorem growStep {w w3 : World} {d : Nat} {σ : DS} {L : Lay} (h : DiskAt w d σ L) {f : File} (hf : f ∈ σ.files) (b : Bytes) (hwf : (σ.set f.id (grow b)).Wf) {v' : Value} {wn : World} (hbn : Below w.heap.size w wn)
    (hrow : w3.ownsRow 0 5 1 v' (f.all.length + b.length) (bytesV f.all ++ bytesV b)) (hch : Chg (fun k => (L.arr f.id).ownBlock = some k) wn w3) (hlie : SameOrNew wn (L.arr f.id) v') :
    Step w d σ L (σ.set f.id (grow b)) (L.setArr f.id v') (w3.setCell ⟨L.blk f.id, 0, none⟩ v') := by
  have hp := (h.pages f hf).self
  have hpl := (h.page hf).lt
  have hpa : (L.arr f.id).ownBlock ≠ some (L.blk f.id) := fun e => by
    obtain ⟨cur, hc⟩ := h.arr_block hf e
    rw [hp] at hc; simp at hc
  have old : ∀ k, k < w.heap.size → (L.arr f.id).ownBlock ≠ some k → w3.heap[k]? = w.heap[k]? := fun k hk hn => by
    rw [hch.block k (Nat.lt_of_lt_of_le hk hbn.size) hn, hbn.block k hk]
  have hset := set_block ((old _ hpl hpa).trans hp) 0 v'
  have hD : DiskAt (w3.setCell ⟨L.blk f.id, 0, none⟩ v') d (σ.set f.id (grow b)) (L.setArr f.id v') := by
    refine h.setPage hf (grow b) (fun x => ⟨rfl, rfl⟩) v' hwf hset ?_ ?_ ?_
    · have hl : (grow b f).all.length = f.all.length + b.length := by simp [grow]
      have hx : bytesV (grow b f).all = bytesV f.all ++ bytesV b := by simp [grow, bytesV]
      rw [hl, hx]
      refine ownsRow_keep hrow fun k hk => Below.heap_setCell _ _ _ _ fun e => ?_
      have e' : k = L.blk f.id := e
      rcases hlie k hk with h1 | h1
      · exact hpa (e' ▸ h1)
      · have := hbn.size; omega
    · intro k hk hkp hka
      rw [Below.heap_setCell _ _ _ _ hkp, old k (h.lt k hk) hka]
    · intro k hk
      rcases hlie k hk with h1 | h1
      · exact .inl h1
      · exact .inr fun h2 => by have := h.lt k h2; have := hbn.size; omega
  refine ⟨hD, rfl, ?_, ?_⟩
  · rintro k hk (h1 | h1 | h1 | ⟨x, hx, h1⟩)
    · exact .inl h1
    · exact .inr (.inl h1)
    · exact .inr (.inr (.inl h1))
    · obtain ⟨y, hy, rfl⟩ := mem_upd hx
      have hi : (if y.id = f.id then grow b y else y).id = y.id := by split <;> rfl
      rw [hi] at h1
      rcases h1 with h1 | h1
      · exact .inr (.inr (.inr ⟨y, hy, .inl h1⟩))
      · by_cases e : y.id = f.id
        · simp only [Lay.setArr, e, if_true] at h1
          rcases hlie k h1 with h2 | h2
          · exact .inr (.inr (.inr ⟨f, hf, .inr h2⟩))
          · have := hbn.size; omega
        · simp only [Lay.setArr, e, if_false] at h1
          exact .inr (.inr (.inr ⟨y, hy, .inr h1⟩))
  · exact ((Chg.of_below hbn).then (hch.mono fun k _ e => (show L.foot d σ.files k from .inr (.inr (.inr ⟨f, hf, .inr e⟩)))) (fun _ _ h => h)).setCell (fun _ => .inr (.inr (.inr ⟨f, hf, .inl rfl⟩))) _

set_option maxRecDepth 100000 in
set_option maxHeartbeats 1000000 in
theorem AppendHalf_calls (d : Nat) (σ : DS) (L : Lay) (f : File) (b : Bytes) (vb : Value) (pp pb pd pf : Nat) (w : World) (h : DiskAt w d σ L) (hf : f ∈ σ.files)
    (hpp : w.cell? ⟨pp, 0, none⟩ = some (ptr (L.blk f.id))) (hpb : w.cell? ⟨pb, 0, none⟩ = some vb) (hpd : w.cell? ⟨pd, 0, none⟩ = some (ptr d)) (hpf : w.cell? ⟨pf, 0, none⟩ = some (.int .i64 f.all.length))
    (hn : (¬ L.foot d σ.files pp ∧ pp < w.heap.size) ∧ (¬ L.foot d σ.files pb ∧ pb < w.heap.size) ∧ (¬ L.foot d σ.files pd ∧ pd < w.heap.size) ∧ (¬ L.foot d σ.files pf ∧ pf < w.heap.size))
    (hb : BytesAt w vb b) (hbl : b.length ≤ 4611686018427387904) (hfree : (sectors (f.all.length + b.length) : Int) - sectors f.all.length ≤ σ.free) :
    Calls Tryz.prog 73 #[.pointer (some ⟨pp, 0, none⟩), .pointer (some ⟨pb, 0, none⟩), .pointer (some ⟨pd, 0, none⟩), .pointer (some ⟨pf, 0, none⟩)] w
      fun e w' => e = .returned (.tuple #[]) ∧ Reached w d σ L (σ.appended f b) w' := by
  obtain ⟨⟨np, lp⟩, ⟨nb, lb⟩, ⟨nd, ld⟩, nf, lf⟩ := hn
  obtain ⟨ba, bc, rfl⟩ := hb.form
  obtain ⟨pa, pc, hl1, hl2, hl3, hpg⟩ := h.page_cells hf
  have hus := h.wf.used_le
  have hsf : sectors f.all.length + 1 ≤ used σ.files := by have := used_erase hf; omega
  have hrm := h.wf.room
  have hfr : σ.free ≤ 1073741824 := by unfold DS.free; omega
  have hlen : f.all.length + b.length ≤ 140737488355328 := by
    have : sectors (f.all.length + b.length) ≤ 2147483648 := by omega
    unfold sectors at this; omega
  have hwf := wf_grow h.wf hf b hfree
  have x0 := cell_of hpg 0
  have x1 := free_of hpg 0
  simp only [List.getElem?_toArray, List.getElem?_cons_zero] at x0
  have hrow : (w.drew).ownsRow 0 5 1 (.slice pa f.all.length pc) f.all.length (bytesV f.all) := by
    have := (h.pages f hf).arr
    rw [hl1] at this; exact this
  obtain ⟨v', w3, hap, hrow3, hch3, hlie3⟩ := run_append_bytes w.drew _ (.slice ba b.length bc) _ _ b hrow (hb.below ((Below.refl _ _).drew)) hlen
  obtain ⟨va, vn, vc, rfl⟩ := row_slice hrow3
  rw [← hl1] at hch3 hlie3
  have hpa : ∀ k, L.foot d σ.files k → (L.arr f.id).ownBlock = some k → L.foot d σ.files k := fun k hk _ => hk
  have hold : ∀ k, k < w.heap.size → (L.arr f.id).ownBlock ≠ some k → w3.heap[k]? = w.heap[k]? := fun k hk hn => hch3.block k hk hn
  have harr : ∀ k, (L.arr f.id).ownBlock = some k → L.foot d σ.files k := fun k hk => .inr (.inr (.inr ⟨f, hf, .inr hk⟩))
  have hpgn : (L.arr f.id).ownBlock ≠ some (L.blk f.id) := fun e => by
    obtain ⟨cur, hc⟩ := h.arr_block hf e
    rw [hpg] at hc; simp at hc
  have hp3 := (hold _ (h.page hf).lt hpgn).trans hpg
  have y0 := cell_of hp3 0
  have y1 := free_of hp3 0
  simp only [List.getElem?_toArray, List.getElem?_cons_zero] at y0
  have q1 : w3.cell? ⟨pb, 0, none⟩ = some (.slice ba b.length bc) := by
    rw [World.cell?_of_block (w := w) (a := ⟨pb, 0, none⟩) (hold pb lb fun e => nb (harr _ e))]; exact hpb
  have q2 : w3.cell? ⟨pd, 0, none⟩ = some (ptr d) := by
    rw [World.cell?_of_block (w := w) (a := ⟨pd, 0, none⟩) (hold pd ld fun e => nd (harr _ e))]; exact hpd
  have q3 : w3.cell? ⟨pp, 0, none⟩ = some (ptr (L.blk f.id)) := by
    rw [World.cell?_of_block (w := w) (a := ⟨pp, 0, none⟩) (hold pp lp fun e => np (harr _ e))]; exact hpp
  have q4 : w3.cell? ⟨pf, 0, none⟩ = some (.int .i64 f.all.length) := by
    rw [World.cell?_of_block (w := w) (a := ⟨pf, 0, none⟩) (hold pf lf fun e => nf (harr _ e))]; exact hpf
  have z1 : pb ≠ L.blk f.id := fun e => nb (by rw [e]; exact .inr (.inr (.inr ⟨f, hf, .inl rfl⟩)))
  have z2 : pd ≠ L.blk f.id := fun e => nd (by rw [e]; exact .inr (.inr (.inr ⟨f, hf, .inl rfl⟩)))
  have z3 : pp ≠ L.blk f.id := fun e => np (by rw [e]; exact .inr (.inr (.inr ⟨f, hf, .inl rfl⟩)))
  have z4 : pf ≠ L.blk f.id := fun e => nf (by rw [e]; exact .inr (.inr (.inr ⟨f, hf, .inl rfl⟩)))
  have hst : Step w d σ L (σ.set f.id (grow b)) (L.setArr f.id (.slice va vn vc)) (w3.setCell ⟨L.blk f.id, 0, none⟩ (.slice va vn vc)) := growStep h hf b hwf ((Below.refl _ _).drew) hrow3 hch3 hlie3
  have HST := Lib.hid hst
  have key : Hid (Calls Tryz.prog 74 #[.pointer (some ⟨d, 0, none⟩), .pointer (some ⟨L.blk f.id, 0, none⟩), .int .i64 f.all.length] (w3.setCell ⟨L.blk f.id, 0, none⟩ (.slice va vn vc)) fun e w' => e = .returned (.tuple #[]) ∧
      ∃ L', Step (w3.setCell ⟨L.blk f.id, 0, none⟩ (.slice va vn vc)) d (σ.set f.id (grow b)) (L.setArr f.id (.slice va vn vc)) ((σ.set f.id (grow b)).soil f.id (f.all.length + b.length) f.all.length) L' w') := by
    have := Soil_calls d (σ.set f.id (grow b)) (L.setArr f.id (.slice va vn vc)) (grow b f) f.all.length _ hst.at_ (List.mem_map.2 ⟨f, hf, by simp⟩) (by simp [grow])
    have hl : (grow b f).all.length = f.all.length + b.length := by simp [grow]
    rw [hl] at this
    exact this
  have HC := Lib.hid hch3
  clear hrow hrow3 hch3 hlie3 hold harr hpgn hp3 hpg hst hpa hl1 h hb hwf np nb nd nf hfree
  unfold ptr at *
  go_enter Tryz.func73, Tryz.ntmps73
  go_wp2_with fail
  go_upto_region 0 with fail
  go_cut [] (fun wx => wx = w3.setCell ⟨L.blk f.id, 0, none⟩ (.slice va vn vc))
  case first =>
    go_region_law (refine step_append_run rfl (.tmp 8) (.tmp 9) 24 rfl _ _ _ _ rfl rfl hap ?_)
    all_goals (go_wp2_with fail)
    all_goals
      go_meet
      rfl
  case rest =>
    subst hcut
    by_cases hb0 : b.length = 0
    · have hA : Hid (σ.appended f b = σ.set f.id (grow b)) := by show _ = _; unfold DS.appended; simp only [hb0, if_true]
      have hbi : ((b.length : Int) == 0) = true := by rw [beq_iff_eq]; omega
      have hbi2 : ¬ (0 : Int) < b.length := by omega
      clear hb0
      go_wp2_with fail
      go_end0
      exact ⟨rfl, _, by rw [hA.out]; exact HST.out⟩
    · have hA : Hid (σ.appended f b = (σ.set f.id (grow b)).soil f.id (f.all.length + b.length) f.all.length) := by show _ = _; unfold DS.appended; simp only [hb0, if_false]
      have hbi2 : (0 : Int) < b.length := by omega
      clear hb0
      go_wp2_with fail
      refine key.out.mono ?_
      rintro e w4 ⟨rfl, L4, hs4⟩
      go_wp2_with fail
      go_end0
      exact ⟨rfl, L4, by rw [hA.out]; exact HST.out.trans hs4⟩
end Disk
end Go.Proofs.YtlcenkkfcejnbaaGreatDoor
