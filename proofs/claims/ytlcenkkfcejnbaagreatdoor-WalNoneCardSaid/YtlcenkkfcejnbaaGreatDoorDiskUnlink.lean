/- What unlink makes of a disk in memory. -/
import Derived.Test.YtlcenkkfcejnbaaGreatDoorDiskMap
namespace Go.Proofs.YtlcenkkfcejnbaaGreatDoor
open Go.RowKit
namespace Disk

theorem kv_filter (L : Lay) (l : List File) (s : Bytes) : L.kv (l.filter fun g => g.name != s) = (L.kv l).filter fun p => p.1 != s := by
  simp [Lay.kv, List.filter_map, Function.comp_def]
theorem kv_names (L : Lay) (l : List File) : (L.kv l).map (·.1) = l.map (·.name) := by simp [Lay.kv, Function.comp_def]
theorem used_filter (l : List File) (q : File → Bool) : used (l.filter q) ≤ used l := by
  induction l with
  | nil => simp
  | cons a l ih =>
    rw [List.filter_cons]
    split <;> simp [used] at ih ⊢ <;> omega

def DS.removed (σ : DS) (s : Bytes) : DS := { σ with files := σ.files.filter fun g => g.name != s }

theorem DiskAt.m_ne {w : World} {d : Nat} {σ : DS} {L : Lay} (h : DiskAt w d σ L) : L.m ≠ d ∧ L.line.ownBlock ≠ some L.m ∧ ∀ f ∈ σ.files, L.blk f.id ≠ L.m ∧ (L.arr f.id).ownBlock ≠ some L.m := by
  obtain ⟨es, c, hm, _⟩ := h.map
  refine ⟨fun e => ?_, fun e => ?_, fun f hf => ⟨fun e => ?_, fun e => ?_⟩⟩
  · rw [e, h.self] at hm; cases hm
  · obtain ⟨cur, hc⟩ := h.line_block e
    rw [hm] at hc; cases hc
  · have := (h.pages f hf).self
    rw [e, hm] at this; cases this
  · obtain ⟨cur, hc⟩ := h.arr_block hf e
    rw [hm] at hc; cases hc

/-- A file that has no dirty sector is gone. -/
theorem DiskAt.remove {w w' : World} {d : Nat} {σ : DS} {L : Lay} (h : DiskAt w d σ L) (s : Bytes) (hc : Chg (· = L.m) w w') (hm : MapAt w' L.m ((L.kv σ.files).filter fun p => p.1 != s))
    (hl : ∀ m ∈ σ.line, ∀ f ∈ σ.files, f.id = m.1 → f.name ≠ s) : DiskAt w' d (σ.removed s) L := by
  obtain ⟨n1, n2, n3⟩ := h.m_ne
  have hsub : ∀ f ∈ (σ.removed s).files, f ∈ σ.files := fun f hf => (List.mem_filter.1 hf).1
  have hblk : ∀ k, k ≠ L.m → L.foot d σ.files k → w'.heap[k]? = w.heap[k]? := fun k hk hf => hc.block k (h.lt k hf) hk
  refine ⟨⟨h.wf.room, ?_, Nat.le_trans (List.length_filter_le _ _) h.wf.most, ?_, ?_, fun f hf => h.wf.next f (hsub f hf), fun f hf => h.wf.written f (hsub f hf), h.wf.line, ?_, fun f hf => h.wf.good f (hsub f hf)⟩, ?_, ?_, ?_, ?_, ?_, ?_⟩
  · have := h.wf.free
    have h2 := used_filter σ.files fun g => g.name != s
    unfold DS.free at *
    show 0 ≤ σ.room - (used (σ.files.filter fun g => g.name != s) : Int)
    omega
  · exact h.wf.names.sublist (List.filter_sublist.map _)
  · exact h.wf.ids.sublist (List.filter_sublist.map _)
  · intro m hm'
    obtain ⟨f, hf, h1, h2⟩ := h.wf.dirty m hm'
    exact ⟨f, List.mem_filter.2 ⟨hf, by simpa using hl m hm' f hf h1⟩, h1, h2⟩
  · rw [hblk d (Ne.symm n1) (.inl rfl)]; exact h.self
  · obtain ⟨es, c, h1, h2, h3⟩ := hm
    refine ⟨es, c, h1, ?_, h3⟩
    rw [h2, ← kv_filter, kv_pair]; rfl
  · intro f hf
    have hf' := hsub f hf
    exact (h.pages f hf').keep (hblk _ (n3 f hf').1 (.inr (.inr (.inr ⟨f, hf', .inl rfl⟩)))) fun k hk => hblk k (fun e => (n3 f hf').2 (e ▸ hk)) (.inr (.inr (.inr ⟨f, hf', .inr hk⟩)))
  · exact ownsRow_keep h.line fun k hk => hblk k (fun e => n2 (e ▸ hk)) (.inr (.inr (.inl hk)))
  · exact fun f hf g hg => h.blks f (hsub f hf) g (hsub g hg)
  · exact fun f hf g hg => h.arrs f (hsub f hf) g (hsub g hg)

theorem find_some {σ : DS} {s : Bytes} {f : File} (h : σ.find s = some f) : f ∈ σ.files ∧ f.name = s :=
  ⟨List.mem_of_find?_eq_some h, by simpa using List.find?_some h⟩
theorem find_none {σ : DS} {s : Bytes} (h : σ.find s = none) : ∀ f ∈ σ.files, f.name ≠ s := fun f hf => by
  simpa using List.find?_eq_none.1 h f hf
theorem unlink_some {σ : DS} {s : Bytes} {f : File} (h : σ.find s = some f) : σ.unlink s = (σ.forget f.id).removed s := by
  unfold DS.unlink; rw [h]; rfl
theorem unlink_none {σ : DS} {s : Bytes} (h : σ.find s = none) : σ.unlink s = σ := by
  unfold DS.unlink; rw [h]

/-- A name has one file. -/
theorem DS.Wf.same {σ : DS} (h : σ.Wf) {f g : File} (hf : f ∈ σ.files) (hg : g ∈ σ.files) (e : f.name = g.name) : f = g := by
  have := h.names
  revert hf hg this
  induction σ.files with
  | nil => intro hf; cases hf
  | cons a l ih =>
    intro hf hg hn
    rw [List.map_cons, List.nodup_cons] at hn
    rcases List.mem_cons.1 hf with e1 | hf1
    · rcases List.mem_cons.1 hg with e2 | hg1
      · rw [e1, e2]
      · exact (hn.1 (List.mem_map.2 ⟨g, hg1, by rw [← e, e1]⟩)).elim
    · rcases List.mem_cons.1 hg with e2 | hg1
      · exact (hn.1 (List.mem_map.2 ⟨f, hf1, by rw [e, e2]⟩)).elim
      · exact ih hf1 hg1 hn.2

def Unlinked (w : World) (d : Nat) (σ : DS) (L : Lay) (s : Bytes) (w' : World) : Prop := ∃ L' : Lay, Step w d σ L (σ.unlink s) L' w' ∧ L'.blk = L.blk ∧ L'.arr = L.arr

set_option maxRecDepth 100000 in
set_option maxHeartbeats 400000 in
theorem Unlink_calls (d : Nat) (σ : DS) (L : Lay) (s : ByteArray) (w : World) (h : DiskAt w d σ L) :
    Calls Tryz.prog 80 #[ptr d, .string s] w fun e w' => e = .returned (.tuple #[]) ∧ Unlinked w d σ L s.data.toList w' := by
  have hc1 := h.cell 1
  simp only [List.getElem?_toArray, List.getElem?_cons_succ, List.getElem?_cons_zero] at hc1
  have hlk := run_look w d σ L h s
  cases hfnd : σ.find s.data.toList with
  | none =>
    have hfv : findV L σ s.data.toList = .pointer none := by unfold findV; rw [hfnd]
    rw [hfv] at hlk
    have HF := Lib.hid hfnd
    clear hfnd hfv
    unfold ptr at *
    go_enter Tryz.func80, Tryz.ntmps80
    go_wp2
    go_end0
    exact ⟨rfl, L, by rw [unlink_none HF.out]; exact Step.refl h, rfl, rfl⟩
  | some f =>
    obtain ⟨hf, hname⟩ := find_some hfnd
    have hfv : findV L σ s.data.toList = ptr (L.blk f.id) := by unfold findV; rw [hfnd]; rfl
    rw [hfv] at hlk
    have HF := Lib.hid hfnd
    have HN := Lib.hid hname
    clear hfnd hfv hname
    have key := Lib.hid (Forget_calls d σ L f w h hf)
    unfold ptr at *
    go_enter Tryz.func80, Tryz.ntmps80
    go_wp2_with fail
    refine key.out.mono ?_
    rintro e w1 ⟨rfl, L1, hst, hblk, harr⟩
    have hA := hst.at_
    have hc1' := hA.cell 1
    simp only [List.getElem?_toArray, List.getElem?_cons_succ, List.getElem?_cons_zero] at hc1'
    obtain ⟨w2, hdel, hch, hmap⟩ := hA.mapAt.delete (by rw [kv_names]; exact hA.wf.names) s
    have HM := Lib.hid hmap
    have HB := Lib.hid hblk
    have HR := Lib.hid harr
    have HD := Lib.hid (fun ty => hdel ty)
    clear hmap hblk harr
    go_wp2
    go_end0
    have hfin : DiskAt w2 d ((σ.forget f.id).removed s.data.toList) L1 := by
      refine hA.remove _ hch HM.out fun m hm g hg hi hn => ?_
      have h1 : g = f := h.wf.same hg hf (by rw [hn, HN.out])
      have h2 := (List.mem_filter.1 hm).2
      rw [← hi, h1] at h2
      simp at h2
    refine ⟨rfl, L1, ?_, HB.out, HR.out⟩
    rw [unlink_some HF.out]
    refine hst.trans ⟨hfin, rfl, fun k hk hf => ?_, hch.mono fun k _ hk => by rw [hk]; exact .inr (.inl rfl)⟩
    rcases hf with h1 | h1 | h1 | ⟨g, hg, h1⟩
    · exact .inl h1
    · exact .inr (.inl h1)
    · exact .inr (.inr (.inl h1))
    · exact .inr (.inr (.inr ⟨g, (List.mem_filter.1 hg).1, h1⟩))
end Disk
end Go.Proofs.YtlcenkkfcejnbaaGreatDoor
