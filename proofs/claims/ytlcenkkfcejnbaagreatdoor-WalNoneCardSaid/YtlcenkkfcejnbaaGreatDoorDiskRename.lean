/- What the closure of Rename makes of a disk. -/
import Derived.Test.YtlcenkkfcejnbaaGreatDoorDiskCreate
namespace Go.Proofs.YtlcenkkfcejnbaaGreatDoor
open Go.RowKit
namespace Disk

def DS.moved (σ : DS) (a b : Bytes) (f : File) : DS := { σ with files := (σ.files.filter fun g => g.name != a) ++ [{ f with name := b }] }
def DS.renamed (σ : DS) (a b : Bytes) : DS :=
  if a = b then σ else
  match (σ.unlink b).find a with
  | none => σ.unlink b
  | some f => (σ.unlink b).moved a b f

theorem used_append (l m : List File) : used (l ++ m) = used l + used m := by simp [used]
theorem used_split (a : Bytes) : ∀ (l : List File) (f : File), (l.map (·.name)).Nodup → f ∈ l → f.name = a → used l = used (l.filter fun g => g.name != a) + (sectors f.all.length + 1) := by
  intro l
  induction l with
  | nil => intro f _ h; cases h
  | cons x l ih =>
    intro f hn hf e
    rw [List.map_cons, List.nodup_cons] at hn
    rcases List.mem_cons.1 hf with h1 | h1
    · subst h1
      have h2 : (f.name != a) = false := by simp [e]
      have h3 : (l.filter fun g => g.name != a) = l := by
        rw [List.filter_eq_self]
        intro g hg
        simp only [bne_iff_ne, ne_eq]
        intro e'
        exact hn.1 (List.mem_map.2 ⟨g, hg, by rw [e', e]⟩)
      rw [List.filter_cons, h2]
      simp only [Bool.false_eq_true, if_false]
      rw [h3]
      simp [used]; omega
    · have h2 : (x.name != a) = true := by
        simp only [bne_iff_ne, ne_eq]
        intro e'
        exact hn.1 (List.mem_map.2 ⟨f, h1, by rw [e, e']⟩)
      have := ih f hn.2 h1 e
      rw [List.filter_cons, h2]
      simp only [if_true]
      simp [used] at this ⊢; omega

theorem DiskAt.move {w w' : World} {d : Nat} {σ : DS} {L : Lay} (h : DiskAt w d σ L) (a b : Bytes) {f : File} (hf : f ∈ σ.files) (hfa : f.name = a) (hb : ∀ g ∈ σ.files, g.name ≠ b) (hgood : good b = true)
    (hc : Chg (· = L.m) w w') (hm : MapAt w' L.m (((L.kv σ.files).filter fun p => p.1 != a) ++ [(b, L.blk f.id)])) : DiskAt w' d (σ.moved a b f) L := by
  obtain ⟨n1, n2, n3⟩ := h.m_ne
  have split : ∀ {x : File}, x ∈ (σ.moved a b f).files → ∃ y ∈ σ.files, x.id = y.id ∧ x.all = y.all ∧ x.written = y.written := fun {x} hx => by
    rcases List.mem_append.1 (show x ∈ (σ.files.filter fun g => g.name != a) ++ [{ f with name := b }] from hx) with h1 | h1
    · exact ⟨x, (List.mem_filter.1 h1).1, rfl, rfl, rfl⟩
    · have h2 : x = { f with name := b } := by simpa using h1
      subst h2
      exact ⟨f, hf, rfl, rfl, rfl⟩
  have back : ∀ {y : File}, y ∈ σ.files → ∃ x ∈ (σ.moved a b f).files, x.id = y.id ∧ x.all = y.all := fun {y} hy => by
    by_cases e : y.name = a
    · obtain rfl := h.wf.same hy hf (by rw [e, hfa])
      exact ⟨{ y with name := b }, List.mem_append_right _ (by simp), rfl, rfl⟩
    · exact ⟨y, List.mem_append_left _ (List.mem_filter.2 ⟨hy, by simpa using e⟩), rfl, rfl⟩
  have inj : ∀ {x y : File}, x ∈ (σ.moved a b f).files → y ∈ (σ.moved a b f).files → x.id = y.id → x = y := fun {x y} hx hy e => by
    rcases List.mem_append.1 (show x ∈ (σ.files.filter fun g => g.name != a) ++ [{ f with name := b }] from hx) with h1 | h1 <;>
    rcases List.mem_append.1 (show y ∈ (σ.files.filter fun g => g.name != a) ++ [{ f with name := b }] from hy) with h2 | h2
    · exact h.wf.same_id (List.mem_filter.1 h1).1 (List.mem_filter.1 h2).1 e
    · have h3 : y = { f with name := b } := by simpa using h2
      have h4 : x = f := h.wf.same_id (List.mem_filter.1 h1).1 hf (by rw [e, h3])
      have h5 := (List.mem_filter.1 h1).2
      rw [h4, hfa] at h5; simp at h5
    · have h3 : x = { f with name := b } := by simpa using h1
      have h4 : y = f := h.wf.same_id (List.mem_filter.1 h2).1 hf (by rw [← e, h3])
      have h5 := (List.mem_filter.1 h2).2
      rw [h4, hfa] at h5; simp at h5
    · have h3 : x = { f with name := b } := by simpa using h1
      have h4 : y = { f with name := b } := by simpa using h2
      rw [h3, h4]
  have hblk : ∀ k, k ≠ L.m → L.foot d σ.files k → w'.heap[k]? = w.heap[k]? := fun k hk hf => hc.block k (h.lt k hf) hk
  have hidn : ((σ.moved a b f).files.map File.id).Nodup := by
    show (((σ.files.filter fun g : File => g.name != a) ++ [{ f with name := b }]).map File.id).Nodup
    rw [List.map_append, List.nodup_append]
    refine ⟨h.wf.ids.sublist (List.filter_sublist.map _), by simp, fun x hx y hy e => ?_⟩
    obtain ⟨g, hg, rfl⟩ := List.mem_map.1 hx
    simp at hy
    have h4 : g = f := h.wf.same_id (List.mem_filter.1 hg).1 hf (by rw [e, hy])
    have h5 := (List.mem_filter.1 hg).2
    rw [h4, hfa] at h5; simp at h5
  refine ⟨⟨h.wf.room, ?_, ?_, ?_, hidn, ?_, ?_, h.wf.line, ?_, ?_⟩, ?_, ?_, ?_, ?_, ?_, ?_⟩
  · have h1 := used_split a σ.files f h.wf.names hf hfa
    have h2 := h.wf.free
    unfold DS.free at *
    show 0 ≤ σ.room - (used ((σ.files.filter fun g : File => g.name != a) ++ [{ f with name := b }]) : Int)
    rw [used_append]
    have h3 : used [{ f with name := b }] = sectors f.all.length + 1 := by simp [used]
    omega
  · have h1 : ((σ.files.filter fun g : File => g.name != a) ++ [{ f with name := b }]).length ≤ σ.files.length := by
      have : (σ.files.filter fun g : File => g.name != a).length < σ.files.length := by
        rcases Nat.lt_or_ge (σ.files.filter fun g : File => g.name != a).length σ.files.length with h1 | h1
        · exact h1
        · have h2 := List.length_filter_eq_length_iff.1 (Nat.le_antisymm (List.length_filter_le _ _) h1)
          have := h2 f hf
          rw [hfa] at this; simp at this
      simp; omega
    exact Nat.le_trans h1 h.wf.most
  · show (((σ.files.filter fun g : File => g.name != a) ++ [{ f with name := b }]).map File.name).Nodup
    rw [List.map_append, List.nodup_append]
    refine ⟨h.wf.names.sublist (List.filter_sublist.map _), by simp, fun x hx y hy e => ?_⟩
    obtain ⟨g, hg, rfl⟩ := List.mem_map.1 hx
    simp at hy
    exact hb g (List.mem_filter.1 hg).1 (by rw [e, hy])
  · intro x hx
    obtain ⟨y, hy, e, _⟩ := split hx
    rw [e]; exact h.wf.next y hy
  · intro x hx
    obtain ⟨y, hy, _, e1, e2⟩ := split hx
    rw [e1, e2]; exact h.wf.written y hy
  · intro m hm'
    obtain ⟨g, hg, h1, h2⟩ := h.wf.dirty m hm'
    obtain ⟨x, hx, e1, e2⟩ := back hg
    exact ⟨x, hx, by rw [e1]; exact h1, by rw [e2]; exact h2⟩
  · intro x hx
    rcases List.mem_append.1 (show x ∈ (σ.files.filter fun g => g.name != a) ++ [{ f with name := b }] from hx) with h1 | h1
    · exact h.wf.good x (List.mem_filter.1 h1).1
    · have h2 : x = { f with name := b } := by simpa using h1
      rw [h2]; exact hgood
  · rw [hblk d (Ne.symm n1) (.inl rfl)]; exact h.self
  · obtain ⟨es, c, h1, h2, h3⟩ := hm
    refine ⟨es, c, h1, ?_, h3⟩
    rw [h2, ← kv_pair]
    congr 1
    rw [← kv_filter]
    simp [Lay.kv, DS.moved]
  · intro x hx
    obtain ⟨y, hy, e, e1, e2⟩ := split hx
    have hp := (h.pages y hy).keep (hblk _ (n3 y hy).1 (.inr (.inr (.inr ⟨y, hy, .inl rfl⟩)))) fun k hk => hblk k (fun e => (n3 y hy).2 (e ▸ hk)) (.inr (.inr (.inr ⟨y, hy, .inr hk⟩)))
    exact ⟨by rw [e, e2]; exact hp.self, by rw [e, e1]; exact hp.arr⟩
  · exact ownsRow_keep h.line fun k hk => hblk k (fun e => n2 (e ▸ hk)) (.inr (.inr (.inl hk)))
  · intro x hx y hy e
    obtain ⟨x', hx', ex, _⟩ := split hx
    obtain ⟨y', hy', ey, _⟩ := split hy
    rw [ex, ey] at e
    exact inj hx hy (by rw [ex, ey, h.blks x' hx' y' hy' e])
  · intro x hx y hy k e1 e2
    obtain ⟨x', hx', ex, _⟩ := split hx
    obtain ⟨y', hy', ey, _⟩ := split hy
    rw [ex] at e1; rw [ey] at e2
    exact inj hx hy (by rw [ex, ey, h.arrs x' hx' y' hy' k e1 e2])

set_option maxRecDepth 100000 in
set_option maxHeartbeats 1000000 in
theorem RenameRest_calls (d : Nat) (σ : DS) (L : Lay) (s t : ByteArray) (pd ps pt : Nat) (w : World) (h : DiskAt w d σ L)
    (hps : w.cell? ⟨ps, 0, none⟩ = some (.string s)) (hpt : w.cell? ⟨pt, 0, none⟩ = some (.string t)) (hpd : w.cell? ⟨pd, 0, none⟩ = some (ptr d))
    (hn : (¬ L.foot d σ.files pd ∧ pd < w.heap.size) ∧ (¬ L.foot d σ.files ps ∧ ps < w.heap.size) ∧ (¬ L.foot d σ.files pt ∧ pt < w.heap.size)) (hex : (σ.find s.data.toList).isSome = true) (hgood : good t.data.toList = true) :
    Calls Tryz.prog 109 #[.pointer (some ⟨ps, 0, none⟩), .pointer (some ⟨pt, 0, none⟩), .pointer (some ⟨pd, 0, none⟩)] w fun e w' => e = .returned (.tuple #[]) ∧ Reached w d σ L (σ.renamed s.data.toList t.data.toList) w' := by
  obtain ⟨⟨nd, ld⟩, ⟨ns, ls⟩, nt, lt⟩ := hn
  have hbq : (s.toList == t.toList) = decide (s.data.toList = t.data.toList) := by
    rw [ByteArray.toList_eq, ByteArray.toList_eq]
    rw [Bool.eq_iff_iff, beq_iff_eq, decide_eq_true_eq]
  by_cases e : s.data.toList = t.data.toList
  · have HR : Hid (σ.renamed s.data.toList t.data.toList = σ) := by show _ = _; unfold DS.renamed; rw [if_pos e]
    have hbt : (s.toList == t.toList) = true := by rw [hbq]; exact decide_eq_true e
    clear e hbq
    unfold ptr at *
    go_enter Tryz.func109, Tryz.ntmps109
    go_wp2_with fail
    refine bodyPost_ret (results_none (by kernel_rfl) _ _ _) rfl ⟨rfl, L, ?_⟩
    rw [HR.out]; exact Step.refl h
  · have hbt : (s.toList == t.toList) = false := by rw [hbq]; exact decide_eq_false e
    have hne := Lib.hid e
    have key := Lib.hid (Unlink_calls d σ L t w h)
    have hfs : ∃ f, (σ.unlink t.data.toList).find s.data.toList = some f := by
      cases hx : σ.find s.data.toList with
      | none => rw [hx] at hex; cases hex
      | some f =>
        obtain ⟨hf, hname⟩ := find_some hx
        have hf2 : f ∈ (σ.unlink t.data.toList).files := by
          cases hy : σ.find t.data.toList with
          | none => rw [unlink_none hy]; exact hf
          | some g =>
            rw [unlink_some hy]
            exact List.mem_filter.2 ⟨hf, by rw [hname]; simpa using e⟩
        cases hz : (σ.unlink t.data.toList).find s.data.toList with
        | none => exact absurd hname (find_none hz f hf2)
        | some g => exact ⟨g, rfl⟩
    obtain ⟨f, hfs⟩ := hfs
    have HR : Hid (σ.renamed s.data.toList t.data.toList = (σ.unlink t.data.toList).moved s.data.toList t.data.toList f) := by
      show _ = _; unfold DS.renamed; rw [if_neg e, hfs]
    have HFS := Lib.hid hfs
    clear e hbq hfs hex
    unfold ptr at *
    go_enter Tryz.func109, Tryz.ntmps109
    go_wp2_with fail
    refine key.out.mono ?_
    rintro e w1 ⟨rfl, L1, hst, hbk, har⟩
    have h1 := hst.at_
    obtain ⟨hf, hname⟩ := find_some HFS.out
    have q1 : w1.cell? ⟨pd, 0, none⟩ = some (.pointer (some ⟨d, 0, none⟩)) := by
      rw [World.cell?_of_block (w := w) (a := ⟨pd, 0, none⟩) (hst.chg.block pd ld nd)]; exact hpd
    have q2 : w1.cell? ⟨ps, 0, none⟩ = some (.string s) := by
      rw [World.cell?_of_block (w := w) (a := ⟨ps, 0, none⟩) (hst.chg.block ps ls ns)]; exact hps
    have q3 : w1.cell? ⟨pt, 0, none⟩ = some (.string t) := by
      rw [World.cell?_of_block (w := w) (a := ⟨pt, 0, none⟩) (hst.chg.block pt lt nt)]; exact hpt
    have hc1 := h1.cell 1
    simp only [List.getElem?_toArray, List.getElem?_cons_succ, List.getElem?_cons_zero] at hc1
    have hml := h1.lt L1.m (.inr (.inl rfl))
    have l1 : pd < w1.heap.size := Nat.lt_of_lt_of_le ld hst.chg.size
    have l2 : ps < w1.heap.size := Nat.lt_of_lt_of_le ls hst.chg.size
    have l3 := h1.lt d (.inl rfl)
    have hlk := run_look w1.drew d (σ.unlink t.data.toList) L1 (h1.below ((Below.refl _ _).drew)) s
    have hfv : findV L1 (σ.unlink t.data.toList) s.data.toList = .pointer (some ⟨L1.blk f.id, 0, none⟩) := by unfold findV; rw [HFS.out]; rfl
    rw [hfv] at hlk
    have hmap1 : MapAt w1.drew L1.m (L1.kv (σ.unlink t.data.toList).files) := h1.mapAt
    obtain ⟨w2, hup, hch, hmap2⟩ := hmap1.insert t (L1.blk f.id) (fun p hp => by
      obtain ⟨g, hg, rfl⟩ := List.mem_map.1 hp
      exact find_unlink σ _ g hg)
    have hnm : ((L1.kv (σ.unlink t.data.toList).files ++ [(t.data.toList, L1.blk f.id)]).map (·.1)).Nodup := by
      rw [List.map_append, List.nodup_append]
      refine ⟨by rw [kv_names]; exact h1.wf.names, by simp, fun x hx y hy e => ?_⟩
      rw [kv_names] at hx
      obtain ⟨g, hg, rfl⟩ := List.mem_map.1 hx
      simp at hy
      exact find_unlink σ _ g hg (by rw [e, hy])
    have hmap2' : MapAt w2.drew L1.m (L1.kv (σ.unlink t.data.toList).files ++ [(t.data.toList, L1.blk f.id)]) := hmap2
    obtain ⟨w3, hdel, hch3, hmap3⟩ := hmap2'.delete hnm s
    have hsm : (L1.kv (σ.unlink t.data.toList).files ++ [(t.data.toList, L1.blk f.id)]).filter (fun p => p.1 != s.data.toList) = ((L1.kv (σ.unlink t.data.toList).files).filter fun p => p.1 != s.data.toList) ++ [(t.data.toList, L1.blk f.id)] := by
      rw [List.filter_append]
      congr 1
      have : (t.data.toList != s.data.toList) = true := by simpa using Ne.symm hne.out
      simp [this]
    rw [hsm] at hmap3
    have hfin : DiskAt w3 d ((σ.unlink t.data.toList).moved s.data.toList t.data.toList f) L1 :=
      h1.move _ _ hf hname (find_unlink σ _) hgood (((Chg.refl _ w1).drew.trans hch).drew.trans hch3) hmap3
    have nm : d ≠ L1.m := Ne.symm h1.m_ne.1
    have fm : ∀ k, k < w.heap.size → ¬ L.foot d σ.files k → k ≠ L1.m := fun k hk hf e => hf (by rw [e, hst.m]; exact .inr (.inl rfl))
    have n1 : pd ≠ L1.m := fm pd ld nd
    have n2 : ps ≠ L1.m := fm ps ls ns
    have r1 : w2.cell? ⟨pd, 0, none⟩ = some (.pointer (some ⟨d, 0, none⟩)) := by
      rw [World.cell?_of_block (w := w1) (a := ⟨pd, 0, none⟩) (hch.block pd l1 n1)]; exact q1
    have r2 : w2.cell? ⟨ps, 0, none⟩ = some (.string s) := by
      rw [World.cell?_of_block (w := w1) (a := ⟨ps, 0, none⟩) (hch.block ps l2 n2)]; exact q2
    have r3 : w2.cell? ⟨d, 1, none⟩ = some (.map (some L1.m)) := by
      rw [World.cell?_of_block (w := w1) (a := ⟨d, 1, none⟩) (hch.block d l3 nm)]; exact hc1
    have HF := Lib.hid hfin
    have HC := Lib.hid hch
    have HC3 := Lib.hid hch3
    have HS := Lib.hid hst
    clear hfin hch hch3 hst hbk har hmap1 hmap2 hmap2' hmap3 hnm hsm hname key hfv
    unfold ptr at hup
    go_wp2_with fail
    go_upto_region 2 with fail
    go_cut [] (fun wx => wx = w2)
    case first =>
      go_region
      all_goals (go_wp2_with fail)
      all_goals
        go_meet
        rfl
    case rest =>
      subst hcut
      go_wp2_with fail
      go_region
      all_goals
        go_wp2_with fail
        go_end0
        refine ⟨rfl, L1, ?_⟩
        rw [HR.out]
        refine HS.out.trans ⟨HF.out, rfl, fun k hk hx => ?_, (((Chg.refl _ w1).drew.trans HC.out).drew.trans HC3.out).mono fun k _ e => by rw [e]; exact .inr (.inl rfl)⟩
        rcases hx with h2 | h2 | h2 | ⟨x, hx, h2⟩
        · exact .inl h2
        · exact .inr (.inl h2)
        · exact .inr (.inr (.inl h2))
        · rcases List.mem_append.1 (show x ∈ ((σ.unlink t.data.toList).files.filter fun g => g.name != s.data.toList) ++ [{ f with name := t.data.toList }] from hx) with h3 | h3
          · exact .inr (.inr (.inr ⟨x, (List.mem_filter.1 h3).1, h2⟩))
          · have h4 : x = { f with name := t.data.toList } := by simpa using h3
            rw [h4] at h2
            exact .inr (.inr (.inr ⟨f, hf, h2⟩))
end Disk
end Go.Proofs.YtlcenkkfcejnbaaGreatDoor
