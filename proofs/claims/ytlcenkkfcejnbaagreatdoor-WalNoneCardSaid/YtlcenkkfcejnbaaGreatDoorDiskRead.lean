/- The disk's call Read. -/
import Derived.Test.YtlcenkkfcejnbaaGreatDoorDiskRest
namespace Go.Proofs.YtlcenkkfcejnbaaGreatDoor
open Go.RowKit
namespace Disk

theorem BytesAt.of_row {w : World} {v : Value} {l : Bytes} (h : w.ownsRow 0 5 1 v l.length (bytesV l)) : BytesAt w v l := by
  rcases h.2 with ⟨h1, h2⟩ | ⟨g, cap, cur, h1, _, h2, h3, h4, h5, h6⟩
  · exact .inl ⟨h1, List.length_eq_zero_iff.1 h2⟩
  · refine .inr ⟨g, 0, cap, h1, IsCells.lt ⟨_, _, h2⟩, h3, fun i hi => ?_⟩
    have : cur[i]? = (bytesV l)[i]? := by
      rw [← h6, List.getElem?_take_of_lt (by omega)]; simp
    rw [Nat.zero_add, cell_of h2, this]
    simp [bytesV, List.getElem?_eq_getElem hi]

/-- A slice that is new: its bytes lie in a block that was not there. -/
def NewBytes (w : World) (l : Bytes) (v : Value) (w' : World) : Prop := w'.ownsRow 0 5 1 v l.length (bytesV l) ∧ Below w.heap.size w w' ∧ ∀ k, v.ownBlock = some k → w.heap.size ≤ k

def Cloned (w : World) (l : Bytes) (e : Ending) (w' : World) : Prop := ∃ v, e = .returned v ∧ NewBytes w l v w'

set_option maxRecDepth 100000 in
set_option maxHeartbeats 400000 in
theorem Clone_calls (v : Value) (l : Bytes) (w : World) (h : BytesAt w v l) (hl : l.length ≤ 140737488355328) :
    Calls Tryz.prog 81 #[v] w (Cloned w l) := by
  rcases h with ⟨rfl, rfl⟩ | ⟨g, off, c, rfl, hg, hcp, hc⟩
  · have he : ∀ w, (binOp .eql 24 (.slice none 0 0) (.slice none 0 0)).run Tryz.prog w = .ok (.bool true) w := fun w => run_eql_nil_slice w _ 5 none 0 0 0 0 (by kernel_rfl)
    go_enter Tryz.func81, Tryz.ntmps81
    go_wp2
    go_ret
    exact ⟨_, rfl, ⟨rfl, .inl ⟨rfl, rfl⟩⟩, Below.refl _ _, fun k hk => by simp [Value.ownBlock] at hk⟩
  · have he : ∀ w, (binOp .eql 24 (.slice (some ⟨g, off, none⟩) l.length c) (.slice none 0 0)).run Tryz.prog w = .ok (.bool false) w := fun w => Lib.run_eql_slice_nil w _ 5 (some ⟨g, off, none⟩) l.length c 0 0 (by kernel_rfl)
    have hu : BytesAt w (.slice (some ⟨g, off, none⟩) l.length c) l := .inr ⟨g, off, c, rfl, hg, hcp, hc⟩
    have hrow : (w.alloc (.cells #[] 5)).ownsRow 0 5 1 (.slice (some ⟨w.heap.size, 0, none⟩) 0 0) 0 [] := by
      refine ⟨rfl, .inr ⟨w.heap.size, 0, #[], rfl, Nat.zero_le _, ?_, Nat.le_refl _, Nat.zero_le _, rfl, rfl⟩⟩
      show (w.heap.push _)[w.heap.size]? = _; simp
    obtain ⟨v', w', hap, hr, hch, hlie⟩ := run_append_bytes _ _ _ _ _ l hrow (hu.below ((Below.refl _ _).alloc (Nat.le_refl _) (.cells #[] 5))) (by omega)
    have HR := Lib.hid hr
    have HC := Lib.hid hch
    have HL := Lib.hid hlie
    clear hr hch hlie hrow hu hc
    go_enter Tryz.func81, Tryz.ntmps81
    go_wp2_with (at_builtin; refine wpList_append_run rfl (.tmp 5) (.tmp 6) 24 rfl _ _ _ _ rfl rfl hap ?_)
    go_ret
    refine ⟨v', rfl, ?_, ?_, ?_⟩
    · have := HR.out
      simpa using this
    · refine ((Below.refl _ _).alloc (Nat.le_refl _) _).trans ((HC.out.below (B := w.heap.size) (by simp) fun k hk => ?_))
      simp only [Value.ownBlock, Option.some.injEq] at hk; omega
    · intro k hk
      rcases HL.out k hk with h1 | h1
      · simp only [Value.ownBlock, Option.some.injEq] at h1; omega
      · simp at h1; omega

def ReadRes (w : World) (r : Bytes × Int) (e : Ending) (w' : World) : Prop := ∃ v, e = .returned (.tuple #[v, .int .i64 r.2]) ∧ NewBytes w r.1 v w'

theorem read_bad {σ : DS} {s : Bytes} (h : σ.fault [s] true ≠ 0) : σ.read s = ([], σ.fault [s] true) := by
  unfold DS.read
  simp only [h, ne_eq, not_false_eq_true, if_true]
theorem read_ok {σ : DS} {s : Bytes} {f : File} (h : σ.fault [s] true = 0) (hf : σ.find s = some f) : σ.read s = (f.all, 0) := by
  unfold DS.read
  simp only [h, ne_eq, not_true_eq_false, if_false, hf]
  rfl

set_option maxRecDepth 100000 in
set_option maxHeartbeats 400000 in
theorem Read_calls (d : Nat) (σ : DS) (F : Nat → Prop) (s : ByteArray) (w : World) (h : Owns w d σ F) (hs : s.size ≤ maxLen) :
    Calls Tryz.prog 48 #[ptr d, .string s] w (ReadRes w (σ.read s.data.toList)) := by
  obtain ⟨⟨L, hA, hL⟩, hlt⟩ := h
  have hF := faults w d σ L hA [s] true (by simpa using hs) (by simp)
  obtain ⟨z, hz⟩ : ∃ z, z = σ.fault [s.data.toList] true := ⟨_, rfl⟩
  rw [show ([s].map fun x : ByteArray => x.data.toList) = [s.data.toList] from rfl, ← hz] at hF
  have hT := Texts.one w s 9
  have hb3 : Below w.heap.size w (w.alloc (.cells #[.string s] 9)) := (Below.refl _ _).alloc (Nat.le_refl _) _
  have HF := Lib.hid hF
  have HT := Lib.hid hT
  clear hF hT
  unfold ptr
  by_cases h0 : z = 0
  · subst h0
    obtain ⟨f, hf⟩ := fault_found hz.symm
    obtain ⟨hfm, hname⟩ := find_some hf
    have hE : Hid (σ.read s.data.toList = (f.all, 0)) := read_ok hz.symm hf
    have hlk := fun W (hW : DiskAt W d σ L) => run_look W d σ L hW s
    have hfv : findV L σ s.data.toList = .pointer (some ⟨L.blk f.id, 0, none⟩) := by unfold findV; rw [hf]; rfl
    rw [hfv] at hlk
    have hus := hA.wf.used_le
    have hsf : sectors f.all.length + 1 ≤ used σ.files := by have := used_erase hfm; omega
    have hfl : f.all.length ≤ 140737488355328 := by
      have h1 : sectors f.all.length ≤ 1073741824 := by omega
      unfold sectors at h1; omega
    have HFM := Lib.hid hfm
    clear hz hf hfv hname hfm
    go_enter Tryz.func48, Tryz.ntmps48
    go_wp2_with fail
    refine (HF.out _ _ hb3 HT.out).mono ?_
    rintro e w1 ⟨rfl, hb1⟩
    have hw1 := hb3.trans (hb1.mono hb3.size)
    have hA1 := hA.below hw1
    have d1 := hA1.cell 1
    obtain ⟨pa, pc, hl1, hl2, hl3, hpg⟩ := hA1.page_cells HFM.out
    have p0 := cell_of hpg 0
    simp only [List.getElem?_toArray, List.getElem?_cons_succ, List.getElem?_cons_zero] at d1 p0
    have hlk1 := hlk w1 hA1
    have hcl := Clone_calls (L.arr f.id) f.all w1 (BytesAt.of_row (hA1.pages f HFM.out).arr) hfl
    rw [hl1] at hcl
    have HC := Lib.hid hcl
    clear hlk hpg hl1 hcl
    go_wp2_with fail
    refine HC.out.mono ?_
    rintro e w2 ⟨v, rfl, hn⟩
    obtain ⟨va, vn, vc, rfl⟩ := row_slice hn.1
    go_wp2_with fail
    go_ret2
    rw [hE.out]
    exact ⟨_, rfl, hn.1, hw1.trans (hn.2.1.mono hw1.size), fun k hk => Nat.le_trans hw1.size (hn.2.2 k hk)⟩
  · have hE : Hid (σ.read s.data.toList = ([], z)) := by show _ = _; rw [hz]; exact read_bad (by rw [← hz]; exact h0)
    have hz1 : (z == 0) = false := by rw [beq_eq_false_iff_ne]; exact h0
    have hz2 : (z != 0) = true := by rw [bne_iff_ne]; exact h0
    clear hz h0
    go_enter Tryz.func48, Tryz.ntmps48
    go_wp2_with fail
    refine (HF.out _ _ hb3 HT.out).mono ?_
    rintro e w1 ⟨rfl, hb1⟩
    go_wp2_with fail
    go_ret2
    rw [hE.out]
    exact ⟨_, rfl, ⟨rfl, .inl ⟨rfl, rfl⟩⟩, hb3.trans (hb1.mono hb3.size), fun k hk => by simp [Value.ownBlock] at hk⟩
end Disk
end Go.Proofs.YtlcenkkfcejnbaaGreatDoor
