/- The disk's operation Append. -/
import Derived.Test.YtlcenkkfcejnbaaGreatDoorDiskOps
import Derived.Deep.RegionHeld3
namespace Go.Proofs.YtlcenkkfcejnbaaGreatDoor
open Go.RowKit
namespace Disk

theorem append_bad {σ : DS} {s b : Bytes} (h : σ.fault [s] true ≠ 0) : σ.append s b = (σ.fault [s] true, σ) := by
  unfold DS.append
  simp only [h, ne_eq, not_false_eq_true, if_true]
theorem append_full {σ : DS} {s b : Bytes} {f : File} (h0 : σ.fault [s] true = 0) (hf : σ.find s = some f) (hfull : σ.free < (sectors (f.all.length + b.length) : Int) - sectors f.all.length) : σ.append s b = (7, σ) := by
  unfold DS.append
  simp only [h0, hf, ne_eq, not_true_eq_false, if_false, if_pos hfull]
theorem append_eq {σ : DS} {s b : Bytes} {f : File} (h0 : σ.fault [s] true = 0) (hf : σ.find s = some f) (hfull : ¬ σ.free < (sectors (f.all.length + b.length) : Int) - sectors f.all.length) : σ.append s b = Result9 σ (σ.tick.appended f b) (σ.tick.appended f b) := by
  unfold DS.append
  simp only [h0, hf, ne_eq, not_true_eq_false, if_false, if_neg hfull]
  rfl

theorem Sectors_int (x : Int) (n : Nat) (w : World) (hx : x = n) (h : n ≤ maxLen) :
    Calls Tryz.prog 70 #[.int .i64 x] w fun e w' => e = .returned (.int .i64 (sectors n : Nat)) ∧ w = w' := by
  subst hx; exact Sectors_calls n w h

set_option maxRecDepth 100000 in
set_option maxHeartbeats 1000000 in
theorem Append_calls (d : Nat) (σ : DS) (F : Nat → Prop) (s : ByteArray) (vb : Value) (b : Bytes) (w : World) (h : Owns w d σ F) (hs : s.size ≤ maxLen) (hp : Plan σ) (hb : BytesAt w vb b) (hbf : ∀ k, vb.ownBlock = some k → ¬ F k) (hbl : b.length ≤ 1152921504606846976) :
    Calls Tryz.prog 43 #[ptr d, .string s, vb] w fun e w' => e = .returned (.int .i64 (σ.append s.data.toList b).1) ∧ Moves w d F (σ.append s.data.toList b).2 w' := by
  obtain ⟨⟨L, hA, hL⟩, hlt⟩ := h
  obtain ⟨ba, bc, rfl⟩ := hb.form
  have hF := faults w d σ L hA [s] true (by simpa using hs) (by simp)
  obtain ⟨z, hz⟩ : ∃ z, z = σ.fault [s.data.toList] true := ⟨_, rfl⟩
  rw [show ([s].map fun x : ByteArray => x.data.toList) = [s.data.toList] from rfl, ← hz] at hF
  obtain ⟨hb2, v0, v1, hsz⟩ := two_vars w (.pointer (some ⟨d, 0, none⟩)) (.slice ba b.length bc) 40 24
  have hT := Texts.one ((w.alloc (.cells #[.pointer (some ⟨d, 0, none⟩)] 40)).alloc (.cells #[.slice ba b.length bc] 24)) s 9
  rw [hsz] at hT
  have hb3 := hb2.alloc hb2.size (.cells #[.string s] 9)
  have HF := Lib.hid hF
  have HV0 := Lib.hid v0
  have HV1 := Lib.hid v1
  have HT := Lib.hid hT
  have HSZ := Lib.hid hsz
  have HO : Hid (Owns w d σ F) := ⟨⟨L, hA, hL⟩, hlt⟩
  have HL := Lib.hid hL
  have HB := Lib.hid hb
  clear hF v0 v1 hT hsz hL hb
  unfold ptr
  by_cases h0 : z = 0
  · subst h0
    obtain ⟨f, hf⟩ := fault_found hz.symm
    obtain ⟨hfm, hname⟩ := find_some hf
    have hFN := Lib.hid hf
    have HZ := Lib.hid hz
    have HFM := Lib.hid hfm
    have hlk := fun W (hW : DiskAt W d σ L) => run_look W d σ L hW s
    have hfv : findV L σ s.data.toList = .pointer (some ⟨L.blk f.id, 0, none⟩) := by unfold findV; rw [hf]; rfl
    rw [hfv] at hlk
    have hus := hA.wf.used_le
    have hsf : sectors f.all.length + 1 ≤ used σ.files := by have := used_erase hfm; omega
    have hfl : f.all.length ≤ 17179869184 := by
      have h1 : sectors f.all.length ≤ 1073741824 := by omega
      unfold sectors at h1; omega
    clear hz hf hfv hname hfm
    go_enter Tryz.func43, Tryz.ntmps43
    go_wp2_with fail
    refine (HF.out _ _ hb3 HT.out).mono ?_
    rintro e w1 ⟨rfl, hb1⟩
    have hw1 := hb3.trans (hb1.mono hb3.size)
    have u0 : w1.heap[w.heap.size]? = some (.cells #[.pointer (some ⟨d, 0, none⟩)] 40 (0, 0)) := by
      rw [hb1.block _ (by first | (simp; done) | (simp; omega)), Below.heap_alloc _ _ _ (by first | (simp; done) | (simp; omega))]; exact HV0.out
    have u1 : w1.heap[w.heap.size + 1]? = some (.cells #[.slice ba b.length bc] 24 (0, 0)) := by
      rw [hb1.block _ (by first | (simp; done) | (simp; omega)), Below.heap_alloc _ _ _ (by first | (simp; done) | (simp; omega))]; exact HV1.out
    have c0 := cell_of u0 0
    have c1 := cell_of u1 0
    have hA1 := hA.below hw1
    have d1 := hA1.cell 1
    obtain ⟨pa, pc, hl1, hl2, hl3, hpg⟩ := hA1.page_cells HFM.out
    have p0 := cell_of hpg 0
    simp only [List.getElem?_toArray, List.getElem?_cons_succ, List.getElem?_cons_zero] at c0 c1 d1 p0
    have hlk1 := hlk w1 hA1
    have l0 := IsCells.lt ⟨_, _, u0⟩
    have l1 := IsCells.lt ⟨_, _, u1⟩
    have lp := (hA1.page HFM.out).lt
    have U0 := Lib.hid u0
    have U1 := Lib.hid u1
    have HP := Lib.hid hpg
    have HL1 := Lib.hid hl1
    clear u0 u1 hlk hpg hl1
    go_wp2_with fail
    obtain ⟨hb4, x0, x1, hsz4⟩ := two_vars w1 (.pointer (some ⟨L.blk f.id, 0, none⟩)) (.int .i64 (f.all.length : Int)) 103 3
    generalize hwb : (w1.alloc (.cells #[.pointer (some ⟨L.blk f.id, 0, none⟩)] 103)).alloc (.cells #[.int .i64 (f.all.length : Int)] 3) = wb at hb4 x0 x1 hsz4
    have hbw := hw1.trans (hb4.mono hw1.size)
    have hAb := hA.below hbw
    have y0 : wb.heap[w.heap.size]? = some (.cells #[.pointer (some ⟨d, 0, none⟩)] 40 (0, 0)) := by rw [hb4.block _ l0]; exact U0.out
    have y1 : wb.heap[w.heap.size + 1]? = some (.cells #[.slice ba b.length bc] 24 (0, 0)) := by rw [hb4.block _ l1]; exact U1.out
    have e0 := cell_of y0 0
    have e1 := cell_of y1 0
    have e2 := cell_of x0 0
    have e3 := cell_of x1 0
    simp only [List.getElem?_toArray, List.getElem?_cons_zero] at e0 e1 e2 e3
    have m0 := IsCells.lt ⟨_, _, y0⟩
    have m1 := IsCells.lt ⟨_, _, y1⟩
    have m2 := IsCells.lt ⟨_, _, x0⟩
    have m3 := IsCells.lt ⟨_, _, x1⟩
    have Y0 := Lib.hid y0
    have Y1 := Lib.hid y1
    have X0 := Lib.hid x0
    have X1 := Lib.hid x1
    have HWB := Lib.hid hwb
    have HSZ4 := Lib.hid hsz4
    have hfree := Lib.hid (fun W (hW : Below wb.heap.size wb W) => Free_calls d σ L W (hAb.below hW))
    have hfb1 := hA.wf.free
    have hfb2 : σ.free ≤ 1073741824 := by
      have := hA.wf.room
      unfold DS.free; omega
    have hsb : sectors (f.all.length + b.length) ≤ 1152921504606846976 := by unfold sectors; omega
    have hsb2 : sectors f.all.length ≤ 1152921504606846976 := by omega
    have hsum : IntKind.i64.wrap ((f.all.length : Int) + (b.length : Int)) = ((f.all.length + b.length : Nat) : Int) := by
      rw [IntWalk.i64_in _ (by omega)]; omega
    have hdif : IntKind.i64.wrap ((sectors (f.all.length + b.length) : Int) - (sectors f.all.length : Int)) = (sectors (f.all.length + b.length) : Int) - (sectors f.all.length : Int) := IntWalk.i64_in _ (by omega)
    have hmx : f.all.length + b.length ≤ maxLen := by unfold maxLen; omega
    clear y0 y1 x0 x1 hwb hsz4 c0 c1 d1 hlk1
    unfold ptr at hfree
    go_cut [38] (fun v wx => v = .bool (decide (σ.free < (sectors (f.all.length + b.length) : Int) - sectors f.all.length)) ∧ Below wb.heap.size wb wx)
    case first =>
      go_region_held3 (fun w' => w'.cell? ⟨w1.heap.size + 1, 0, none⟩ = some (.int .i64 (f.all.length : Int)) ∧ w'.cell? ⟨w.heap.size + 1, 0, none⟩ = some (.slice ba b.length bc) ∧ w'.cell? ⟨w.heap.size, 0, none⟩ = some (.pointer (some ⟨d, 0, none⟩)))
        (first
          | exact ⟨e3, e1, e0⟩
          | exact ⟨cell_old e3 (hb2'.block _ m3), cell_old e1 (hb2'.block _ m1), cell_old e0 (hb2'.block _ m0)⟩)
        (first
        | (go_at_call 70; refine (Sectors_int _ (f.all.length + b.length) _ (by omega) hmx).mono ?_; rintro e w' ⟨rfl, rfl⟩)
        | (go_at_call 70; refine (Sectors_int _ f.all.length _ rfl hl2).mono ?_; rintro e w' ⟨rfl, rfl⟩)
        | (go_at_call 71; refine (hfree.out _ (by first | exact Below.refl _ _ | exact (Below.refl _ _).drew)).mono ?_; rintro e w2 ⟨rfl, hb2'⟩))
      all_goals (go_wp2_with fail)
      all_goals
        go_meet
        exact ⟨rfl, ((Below.refl _ wb).drew).trans hb2'⟩
    case rest =>
      obtain ⟨rfl, hbc⟩ := hcut
      have hwc := hbw.trans (hbc.mono hbw.size)
      have k0 : wc.heap[w.heap.size]? = some (.cells #[.pointer (some ⟨d, 0, none⟩)] 40 (0, 0)) := by rw [hbc.block _ m0]; exact Y0.out
      have k1 : wc.heap[w.heap.size + 1]? = some (.cells #[.slice ba b.length bc] 24 (0, 0)) := by rw [hbc.block _ m1]; exact Y1.out
      have k2 : wc.heap[w1.heap.size]? = some (.cells #[.pointer (some ⟨L.blk f.id, 0, none⟩)] 103 (0, 0)) := by rw [hbc.block _ m2]; exact X0.out
      have k3 : wc.heap[w1.heap.size + 1]? = some (.cells #[.int .i64 (f.all.length : Int)] 3 (0, 0)) := by rw [hbc.block _ m3]; exact X1.out
      have r0 := cell_of k0 0
      have r1 := cell_of k1 0
      have r2 := cell_of k2 0
      have r3 := cell_of k3 0
      simp only [List.getElem?_toArray, List.getElem?_cons_zero] at r0 r1 r2 r3
      have t0 := IsCells.lt ⟨_, _, k0⟩
      have t1 := IsCells.lt ⟨_, _, k1⟩
      have t2 := IsCells.lt ⟨_, _, k2⟩
      have t3 := IsCells.lt ⟨_, _, k3⟩
      have n0 : ¬ L.foot d σ.files w.heap.size := fun e => by have := hA.lt _ e; omega
      have n1 : ¬ L.foot d σ.files (w.heap.size + 1) := fun e => by have := hA.lt _ e; omega
      have n2 : ¬ L.foot d σ.files w1.heap.size := fun e => by have := hA.lt _ e; have := hw1.size; omega
      have n3 : ¬ L.foot d σ.files (w1.heap.size + 1) := fun e => by have := hA.lt _ e; have := hw1.size; omega
      have hAc := hA.below hwc
      clear k0 k1 k2 k3 e0 e1 e2 e3 m0 m1 m2 m3 hsum hdif hmx hfree
      by_cases hfu : σ.free < (sectors (f.all.length + b.length) : Int) - sectors f.all.length
      · have hE : Hid (σ.append s.data.toList b = (7, σ)) := append_full HZ.out.symm hFN.out hfu
        rw [show decide (σ.free < (sectors (f.all.length + b.length) : Int) - sectors f.all.length) = true from decide_eq_true hfu]
        clear hfu
        go_wp2_with fail
        go_ret
        rw [hE.out]
        exact ⟨rfl, Moves.of_below HO.out hwc⟩
      · have hE : Hid (σ.append s.data.toList b = Result9 σ (σ.tick.appended f b) (σ.tick.appended f b)) := append_eq HZ.out.symm hFN.out hfu
        rw [show decide (σ.free < (sectors (f.all.length + b.length) : Int) - sectors f.all.length) = false from decide_eq_false hfu]
        have hbc2 : BytesAt wc (.slice ba b.length bc) b := HB.out.below hwc
        have key := Perform_calls d σ (σ.tick.appended f b) (σ.tick.appended f b) L wc hAc 73 75 #[.pointer (some ⟨w1.heap.size, 0, none⟩), .pointer (some ⟨w.heap.size + 1, 0, none⟩), .pointer (some ⟨w.heap.size, 0, none⟩), .pointer (some ⟨w1.heap.size + 1, 0, none⟩)] #[] hp
          (func_ok ⟨_, Tryz.func73, by kernel_rfl, by kernel_rfl⟩ _) (func_ok ⟨_, Tryz.func75, by kernel_rfl, by kernel_rfl⟩ _)
          (fun W hW => by
            obtain ⟨q0, z0, g0⟩ := hW.off t0 n0
            obtain ⟨q1, z1, g1⟩ := hW.off t1 n1
            obtain ⟨q2, z2, g2⟩ := hW.off t2 n2
            obtain ⟨q3, z3, g3⟩ := hW.off t3 n3
            refine AppendHalf_calls d σ.tick L f b (.slice ba b.length bc) w1.heap.size (w.heap.size + 1) w.heap.size (w1.heap.size + 1) W hW.at_ HFM.out (cell_old r2 g2) (cell_old r1 g1) (cell_old r0 g0) (cell_old r3 g3) ⟨⟨q2, z2⟩, ⟨q1, z1⟩, ⟨q0, z0⟩, q3, z3⟩ ?_ (by omega) (by exact Int.not_lt.1 hfu)
            refine hbc2.keep hW.chg.size fun k hk => hW.chg.block k ?_ fun hf => hbf k hk (HL.out k hf)
            rcases hbc2 with ⟨h1, _⟩ | ⟨g, off, c, h1, h2, _⟩
            · rw [h1] at hk; simp [Value.ownBlock] at hk
            · rw [h1] at hk; simp only [Value.ownBlock, Option.some.injEq] at hk; omega)
          (fun W L1 hW => (None_calls W).mono fun e w' ⟨h1, h2⟩ => ⟨h1, L1, by rw [← h2]; exact Step.refl hW.at_⟩)
        have KEY := Lib.hid key
        clear key hfu
        go_wp2_with fail
        refine KEY.out.mono ?_
        rintro e w2 ⟨rfl, hr⟩
        go_wp2_with fail
        go_ret
        rw [hE.out]
        exact ⟨rfl, HO.out.moves HL.out (reach_from hA hwc hr)⟩
  · have hE : Hid (σ.append s.data.toList b = (z, σ)) := by show _ = _; rw [hz]; exact append_bad (by rw [← hz]; exact h0)
    have hz1 : (z == 0) = false := by rw [beq_eq_false_iff_ne]; exact h0
    have hz2 : (z != 0) = true := by rw [bne_iff_ne]; exact h0
    clear hz h0
    go_enter Tryz.func43, Tryz.ntmps43
    go_wp2_with fail
    refine (HF.out _ _ hb3 HT.out).mono ?_
    rintro e w1 ⟨rfl, hb1⟩
    go_wp2_with fail
    go_ret
    rw [hE.out]
    exact ⟨rfl, Moves.of_below HO.out (hb3.trans (hb1.mono hb3.size))⟩
end Disk
end Go.Proofs.YtlcenkkfcejnbaaGreatDoor
