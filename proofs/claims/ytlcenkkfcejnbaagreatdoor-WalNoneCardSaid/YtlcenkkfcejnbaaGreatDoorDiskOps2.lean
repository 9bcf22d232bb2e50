/- The disk's operation Create. -/
import Derived.Test.YtlcenkkfcejnbaaGreatDoorDiskOps
namespace Go.Proofs.YtlcenkkfcejnbaaGreatDoor
open Go.RowKit
namespace Disk

def DS.full (σ : DS) (s : Bytes) : Bool := (σ.find s).isNone && (decide (48 ≤ σ.files.length) || decide (σ.free < 1))

theorem create_bad {σ : DS} {s : Bytes} (h : σ.fault [s] false ≠ 0) : σ.create s = (σ.fault [s] false, σ) := by
  unfold DS.create
  simp only [h, ne_eq, not_false_eq_true, if_true]
theorem create_full {σ : DS} {s : Bytes} (h : σ.fault [s] false = 0) (hf : σ.full s = true) : σ.create s = (7, σ) := by
  unfold DS.create
  simp only [DS.full, Bool.and_eq_true, Bool.or_eq_true, decide_eq_true_eq] at hf
  simp only [h, ne_eq, not_true_eq_false, if_false]
  rw [if_pos hf]
theorem create_eq {σ : DS} {s : Bytes} (h : σ.fault [s] false = 0) (hf : σ.full s = false) : σ.create s = Result9 σ σ.tick (σ.tick.created s) := by
  unfold DS.create
  have : ¬ ((σ.find s).isNone = true ∧ (48 ≤ σ.files.length ∨ σ.free < 1)) := by
    intro hx
    have : σ.full s = true := by
      simp only [DS.full, Bool.and_eq_true, Bool.or_eq_true, decide_eq_true_eq]; exact hx
    rw [hf] at this; cases this
  simp only [h, ne_eq, not_true_eq_false, if_false]
  rw [if_neg this]
  rfl

theorem room_for {σ : DS} {s : Bytes} (hw : σ.Wf) (hf : σ.full s = false) : (σ.unlink s).files.length < 48 ∧ 1 ≤ (σ.unlink s).free := by
  cases hx : σ.find s with
  | none =>
    rw [unlink_none hx]
    simp only [DS.full, hx, Option.isNone_none, Bool.true_and, Bool.or_eq_false_iff, decide_eq_false_iff_not] at hf
    omega
  | some f =>
    obtain ⟨hm, hn⟩ := find_some hx
    have h1 := used_split s σ.files f hw.names hm hn
    have h2 := hw.free
    have h3 := hw.most
    rw [unlink_some hx]
    constructor
    · show (σ.files.filter fun g : File => g.name != s).length < 48
      have : (σ.files.filter fun g : File => g.name != s).length < σ.files.length := by
        rcases Nat.lt_or_ge (σ.files.filter fun g : File => g.name != s).length σ.files.length with h1 | h1
        · exact h1
        · have h2 := List.length_filter_eq_length_iff.1 (Nat.le_antisymm (List.length_filter_le _ _) h1)
          have := h2 f hm
          rw [hn] at this; simp at this
      omega
    · unfold DS.free at *
      show 1 ≤ σ.room - (used (σ.files.filter fun g : File => g.name != s) : Int)
      omega

theorem map_size {w : World} {d : Nat} {σ : DS} {L : Lay} (h : DiskAt w d σ L) : ∃ es clock, w.heap[L.m]? = some (.map es clock) ∧ es.size = σ.files.length := by
  obtain ⟨es, c, h1, h2, _⟩ := h.map
  refine ⟨es, c, h1, ?_⟩
  have := congrArg List.length h2
  simpa using this

theorem run_len_names {w : World} {d : Nat} {σ : DS} {L : Lay} (h : DiskAt w d σ L) (ty : TypeId) : (Builtin.len_ #[98] ty #[.map (some L.m)]).run Tryz.prog w = .ok (.int .i64 σ.files.length) w := by
  obtain ⟨es, clock, hm, hms⟩ := map_size h
  simp [Builtin.len_, run_underlying und_map, MapKept.run_getObj_map hm, Result.andThen, goInt, hms]

theorem unlink_tick (σ : DS) (s : Bytes) : σ.tick.unlink s = (σ.unlink s).tick := by
  unfold DS.unlink
  rw [find_tick]
  cases σ.find s <;> rfl

def FullCut (w : World) (σ : DS) (s : Bytes) (v : Value) (wx : World) : Prop := v = .bool (σ.full s) ∧ Below w.heap.size w wx

set_option maxRecDepth 100000 in
set_option maxHeartbeats 1000000 in
theorem Create_calls (d : Nat) (σ : DS) (F : Nat → Prop) (s : ByteArray) (w : World) (h : Owns w d σ F) (hs : s.size ≤ maxLen) (hp : Plan σ) :
    Calls Tryz.prog 69 #[ptr d, .string s] w fun e w' => e = .returned (.int .i64 (σ.create s.data.toList).1) ∧ Moves w d F (σ.create s.data.toList).2 w' := by
  obtain ⟨⟨L, hA, hL⟩, hlt⟩ := h
  have hF := faults w d σ L hA [s] false (by simpa using hs) (by simp)
  obtain ⟨z, hz⟩ : ∃ z, z = σ.fault [s.data.toList] false := ⟨_, rfl⟩
  rw [show ([s].map fun x : ByteArray => x.data.toList) = [s.data.toList] from rfl, ← hz] at hF
  obtain ⟨hb2, v0, v1, hsz⟩ := two_vars w (.pointer (some ⟨d, 0, none⟩)) (.string s) 40 9
  have hT := Texts.one ((w.alloc (.cells #[.pointer (some ⟨d, 0, none⟩)] 40)).alloc (.cells #[.string s] 9)) s 9
  rw [hsz] at hT
  have hb3 := hb2.alloc hb2.size (.cells #[.string s] 9)
  have HF := Lib.hid hF
  have HV0 := Lib.hid v0
  have HV1 := Lib.hid v1
  have HT := Lib.hid hT
  have HSZ := Lib.hid hsz
  have HO : Hid (Owns w d σ F) := ⟨⟨L, hA, hL⟩, hlt⟩
  have HL := Lib.hid hL
  clear hF v0 v1 hT hsz hL
  unfold ptr
  by_cases h0 : z = 0
  · subst h0
    have HZ := Lib.hid hz
    clear hz
    go_enter Tryz.func69, Tryz.ntmps69
    go_wp2_with fail
    refine (HF.out _ _ hb3 HT.out).mono ?_
    rintro e w1 ⟨rfl, hb1⟩
    have hw1 := hb3.trans (hb1.mono hb3.size)
    have u0 : w1.heap[w.heap.size]? = some (.cells #[.pointer (some ⟨d, 0, none⟩)] 40 (0, 0)) := by
      rw [hb1.block _ (by simp; omega), Below.heap_alloc _ _ _ (by simp; omega)]; exact HV0.out
    have u1 : w1.heap[w.heap.size + 1]? = some (.cells #[.string s] 9 (0, 0)) := by
      rw [hb1.block _ (by simp), Below.heap_alloc _ _ _ (by simp)]; exact HV1.out
    have c0 := cell_of u0 0
    have c1 := cell_of u1 0
    simp only [List.getElem?_toArray, List.getElem?_cons_zero] at c0 c1
    have hA1 := hA.below hw1
    have d1 := hA1.cell 1
    simp only [List.getElem?_toArray, List.getElem?_cons_succ, List.getElem?_cons_zero] at d1
    have n0 : ¬ L.foot d σ.files w.heap.size := fun e => by have := hA.lt _ e; omega
    have n1 : ¬ L.foot d σ.files (w.heap.size + 1) := fun e => by have := hA.lt _ e; omega
    have l0 := IsCells.lt ⟨_, _, u0⟩
    have l1 := IsCells.lt ⟨_, _, u1⟩
    have U0 := Lib.hid u0
    have U1 := Lib.hid u1
    clear u0 u1
    go_wp2_with fail
    go_cut [32] (fun v wx => FullCut w1 σ s.data.toList v wx)
    case first =>
      have hlk := fun n => run_look (w1.drewN n) d σ L (hA1.below (bdrewN n (Below.refl _ _))) s
      have hlk1 := run_look (w1.drew) d σ L (hA1.below ((Below.refl _ _).drew)) s
      cases hfnd : σ.find s.data.toList with
      | some f =>
        have hfv : findV L σ s.data.toList = .pointer (some ⟨L.blk f.id, 0, none⟩) := by unfold findV; rw [hfnd]; rfl
        rw [hfv] at hlk
        have hfull : Hid (σ.full s.data.toList = false) := by show _ = _; simp [DS.full, hfnd]
        clear hfnd hfv hlk1
        go_quiet (fail)
        go_wp2_with fail
        go_meet
        exact ⟨by rw [hfull.out], bdrewN _ (Below.refl _ _)⟩
      | none =>
        have hfv : findV L σ s.data.toList = .pointer none := by unfold findV; rw [hfnd]
        rw [hfv] at hlk hlk1
        have hlen := fun n => run_len_names (hA1.below (bdrewN n (Below.refl _ _)))
        have hmost := hA1.wf.most
        by_cases h48 : 48 ≤ σ.files.length
        · have hfull : Hid (σ.full s.data.toList = true) := by show _ = _; simp [DS.full, hfnd, h48]
          have h48' : (48 : Int) ≤ σ.files.length := by omega
          clear hfnd hfv hlk1 h48
          go_quiet (fail)
          go_wp2_with fail
          go_meet
          exact ⟨by rw [hfull.out], bdrewN _ (Below.refl _ _)⟩
        · have hlen1 := run_len_names (hA1.below ((Below.refl _ _).drew))
          have h48' : decide ((48 : Int) ≤ (σ.files.length : Int)) = false := by simp; omega
          have hfree := Lib.hid (fun W (hW : Below w1.heap.size w1 W) => Free_calls d σ L W (hA1.below hW))
          have hfull : Hid (σ.full s.data.toList = decide (σ.free < 1)) := by show _ = _; simp [DS.full, hfnd, h48]
          clear hfnd hfv h48 hlk hlen
          unfold ptr at hfree
          go_region_with (go_at_call 71; refine (hfree.out _ ((Below.refl _ _).drew)).mono ?_; rintro e w2 ⟨rfl, hb2⟩)
          all_goals (go_wp2_with fail)
          all_goals
            go_meet
            exact ⟨congrArg Value.bool hfull.out.symm, ((Below.refl _ w1).drew).trans hb2⟩
    case rest =>
      obtain ⟨rfl, hbc⟩ := hcut
      have hwc := hw1.trans (hbc.mono hw1.size)
      have k0 : wc.heap[w.heap.size]? = some (.cells #[.pointer (some ⟨d, 0, none⟩)] 40 (0, 0)) := by rw [hbc.block _ l0]; exact U0.out
      have k1 : wc.heap[w.heap.size + 1]? = some (.cells #[.string s] 9 (0, 0)) := by rw [hbc.block _ l1]; exact U1.out
      have e0 := cell_of k0 0
      have e1 := cell_of k1 0
      simp only [List.getElem?_toArray, List.getElem?_cons_zero] at e0 e1
      have m0 := IsCells.lt ⟨_, _, k0⟩
      have m1 := IsCells.lt ⟨_, _, k1⟩
      have hAc := hA.below hwc
      clear k0 k1 d1 c0 c1 l0 l1
      cases hfu : σ.full s.data.toList
      · have hE : Hid (σ.create s.data.toList = Result9 σ σ.tick (σ.tick.created s.data.toList)) := create_eq HZ.out.symm hfu
        obtain ⟨r1, r2⟩ := room_for hA.wf hfu
        clear hfu
        have key := Perform_calls d σ σ.tick (σ.tick.created s.data.toList) L wc hAc 75 103 #[] #[.pointer (some ⟨w.heap.size, 0, none⟩), .pointer (some ⟨w.heap.size + 1, 0, none⟩)] hp
          (func_ok ⟨_, Tryz.func75, by kernel_rfl, by kernel_rfl⟩ _) (func_ok ⟨_, Tryz.func103, by kernel_rfl, by kernel_rfl⟩ _)
          (fun W hW => (None_calls W).mono fun e w' ⟨h1, h2⟩ => ⟨h1, L, by rw [← h2]; exact Step.refl hW.at_⟩)
          (fun W L1 hW => by
            obtain ⟨q0, t0, g0⟩ := hW.off m0 n0
            obtain ⟨q1, t1, g1⟩ := hW.off m1 n1
            refine CreateRest_calls d σ.tick L1 s w.heap.size (w.heap.size + 1) W hW.at_ (cell_old e0 g0) (cell_old e1 g1) ⟨⟨q0, t0⟩, q1, t1⟩ ?_ ?_ (fault_good HZ.out.symm _ (by simp))
            · rw [unlink_tick]; exact r1
            · rw [unlink_tick]; exact r2)
        have KEY := Lib.hid key
        clear key
        go_wp2_with fail
        refine KEY.out.mono ?_
        rintro e w2 ⟨rfl, hr⟩
        go_wp2_with fail
        go_ret
        rw [hE.out]
        exact ⟨rfl, HO.out.moves HL.out (reach_from hA hwc hr)⟩
      · have hE : Hid (σ.create s.data.toList = (7, σ)) := create_full HZ.out.symm hfu
        clear hfu
        go_wp2_with fail
        go_ret
        rw [hE.out]
        exact ⟨rfl, Moves.of_below HO.out hwc⟩
  · have hE : Hid (σ.create s.data.toList = (z, σ)) := by show _ = _; rw [hz]; exact create_bad (by rw [← hz]; exact h0)
    have hz1 : (z == 0) = false := by rw [beq_eq_false_iff_ne]; exact h0
    have hz2 : (z != 0) = true := by rw [bne_iff_ne]; exact h0
    clear hz h0
    go_enter Tryz.func69, Tryz.ntmps69
    go_wp2_with fail
    refine (HF.out _ _ hb3 HT.out).mono ?_
    rintro e w1 ⟨rfl, hb1⟩
    go_wp2_with fail
    go_ret
    rw [hE.out]
    exact ⟨rfl, Moves.of_below HO.out (hb3.trans (hb1.mono hb3.size))⟩
end Disk
end Go.Proofs.YtlcenkkfcejnbaaGreatDoor
