/- What an operation makes of a disk: done up to half, then the power may fail. -/
import Derived.Test.YtlcenkkfcejnbaaGreatDoorDiskRename
namespace Go.Proofs.YtlcenkkfcejnbaaGreatDoor
open Go.RowKit
namespace Disk

theorem DiskAt.own {w w' : World} {d : Nat} {σ σ' : DS} {L : Lay} (h : DiskAt w d σ L) (hf : σ'.files = σ.files) (hr : σ'.room = σ.room) (hn : σ'.next = σ.next) (hl : σ'.line = σ.line)
    (hs : w'.heap[d]? = some (.cells #[.int .i64 σ'.room, .map (some L.m), L.line, .bool σ'.dark, .int .i64 σ'.ops, .int .i64 σ'.plan, .int .i64 σ'.keep] 101 (0, 0)))
    (hc : Chg (· = d) w w') : DiskAt w' d σ' L := by
  have hdl : ∀ k, L.line.ownBlock = some k → k ≠ d := fun k hk e => by
    obtain ⟨cur, hc⟩ := h.line_block hk
    rw [e, h.self] at hc; simp at hc
  have := h.put (w' := w') (σ' := σ') L.line hf hr hn hs (fun k hk _ hkf => hc.block k (h.lt k hkf) hk) (by rw [hl]; exact ownsRow_keep h.line fun k hk => hc.block k (h.lt k (.inr (.inr (.inl hk)))) (hdl k hk)) (by rw [hl]; exact h.wf.line) (by rw [hl]; exact h.wf.dirty)
  exact this

theorem Step.off {w w1 : World} {d : Nat} {σ σ1 : DS} {L L1 : Lay} (h : Step w d σ L σ1 L1 w1) {k : Nat} (hk : k < w.heap.size) (hf : ¬ L.foot d σ.files k) : ¬ L1.foot d σ1.files k ∧ k < w1.heap.size ∧ w1.heap[k]? = w.heap[k]? :=
  ⟨fun e => hf (h.foot k hk e), Nat.lt_of_lt_of_le hk h.chg.size, h.chg.block k hk hf⟩

def Result9 (σ : DS) (σh σr : DS) : Int × DS := if σ.plan = 1 then (9, σh.crash σh.keep) else (0, σr)

set_option maxRecDepth 100000 in
set_option maxHeartbeats 1000000 in
theorem Perform_calls (d : Nat) (σ σh σr : DS) (L : Lay) (w : World) (h : DiskAt w d σ L) (fh fr : Nat) (ch cr : Array Value) (hpl : -9223372036854775808 ≤ σ.plan ∧ σ.plan ≤ 9223372036854775807) (eh : ∀ w, (callFunc fh ch).run Tryz.prog w = .ok (.enter fh ch) w) (er : ∀ w, (callFunc fr cr).run Tryz.prog w = .ok (.enter fr cr) w)
    (hhalf : ∀ W, Step w d σ L σ.tick L W → Calls Tryz.prog fh ch W fun e W' => e = .returned (.tuple #[]) ∧ Reached W d σ.tick L σh W')
    (hrest : ∀ W L1, Step w d σ L σh L1 W → Calls Tryz.prog fr cr W fun e W' => e = .returned (.tuple #[]) ∧ Reached W d σh L1 σr W') :
    Calls Tryz.prog 72 #[ptr d, .func (.func fh) #[] ch, .func (.func fr) #[] cr] w fun e w' => e = .returned (.int .i64 (Result9 σ σh σr).1) ∧ Reached w d σ L (Result9 σ σh σr).2 w' := by
  have hself := h.self
  have c4 := cell_of hself 4
  have c5 := cell_of hself 5
  have f4 := free_of hself 4
  have f5 := free_of hself 5
  simp only [List.getElem?_toArray, List.getElem?_cons_succ, List.getElem?_cons_zero] at c4 c5
  have HS := Lib.hid hself
  have HH := Lib.hid hhalf
  have HR := Lib.hid hrest
  clear hself hhalf hrest
  unfold ptr
  by_cases h0 : 0 < σ.plan
  · have hset := set_block (set_block HS.out 4 (.int .i64 (wrap64 (σ.ops + 1)))) 5 (.int .i64 (σ.plan - 1))
    have hA : DiskAt ((w.setCell ⟨d, 4, none⟩ (.int .i64 (wrap64 (σ.ops + 1)))).setCell ⟨d, 5, none⟩ (.int .i64 (σ.plan - 1))) d σ.tick L := by
      refine h.own (σ' := σ.tick) rfl rfl rfl rfl ?_ (((Chg.refl (· = d) w).setCell (p := ⟨d, 4, none⟩) (fun _ => rfl) _).setCell (p := ⟨d, 5, none⟩) (fun _ => rfl) _)
      rw [hset]
      simp [DS.tick, h0]
    have hS : Step w d σ L σ.tick L ((w.setCell ⟨d, 4, none⟩ (.int .i64 (wrap64 (σ.ops + 1)))).setCell ⟨d, 5, none⟩ (.int .i64 (σ.plan - 1))) :=
      ⟨hA, rfl, fun _ _ h => h, ((Chg.refl _ _).setCell (fun _ => .inl rfl) _).setCell (fun _ => .inl rfl) _⟩
    have HST := Lib.hid hS
    clear hset hA hS
    by_cases h1 : σ.plan = 1
    · have hb1 : (σ.plan == 1) = true := by rw [beq_iff_eq]; exact h1
      have HX : Hid (Result9 σ σh σr = (9, σh.crash σh.keep)) := by show _ = _; unfold Result9; rw [if_pos h1]
      clear h1
      go_enter Tryz.func72, Tryz.ntmps72
      go_wp2_with fail
      refine (HH.out _ HST.out).mono ?_
      rintro e w1 ⟨rfl, L1, hs1⟩
      have hs2 := HST.out.trans hs1
      have hc6 := hs2.at_.cell 6
      simp only [List.getElem?_toArray, List.getElem?_cons_succ, List.getElem?_cons_zero] at hc6
      have HS2 := Lib.hid hs2
      clear hs1 hs2
      go_wp2_with fail
      refine (Crash_calls d σh L1 σh.keep _ HS2.out.at_).mono ?_
      rintro e w2 ⟨rfl, L2, hs3⟩
      go_wp2_with fail
      go_ret
      rw [HX.out]
      exact ⟨rfl, L2, HS2.out.trans hs3⟩
    · have hb1 : (σ.plan == 1) = false := by rw [beq_eq_false_iff_ne]; exact h1
      have HX : Hid (Result9 σ σh σr = (0, σr)) := by show _ = _; unfold Result9; rw [if_neg h1]
      clear h1
      go_enter Tryz.func72, Tryz.ntmps72
      go_wp2_with fail
      refine (HH.out _ HST.out).mono ?_
      rintro e w1 ⟨rfl, L1, hs1⟩
      have hs2 := HST.out.trans hs1
      have HS2 := Lib.hid hs2
      clear hs1 hs2
      go_wp2_with fail
      refine (HR.out _ L1 HS2.out).mono ?_
      rintro e w2 ⟨rfl, L2, hs3⟩
      go_wp2_with fail
      go_ret
      rw [HX.out]
      exact ⟨rfl, L2, HS2.out.trans hs3⟩
  · have hset := set_block HS.out 4 (.int .i64 (wrap64 (σ.ops + 1)))
    have hA : DiskAt (w.setCell ⟨d, 4, none⟩ (.int .i64 (wrap64 (σ.ops + 1)))) d σ.tick L := by
      refine h.own (σ' := σ.tick) rfl rfl rfl rfl ?_ ((Chg.refl (· = d) w).setCell (p := ⟨d, 4, none⟩) (fun _ => rfl) _)
      rw [hset]
      simp [DS.tick, h0]
    have hS : Step w d σ L σ.tick L (w.setCell ⟨d, 4, none⟩ (.int .i64 (wrap64 (σ.ops + 1)))) :=
      ⟨hA, rfl, fun _ _ h => h, (Chg.refl _ _).setCell (fun _ => .inl rfl) _⟩
    have HST := Lib.hid hS
    clear hset hA hS
    have hb1 : (σ.plan == 1) = false := by rw [beq_eq_false_iff_ne]; omega
    have HX : Hid (Result9 σ σh σr = (0, σr)) := by show _ = _; unfold Result9; rw [if_neg (by omega)]
    go_enter Tryz.func72, Tryz.ntmps72
    go_wp2_with fail
    refine (HH.out _ HST.out).mono ?_
    rintro e w1 ⟨rfl, L1, hs1⟩
    have hs2 := HST.out.trans hs1
    have HS2 := Lib.hid hs2
    clear hs1 hs2
    go_wp2_with fail
    refine (HR.out _ L1 HS2.out).mono ?_
    rintro e w2 ⟨rfl, L2, hs3⟩
    go_wp2_with fail
    go_ret
    rw [HX.out]
    exact ⟨rfl, L2, HS2.out.trans hs3⟩

theorem enter_of {f : Nat} {fn : Func} (h : Tryz.prog.funcs[f]? = some fn) (hn : (fn.name == "runtime.NumGoroutine") = false) (hb : fn.body.isNone = false) (args : Array Value) (w : World) : (callFunc f args).run Tryz.prog w = .ok (.enter f args) w := by
  have hn' : ¬ fn.name = "runtime.NumGoroutine" := by simpa using hn
  have hb' : ¬ fn.body = none := by
    intro e; rw [e] at hb; cases hb
  simp [callFunc, h, hn', hb']

theorem None_calls (w : World) : Calls Tryz.prog 75 #[] w fun e w' => e = .returned (.tuple #[]) ∧ w = w' := by
  go_enter Tryz.func75, Tryz.ntmps75
  go_wp2
  go_end0
  exact ⟨rfl, rfl⟩
end Disk
end Go.Proofs.YtlcenkkfcejnbaaGreatDoor
