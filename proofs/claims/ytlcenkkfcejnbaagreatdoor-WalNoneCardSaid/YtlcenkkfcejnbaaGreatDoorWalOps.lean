/- The log's calls that write: begin, Append, Roll. -/
import Derived.Test.YtlcenkkfcejnbaaGreatDoorWalLog
namespace Go.Proofs.YtlcenkkfcejnbaaGreatDoor
open Go.RowKit
namespace Wal
open Disk (DS Owns Moves ptr Plan)

theorem perform_plan {σ : DS} {half rest : DS → DS} (hh : ∀ τ : DS, (half τ).plan = τ.plan) (hr : ∀ τ : DS, (rest τ).plan = τ.plan) (hp : Plan σ) : Plan (σ.perform half rest).2 := by
  have hc : ∀ (τ : DS) k, (τ.crash k).plan = τ.plan := fun τ k => by unfold DS.crash; split <;> rfl
  have h1 : (σ.perform half rest).2.plan = σ.tick.plan := by
    unfold DS.perform
    split
    · rw [hc, hh]
    · rw [hr, hh]
  have h2 : σ.tick.plan = if 0 < σ.plan then σ.plan - 1 else σ.plan := rfl
  unfold Plan at hp ⊢
  rw [h1, h2]
  split <;> omega
theorem unlink_plan (σ : DS) (name : Bytes) : (σ.unlink name).plan = σ.plan := by unfold DS.unlink; split <;> rfl
theorem create_plan {σ : DS} (name : Bytes) (hp : Plan σ) : Plan (σ.create name).2 := by
  unfold DS.create
  simp only []
  split
  · exact hp
  · split
    · exact hp
    · exact perform_plan (fun _ => rfl) (fun τ => unlink_plan τ name) hp
theorem sync_plan {σ : DS} (name : Bytes) (hp : Plan σ) : Plan (σ.sync name).2 := by
  unfold DS.sync
  simp only []
  split
  · exact hp
  · split
    · exact hp
    · exact perform_plan (fun _ => rfl) (fun τ => rfl) hp
theorem append_plan {σ : DS} (name b : Bytes) (hp : Plan σ) : Plan (σ.append name b).2 := by
  unfold DS.append
  simp only []
  split
  · exact hp
  · split
    · exact hp
    · split
      · exact hp
      · exact perform_plan (fun τ => by split <;> rfl) (fun τ => rfl) hp
theorem remove_plan {σ : DS} (name : Bytes) (hp : Plan σ) : Plan (σ.remove name).2 := by
  unfold DS.remove
  simp only []
  split
  · exact hp
  · exact perform_plan (fun _ => rfl) (fun τ => unlink_plan τ name) hp
theorem rename_plan {σ : DS} (a b : Bytes) (hp : Plan σ) : Plan (σ.rename a b).2 := by
  unfold DS.rename
  simp only []
  split
  · exact hp
  · refine perform_plan (fun _ => rfl) (fun τ => ?_) hp
    split
    · rfl
    · split
      · exact unlink_plan τ b
      · exact unlink_plan τ b

theorem wname_len (n : Int) : (wname n).length ≤ 30 := by
  unfold wname
  split
  · simp
  · have := Lib.itoa_length_le n (by omega) (by omega)
    simp; omega
def nm (n : Int) : ByteArray := ⟨(wname n).toArray⟩
theorem nm_list (n : Int) : (nm n).data.toList = wname n := by simp [nm]
theorem nm_size (n : Int) : (nm n).size ≤ maxLen := by
  have : (nm n).size = (wname n).length := by simp [nm, ByteArray.size]
  rw [this]; have := wname_len n; unfold maxLen; omega

theorem Create_name (d : Nat) (σ : DS) (F : Nat → Prop) (n : Int) (w : World) (h : Owns w d σ F) (hp : Plan σ) :
    Calls Tryz.prog 69 #[.pointer (some ⟨d, 0, none⟩), .string ⟨(wname n).toArray⟩] w fun e w' => e = .returned (.int .i64 (σ.create (wname n)).1) ∧ Moves w d F (σ.create (wname n)).2 w' := by
  have := Disk.Create_calls d σ F (nm n) w h (nm_size n) hp
  rw [nm_list] at this; exact this
theorem Sync_name (d : Nat) (σ : DS) (F : Nat → Prop) (n : Int) (w : World) (h : Owns w d σ F) (hp : Plan σ) :
    Calls Tryz.prog 45 #[.pointer (some ⟨d, 0, none⟩), .string ⟨(wname n).toArray⟩] w fun e w' => e = .returned (.int .i64 (σ.sync (wname n)).1) ∧ Moves w d F (σ.sync (wname n)).2 w' := by
  have := Disk.Sync_calls d σ F (nm n) w h (nm_size n) hp
  rw [nm_list] at this; exact this
theorem Remove_name (d : Nat) (σ : DS) (F : Nat → Prop) (n : Int) (w : World) (h : Owns w d σ F) (hp : Plan σ) :
    Calls Tryz.prog 47 #[.pointer (some ⟨d, 0, none⟩), .string ⟨(wname n).toArray⟩] w fun e w' => e = .returned (.int .i64 (σ.remove (wname n)).1) ∧ Moves w d F (σ.remove (wname n)).2 w' := by
  have := Disk.Remove_calls d σ F (nm n) w h (nm_size n) hp
  rw [nm_list] at this; exact this
theorem Append_name (d : Nat) (σ : DS) (F : Nat → Prop) (n : Int) (vb : Value) (b : Bytes) (w : World) (h : Owns w d σ F) (hp : Plan σ) (hb : BytesAt w vb b) (hbf : ∀ k, vb.ownBlock = some k → ¬ F k) (hbl : b.length ≤ 1152921504606846976) :
    Calls Tryz.prog 43 #[.pointer (some ⟨d, 0, none⟩), .string ⟨(wname n).toArray⟩, vb] w fun e w' => e = .returned (.int .i64 (σ.append (wname n) b).1) ∧ Moves w d F (σ.append (wname n) b).2 w' := by
  have := Disk.Append_calls d σ F (nm n) vb b w h (nm_size n) hp hb hbf hbl
  rw [nm_list] at this; exact this

theorem LogAt.cells {G : Nat} {w : World} {l d : Nat} {s : LS} {F : Nat → Prop} (h : LogAt G w l d s F) :
    w.cell? ⟨l, 0, none⟩ = some (.pointer (some ⟨d, 0, none⟩)) ∧ w.cell? ⟨l, 1, none⟩ = some (.int .i64 s.n) := ⟨cell_of h.self 0, cell_of h.self 1⟩
theorem LogAt.drew {G : Nat} {w : World} {l d : Nat} {s : LS} {F : Nat → Prop} (h : LogAt G w l d s F) : LogAt G w.drew l d s F := h.below ((Below.refl _ _).drew)
theorem below_drewIn {w w' : World} (h : Below w.drew.heap.size w.drew w') : Below w.heap.size w w' := ((Below.refl _ w).drew).trans h
theorem MovesL.link {G : Nat} {w w1 w2 : World} {l d : Nat} {F F1 : Nat → Prop} {s' : LS} (c : Chg (fun k => k = l ∨ F k) w w1) (hs : ∀ k, k < w.heap.size → F1 k → F k) (m : MovesL G w1 l d F1 s' w2) : MovesL G w l d F s' w2 := by
  obtain ⟨c2, F2, o2, s2⟩ := m
  exact ⟨c.then c2 (fun i hi hk => hk.elim .inl fun h => .inr (hs i hi h)), F2, o2, fun i hi hf => hs i hi (s2 i (Nat.lt_of_lt_of_le hi c.size) hf)⟩
theorem MovesL.behind {G : Nat} {w w1 w2 : World} {l d : Nat} {F : Nat → Prop} {s' : LS} (hb : Below w.heap.size w w1) (m : MovesL G w1 l d F s' w2) : MovesL G w l d F s' w2 :=
  MovesL.link (Chg.of_below hb) (fun _ _ h => h) m

set_option maxRecDepth 100000 in
set_option maxHeartbeats 1000000 in
theorem Begin_calls (G : Nat) (l d : Nat) (s : LS) (F : Nat → Prop) (n : Int) (w : World) (h : LogAt G w l d s F) (h0 : 0 ≤ n) :
    Calls Tryz.prog 42 #[ptr l, .int .i64 n] w fun e w' => e = .returned (.int .i64 (s.begin n).1) ∧ MovesL G w l d F (s.begin n).2 w' := by
  have H := Lib.hid h
  unfold ptr
  by_cases hn : 999999999 < n
  · have HE : Hid (s.begin n = (7, s)) := by show _ = _; unfold LS.begin; rw [if_pos hn]
    clear h
    go_enter Tryz.func42, Tryz.ntmps42
    go_wp2_with fail
    go_ret
    rw [HE.out]
    exact ⟨rfl, MovesL.of_below H.out (Below.refl _ _)⟩
  · have hE : s.begin n = if (s.σ.create (wname n)).1 ≠ 0 then ((s.σ.create (wname n)).1, (s.put (s.σ.create (wname n)).2).done (s.σ.create (wname n)).1) else
      if ((s.σ.create (wname n)).2.sync (wname n)).1 ≠ 0 then (((s.σ.create (wname n)).2.sync (wname n)).1, (s.put ((s.σ.create (wname n)).2.sync (wname n)).2).done ((s.σ.create (wname n)).2.sync (wname n)).1) else (0, { s with n := n, σ := ((s.σ.create (wname n)).2.sync (wname n)).2 }) := by
      conv => lhs; unfold LS.begin
      rw [if_neg hn]
    have c0 := h.cells.1
    have hp1 := create_plan (wname n) h.plan
    have hp2 := sync_plan (wname n) hp1
    have K2 := Lib.hid (fun W hW => Create_name d s.σ F n W hW h.plan)
    have K3 := Lib.hid (fun F' W hW => Sync_name d (s.σ.create (wname n)).2 F' n W hW hp1)
    have HP1 := Lib.hid hp1
    have HP2 := Lib.hid hp2
    generalize hr1 : s.σ.create (wname n) = r1 at hE K2 K3 HP1 HP2
    generalize hr2 : r1.2.sync (wname n) = r2 at hE K3 HP2
    obtain ⟨z1, σ1⟩ := r1
    obtain ⟨z2, σ2⟩ := r2
    simp only at hE K2 K3 HP1 HP2
    have HE := Lib.hid hE
    have HLT := Lib.hid h.lt
    clear h hp1 hp2 hr1 hr2 hE
    go_enter Tryz.func42, Tryz.ntmps42
    go_wp2_with fail
    go_region_held3 (fun w' => w'.cell? ⟨l, 0, none⟩ = some (.pointer (some ⟨d, 0, none⟩)))
      (first | exact c0 | (rw [hb1.cell (p := ⟨l, 0, none⟩) HLT.out]; exact c0) | (rw [hm2.1.cell (p := ⟨l, 0, none⟩) (Nat.lt_of_lt_of_le HLT.out hb1.size) H.out.apart, hb1.cell (p := ⟨l, 0, none⟩) HLT.out]; exact c0))
      (first
        | (go_at_call 12; have t1 := Name_calls n w.drew H.out.laid.tab; (with_reducible refine t1.mono ?_); clear t1; rintro e w1 ⟨rfl, hb1⟩)
        | (go_at_call 69; have t1 := K2.out w1 (H.out.below (below_drewIn hb1)).own; (with_reducible refine t1.mono ?_); clear t1; rintro e w2 ⟨rfl, hm2⟩))
    have hw1 := below_drewIn hb1
    obtain ⟨c2, F2, H2, hs2⟩ := MovesL.behind hw1 ((H.out.below hw1).disk hm2 HP1.out)
    have C2 := Lib.hid c2
    have S2 := Lib.hid hs2
    clear c0 c2 hs2 hm2 K2
    by_cases hz1 : z1 = 0
    · subst hz1
      have HE2 : Hid (s.begin n = if z2 ≠ 0 then (z2, (s.put σ2).done z2) else (0, { s with n := n, σ := σ2 })) := by show _ = _; rw [HE.out]; simp
      have d0 := H2.cells.1
      have HLT2 := Lib.hid H2.lt
      clear HE hw1 hb1
      go_wp2_with fail
      go_region_held3 (fun w' => w'.cell? ⟨l, 0, none⟩ = some (.pointer (some ⟨d, 0, none⟩)))
        (first | exact d0 | (rw [hb3.cell (p := ⟨l, 0, none⟩) HLT2.out]; exact d0) | (rw [hm4.1.cell (p := ⟨l, 0, none⟩) (Nat.lt_of_lt_of_le HLT2.out hb3.size) H2.apart, hb3.cell (p := ⟨l, 0, none⟩) HLT2.out]; exact d0))
        (first
          | (go_at_call 12; have t1 := Name_calls n w2.drew H2.laid.tab; (with_reducible refine t1.mono ?_); clear t1; rintro e w3 ⟨rfl, hb3⟩)
          | (go_at_call 45; have t1 := K3.out F2 w3 (H2.below (below_drewIn hb3)).own; (with_reducible refine t1.mono ?_); clear t1; rintro e w4 ⟨rfl, hm4⟩))
      have hw3 := below_drewIn hb3
      obtain ⟨c4, F4, H4, hs4⟩ := MovesL.behind hw3 ((H2.below hw3).disk hm4 HP2.out)
      have C4 := Lib.hid c4
      have S4 := Lib.hid hs4
      clear d0 c4 hs4 hm4 K3 hw3 hb3
      by_cases hz2 : z2 = 0
      · subst hz2
        have HE3 : Hid (s.begin n = (0, { s with n := n, σ := σ2 })) := by show _ = _; rw [HE2.out]; simp
        have f1 := free_of H4.self 1
        obtain ⟨c5, F5, H5, hs5⟩ := H4.own_put n s.dead ⟨h0, by omega⟩ (((Chg.refl (· = l) w4).setCell (p := ⟨l, 1, none⟩) (fun _ => rfl) (.int .i64 n))) (Disk.set_block H4.self 1 (.int .i64 n))
        have c1 := H4.cells.2
        have C5 := Lib.hid c5
        have S5 := Lib.hid hs5
        clear c5 hs5 HE2
        go_wp2_with fail
        refine (Done_calls G l d _ F5 0 _ H5).mono ?_
        rintro e w6 ⟨rfl, hm6⟩
        go_wp2_with fail
        go_ret
        rw [HE3.out]
        refine ⟨rfl, MovesL.link C2.out S2.out (MovesL.link C4.out S4.out (MovesL.link C5.out S5.out ?_))⟩
        simpa [LS.done, LS.put] using hm6
      · have HE3 : Hid (s.begin n = (z2, (s.put σ2).done z2)) := by show _ = _; rw [HE2.out, if_pos hz2]
        have hz2' : (z2 == 0) = false := by rw [beq_eq_false_iff_ne]; exact hz2
        clear hz2 HE2
        go_wp2_with fail
        refine (Done_calls G l d _ F4 z2 _ H4).mono ?_
        rintro e w6 ⟨rfl, hm6⟩
        go_wp2_with fail
        go_ret
        rw [HE3.out]
        exact ⟨rfl, MovesL.link C2.out S2.out (MovesL.link C4.out S4.out hm6)⟩
    · have HE3 : Hid (s.begin n = (z1, (s.put σ1).done z1)) := by show _ = _; rw [HE.out, if_pos hz1]
      have hz1' : (z1 == 0) = false := by rw [beq_eq_false_iff_ne]; exact hz1
      clear hz1 HE
      go_wp2_with fail
      refine (Done_calls G l d _ F2 z1 _ H2).mono ?_
      rintro e w6 ⟨rfl, hm6⟩
      go_wp2_with fail
      go_ret
      rw [HE3.out]
      exact ⟨rfl, MovesL.link C2.out S2.out hm6⟩
end Wal
end Go.Proofs.YtlcenkkfcejnbaaGreatDoor
