/- The log's Append. -/
import Derived.Test.YtlcenkkfcejnbaaGreatDoorWalOps
import Derived.Test.YtlcenkkfcejnbaaGreatDoorWalRecord
import Derived.Test.YtlcenkkfcejnbaaGreatDoorWalNumbers
namespace Go.Proofs.YtlcenkkfcejnbaaGreatDoor
open Go.RowKit
namespace Wal
open Codec (Cell CellsAt cells)
open Disk (DS Owns Moves ptr Plan)

def LS.append (s : LS) (cs : List Cell) : Int × LS :=
  if s.may ≠ 0 then (s.may, s) else
  let r := record cs
  if r.2 ≠ 0 then (r.2, s) else
  let a := s.σ.append (wname s.n) r.1
  if a.1 ≠ 0 then (a.1, (s.put a.2).done a.1) else
  let b := a.2.sync (wname s.n)
  (b.1, (s.put b.2).done b.1)

/-- The cells of a record stay below what a slice may have. -/
def Fair (l : List Cell) : Prop := (∀ c ∈ l, c.Fits) ∧ l.length ≤ maxLen ∧ (l.length ≤ 400 → l.any cbad = false → (cells l).length ≤ 140737488354000)

theorem record_len (l : List Cell) : (record l).1.length ≤ 300000 := by
  unfold record
  split
  · simp
  · split
    · simp
    · split
      · simp
      · have := Codec.frame_len (cells l)
        simp only []; omega

theorem two_keep {w w' : World} {b : Nat} {x y : Value} (hx : w.cell? ⟨b, 0, none⟩ = some x) (hy : w.cell? ⟨b, 1, none⟩ = some y) (h : w'.heap[b]? = w.heap[b]?) :
    w'.cell? ⟨b, 0, none⟩ = some x ∧ w'.cell? ⟨b, 1, none⟩ = some y := ⟨Disk.cell_old hx h, Disk.cell_old hy h⟩

set_option maxRecDepth 100000 in
set_option maxHeartbeats 2000000 in
theorem Append_calls (G : Nat) (l d : Nat) (s : LS) (F : Nat → Prop) (v : Value) (cs : List Cell) (w : World) (h : LogAt G w l d s F) (hv : CellsAt w v cs) (hfair : Fair cs) :
    Calls Tryz.prog 16 #[ptr l, v] w fun e w' => e = .returned (.int .i64 (s.append cs).1) ∧ MovesL G w l d F (s.append cs).2 w' := by
  have H := Lib.hid h
  have HV := Lib.hid hv
  have K1 := Lib.hid (May_calls G l d s F w h)
  obtain ⟨va, vc, rfl⟩ := hv.form
  unfold ptr at *
  by_cases hm : s.may = 0
  · have K2 := Lib.hid (fun W hW => Record_calls (.slice va cs.length vc) cs W hW hfair.1 hfair.2.1 hfair.2.2)
    have hrl := record_len cs
    have hE : s.append cs = if (record cs).2 ≠ 0 then ((record cs).2, s) else
        if (s.σ.append (wname s.n) (record cs).1).1 ≠ 0 then ((s.σ.append (wname s.n) (record cs).1).1, (s.put (s.σ.append (wname s.n) (record cs).1).2).done (s.σ.append (wname s.n) (record cs).1).1) else
        (((s.σ.append (wname s.n) (record cs).1).2.sync (wname s.n)).1, (s.put ((s.σ.append (wname s.n) (record cs).1).2.sync (wname s.n)).2).done ((s.σ.append (wname s.n) (record cs).1).2.sync (wname s.n)).1) := by
      conv => lhs; unfold LS.append
      rw [hm, if_neg (by simp)]
    rw [hm] at K1
    generalize record cs = r at K2 hrl hE
    obtain ⟨b, z⟩ := r
    simp only at K2 hrl hE
    have hp1 := append_plan (wname s.n) b h.plan
    have hp2 := sync_plan (wname s.n) hp1
    have K3 := Lib.hid (fun vb W hW hb hbf => Append_name d s.σ F s.n vb b W hW h.plan hb hbf (by omega))
    have K4 := Lib.hid (fun F' W hW => Sync_name d (s.σ.append (wname s.n) b).2 F' s.n W hW hp1)
    have HP1 := Lib.hid hp1
    have HP2 := Lib.hid hp2
    generalize hr1 : s.σ.append (wname s.n) b = r1 at hE K3 K4 HP1 HP2
    generalize hr2 : r1.2.sync (wname s.n) = r2 at hE K4 HP2
    obtain ⟨z1, σ1⟩ := r1
    obtain ⟨z2, σ2⟩ := r2
    simp only at hE K3 K4 HP1 HP2
    have HE := Lib.hid hE
    clear h hp1 hp2 hr1 hr2 hE hv hfair hm
    go_enter Tryz.func16, Tryz.ntmps16
    go_wp2_with fail
    refine K1.out.mono ?_
    rintro e w1 ⟨rfl, hb1⟩
    have H1 := Lib.hid (H.out.below hb1)
    have HB1 := Lib.hid hb1
    have hv1 := HV.out.below hb1
    clear hb1
    go_wp2_with fail
    refine (K2.out w1 hv1).mono ?_
    rintro e w2 ⟨vb, rfl, hnb⟩
    have HB2 : Hid (Below w.heap.size w w2) := HB1.out.trans (hnb.2.1.mono HB1.out.size)
    have H2 := Lib.hid (H.out.below HB2.out)
    obtain ⟨ba, bc, rfl⟩ := row_form hnb.1
    have NB := Lib.hid hnb
    clear hv1 hnb
    by_cases hz : z = 0
    · subst hz
      have HE2 : Hid (s.append cs = if z1 ≠ 0 then (z1, (s.put σ1).done z1) else (z2, (s.put σ2).done z2)) := by show _ = _; rw [HE.out]; simp
      have c0 := H2.out.cells.1
      have c1 := H2.out.cells.2
      clear HE
      go_wp2_with fail
      go_region_held3 (fun w' => w'.cell? ⟨l, 0, none⟩ = some (.pointer (some ⟨d, 0, none⟩)) ∧ w'.cell? ⟨l, 1, none⟩ = some (.int .i64 s.n))
        (first | exact ⟨c0, c1⟩ | exact two_keep c0 c1 (hb3.block l H2.out.lt) | exact two_keep c0 c1 ((hm4.1.block l (Nat.lt_of_lt_of_le H2.out.lt hb3.size) H2.out.apart).trans (hb3.block l H2.out.lt)))
        (first
          | (go_at_call 12; have t1 := Name_calls s.n w2.drew H2.out.laid.tab; (with_reducible refine t1.mono ?_); clear t1; rintro e w3 ⟨rfl, hb3⟩)
          | (go_at_call 43; have t1 := K3.out (.slice ba b.length bc) w3 (H2.out.below (below_drewIn hb3)).own ((Codec.BytesAt.of_row' NB.out.1).below (below_drewIn hb3)) (fun k hk hF => by have h1 := NB.out.2.2 k hk; have h2 := H1.out.own.lt k hF; omega); (with_reducible refine t1.mono ?_); clear t1; rintro e w4 ⟨rfl, hm4⟩))
      have hw3 := below_drewIn hb3
      obtain ⟨c4, F4, H4, hs4⟩ := MovesL.behind HB2.out (MovesL.behind hw3 ((H2.out.below hw3).disk hm4 HP1.out))
      have C4 := Lib.hid c4
      have S4 := Lib.hid hs4
      clear c0 c1 c4 hs4 hm4 K3 hw3 hb3
      by_cases hz1 : z1 = 0
      · subst hz1
        have HE3 : Hid (s.append cs = (z2, (s.put σ2).done z2)) := by show _ = _; rw [HE2.out]; simp
        have d0 := H4.cells.1
        have d1 := H4.cells.2
        clear HE2
        go_wp2_with fail
        go_region_held3 (fun w' => w'.cell? ⟨l, 0, none⟩ = some (.pointer (some ⟨d, 0, none⟩)) ∧ w'.cell? ⟨l, 1, none⟩ = some (.int .i64 s.n))
          (first | exact ⟨d0, d1⟩ | exact two_keep d0 d1 (hb5.block l H4.lt) | exact two_keep d0 d1 ((hm6.1.block l (Nat.lt_of_lt_of_le H4.lt hb5.size) H4.apart).trans (hb5.block l H4.lt)) | exact ⟨H7.cells.1, H7.cells.2⟩)
          (first
            | (go_at_call 12; have t1 := Name_calls s.n w4.drew H4.laid.tab; (with_reducible refine t1.mono ?_); clear t1; rintro e w5 ⟨rfl, hb5⟩)
            | (go_at_call 45; have t1 := K4.out F4 w5 (H4.below (below_drewIn hb5)).own; (with_reducible refine t1.mono ?_); clear t1; rintro e w6 ⟨rfl, hm6⟩)
            | (go_at_call 44; obtain ⟨c6, F6, H6, hs6⟩ := MovesL.behind (below_drewIn hb5) ((H4.below (below_drewIn hb5)).disk hm6 HP2.out); have t1 := Done_calls G l d _ F6 z2 w6 H6; unfold ptr at t1; (with_reducible refine t1.mono ?_); clear t1; rintro e w7 ⟨rfl, c7, F7, H7, hs7⟩))
        go_wp2_with fail
        go_ret
        rw [HE3.out]
        exact ⟨rfl, MovesL.link C4.out S4.out (MovesL.link c6 hs6 ⟨c7, F7, H7, hs7⟩)⟩
      · have HE3 : Hid (s.append cs = (z1, (s.put σ1).done z1)) := by show _ = _; rw [HE2.out, if_pos hz1]
        have hz1' : (z1 == 0) = false := by rw [beq_eq_false_iff_ne]; exact hz1
        have hz2 : (z1 != 0) = true := by rw [bne_iff_ne]; exact hz1
        clear hz1 HE2
        go_wp2_with fail
        refine (Done_calls G l d _ F4 z1 _ H4).mono ?_
        rintro e w6 ⟨rfl, hm6⟩
        go_wp2_with fail
        go_ret
        rw [HE3.out]
        exact ⟨rfl, MovesL.link C4.out S4.out hm6⟩
    · have HE3 : Hid (s.append cs = (z, s)) := by show _ = _; rw [HE.out, if_pos hz]
      have hz' : (z == 0) = false := by rw [beq_eq_false_iff_ne]; exact hz
      have hz2 : (z != 0) = true := by rw [bne_iff_ne]; exact hz
      clear hz HE
      go_wp2_with fail
      go_ret
      rw [HE3.out]
      exact ⟨rfl, MovesL.of_below H.out HB2.out⟩
  · have HE : Hid (s.append cs = (s.may, s)) := by show _ = _; unfold LS.append; rw [if_pos hm]
    have hz' : (s.may == 0) = false := by rw [beq_eq_false_iff_ne]; exact hm
    have hz2 : (s.may != 0) = true := by rw [bne_iff_ne]; exact hm
    clear h hv hfair hm
    go_enter Tryz.func16, Tryz.ntmps16
    go_wp2_with fail
    refine K1.out.mono ?_
    rintro e w1 ⟨rfl, hb1⟩
    go_wp2_with fail
    go_ret
    rw [HE.out]
    exact ⟨rfl, MovesL.of_below H.out hb1⟩
end Wal
end Go.Proofs.YtlcenkkfcejnbaaGreatDoor
