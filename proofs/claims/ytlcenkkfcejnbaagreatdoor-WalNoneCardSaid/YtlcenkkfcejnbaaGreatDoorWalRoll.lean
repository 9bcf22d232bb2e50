/- The log's Roll and Retire. -/
import Derived.Test.YtlcenkkfcejnbaaGreatDoorWalOps
import Derived.Test.YtlcenkkfcejnbaaGreatDoorWalNumbers
namespace Go.Proofs.YtlcenkkfcejnbaaGreatDoor
open Go.RowKit
namespace Wal
open Disk (DS Owns Moves ptr Plan)

def LS.roll (s : LS) : Int × Int × LS :=
  if s.may ≠ 0 then (0, s.may, s) else
  let b := s.begin (s.n + 1)
  if b.1 ≠ 0 then (0, b.1, b.2) else (b.2.n, 0, b.2)

set_option maxHeartbeats 400000 in
theorem Roll_calls (G : Nat) (l d : Nat) (s : LS) (F : Nat → Prop) (w : World) (h : LogAt G w l d s F) :
    Calls Tryz.prog 15 #[ptr l] w fun e w' => e = .returned (.tuple #[.int .i64 s.roll.1, .int .i64 s.roll.2.1]) ∧ MovesL G w l d F s.roll.2.2 w' := by
  have H := Lib.hid h
  have K1 := Lib.hid (May_calls G l d s F w h)
  have hsm := h.small
  unfold ptr at *
  by_cases hm : s.may = 0
  · rw [hm] at K1
    have hE : s.roll = if (s.begin (s.n + 1)).1 ≠ 0 then (0, (s.begin (s.n + 1)).1, (s.begin (s.n + 1)).2) else ((s.begin (s.n + 1)).2.n, 0, (s.begin (s.n + 1)).2) := by
      conv => lhs; unfold LS.roll
      rw [hm, if_neg (by simp)]
    have K2 := Lib.hid (fun W hW => Begin_calls G l d s F (s.n + 1) W hW (by omega))
    generalize s.begin (s.n + 1) = r at K2 hE
    obtain ⟨z, s2⟩ := r
    simp only at K2 hE
    have HE := Lib.hid hE
    clear h hm hE
    go_enter Tryz.func15, Tryz.ntmps15
    go_wp2_with fail
    refine K1.out.mono ?_
    rintro e w1 ⟨rfl, hb1⟩
    have H1 := H.out.below hb1
    have c1 := H1.cells.2
    go_wp2_with fail
    refine (K2.out w1 H1).mono ?_
    rintro e w2 ⟨rfl, hm2⟩
    obtain ⟨c2, F2, H2, hs2⟩ := MovesL.behind hb1 hm2
    have M2 : Hid (MovesL G w l d F s2 w2) := ⟨c2, F2, H2, hs2⟩
    have d1 := H2.cells.2
    clear c2 hs2 hm2 c1 hb1
    by_cases hz : z = 0
    · subst hz
      have HE3 : Hid (s.roll = (s2.n, 0, s2)) := by show _ = _; rw [HE.out]; simp
      clear HE H1 H2
      go_wp2_with fail
      go_ret2
      rw [HE3.out]
      exact ⟨rfl, M2.out⟩
    · have HE3 : Hid (s.roll = (0, z, s2)) := by show _ = _; rw [HE.out, if_pos hz]
      have hz' : (z == 0) = false := by rw [beq_eq_false_iff_ne]; exact hz
      have hz2 : (z != 0) = true := by rw [bne_iff_ne]; exact hz
      clear HE H1 H2 hz
      go_wp2_with fail
      go_ret2
      rw [HE3.out]
      exact ⟨rfl, M2.out⟩
  · have HE : Hid (s.roll = (0, s.may, s)) := by show _ = _; unfold LS.roll; rw [if_pos hm]
    have hz' : (s.may == 0) = false := by rw [beq_eq_false_iff_ne]; exact hm
    have hz2 : (s.may != 0) = true := by rw [bne_iff_ne]; exact hm
    clear h hm hsm
    go_enter Tryz.func15, Tryz.ntmps15
    go_wp2_with fail
    refine K1.out.mono ?_
    rintro e w1 ⟨rfl, hb1⟩
    go_wp2_with fail
    go_ret2
    rw [HE.out]
    exact ⟨rfl, MovesL.of_below H.out hb1⟩

def LS.retireF (until_ : Int) : List Int → LS → Int × LS
  | [], s => (0, s)
  | n :: r, s =>
    if until_ ≤ n then s.retireF until_ r else if n = s.n then s.retireF until_ r else
    let a := s.σ.remove (wname n)
    if a.1 ≠ 0 then (a.1, (s.put a.2).done a.1) else (s.put a.2).retireF until_ r
def LS.retire (s : LS) (until_ : Int) : Int × LS := if s.may ≠ 0 then (s.may, s) else s.retireF until_ (numbersOf s.σ)

/-- Behind k of the segments. -/
structure Ret (G : Nat) (w2 : World) (l d : Nat) (F : Nat → Prop) (until_ : Int) (L : List Int) (s : LS) (k : Nat) (s' : LS) (F' : Nat → Prop) (wx : World) : Prop where
  log : LogAt G wx l d s' F'
  chg : Chg (fun k => k = l ∨ F k) w2 wx
  old : ∀ k, k < w2.heap.size → F' k → F k
  eq : s.retireF until_ L = s'.retireF until_ (L.drop k)
theorem Ret.moves {G : Nat} {w2 wx : World} {l d : Nat} {F F' : Nat → Prop} {until_ : Int} {L : List Int} {s s' : LS} {k : Nat} (h : Ret G w2 l d F until_ L s k s' F' wx) : MovesL G w2 l d F s' wx := ⟨h.chg, F', h.log, h.old⟩

set_option maxRecDepth 100000 in
set_option maxHeartbeats 2000000 in
theorem Retire_calls (G : Nat) (l d : Nat) (s : LS) (F : Nat → Prop) (until_ : Int) (w : World) (h : LogAt G w l d s F) :
    Calls Tryz.prog 17 #[ptr l, .int .i64 until_] w fun e w' => e = .returned (.int .i64 (s.retire until_).1) ∧ MovesL G w l d F (s.retire until_).2 w' := by
  have H := Lib.hid h
  have K1 := Lib.hid (May_calls G l d s F w h)
  unfold ptr at *
  by_cases hm : s.may = 0
  · have hdk : s.σ.dark = false := by
      unfold LS.may at hm
      cases hk : s.σ.dark
      · rfl
      · rw [hk] at hm; simp at hm; split at hm <;> omega
    rw [hm] at K1
    have hE : s.retire until_ = s.retireF until_ (numbersOf s.σ) := by unfold LS.retire; rw [hm, if_neg (by simp)]
    have K2 := Lib.hid (fun W hW hL => Numbers_calls G d s.σ F W hW hdk hL)
    unfold ptr at K2
    have hlen : (numbersOf s.σ).length ≤ 48 := by
      have h1 : s.σ.list.length ≤ 48 := by rw [list_length]; exact h.own.most.most
      have h2 := List.length_filterMap_le numberOf s.σ.list
      have h3 : (numbersOf s.σ).length = (s.σ.list.filterMap numberOf).length := by simp [numbersOf, rise]
      omega
    generalize numbersOf s.σ = L at K2 hE hlen
    have HE := Lib.hid hE
    clear h hm hE hdk
    go_enter Tryz.func17, Tryz.ntmps17
    go_wp2_with fail
    refine K1.out.mono ?_
    rintro e w1 ⟨rfl, hb1⟩
    have H1 := Lib.hid (H.out.below hb1)
    have HB1 := Lib.hid hb1
    have c0 := H1.out.cells.1
    clear hb1
    go_wp2_with fail
    refine (K2.out w1 H1.out.own H1.out.laid).mono ?_
    rintro e w2 ⟨v, rfl, hn⟩
    have HB2 := Lib.hid (HB1.out.trans (hn.2.1.mono HB1.out.size))
    have H2 := Lib.hid (H.out.below HB2.out)
    obtain ⟨va, vc, rfl⟩ := row_form hn.1
    have NB := Lib.hid hn
    clear hn c0
    go_wp2_with fail
    go_loopw [7, 8, 20] (fun _ _ i wx => ∃ k : Nat, i = .int .i64 k ∧ k ≤ L.length ∧ ∃ s' F', Hid (Ret G w2 l d F until_ L s k s' F' wx)) (fun _ _ i _ => L.length - (intOf i).toNat)
    case atStart => exact ⟨0, rfl, Nat.zero_le _, s, F, H2.out, Chg.refl _ _, fun _ _ h => h, by rw [List.drop_zero]⟩
    case round =>
      obtain ⟨k, rfl, hk, s', F', HR⟩ := hrel
      by_cases hlt : k < L.length
      · obtain ⟨g, hva, hg, hcell⟩ : ∃ g, va = some ⟨g, 0, none⟩ ∧ (g < w2.heap.size ∧ ¬ (g = l ∨ F g)) ∧ w2.cell? ⟨g, k, none⟩ = some (.int .i64 L[k]) := by
          rcases NB.out.1.2 with ⟨_, h2⟩ | ⟨g, cap, cur, h1, _, h3, _⟩
          · omega
          · simp only [Value.slice.injEq] at h1
            obtain ⟨rfl, _, rfl⟩ := h1
            have hge := NB.out.2.2 g rfl
            refine ⟨g, rfl, ⟨Disk.IsCells.lt ⟨_, _, h3⟩, ?_⟩, ?_⟩
            · rintro (e | hF)
              · have := H1.out.lt; omega
              · have := H1.out.own.lt g hF; omega
            · rw [NB.out.1.cellAt k (by omega)]
              simp [hlt]
        subst hva
        have hc : wr.cell? ⟨g, k, none⟩ = some (.int .i64 L[k]) := by rw [HR.out.chg.cell (p := ⟨g, k, none⟩) hg.1 hg.2]; exact hcell
        have hdrop : L.drop k = L[k] :: L.drop (k + 1) := by rw [List.drop_eq_getElem_cons hlt]
        generalize L[k] = x at hc hdrop
        have HD := Lib.hid hdrop
        clear hcell hdrop hg
        have c0 := HR.out.log.cells.1
        have c1 := HR.out.log.cells.2
        have hstep : s.retireF until_ L = if until_ ≤ x then s'.retireF until_ (L.drop (k + 1)) else if x = s'.n then s'.retireF until_ (L.drop (k + 1)) else
            if (s'.σ.remove (wname x)).1 ≠ 0 then ((s'.σ.remove (wname x)).1, (s'.put (s'.σ.remove (wname x)).2).done (s'.σ.remove (wname x)).1) else (s'.put (s'.σ.remove (wname x)).2).retireF until_ (L.drop (k + 1)) := by
          rw [HR.out.eq, HD.out]; rfl
        by_cases hu : until_ ≤ x
        · have HS : Hid (s.retireF until_ L = s'.retireF until_ (L.drop (k + 1))) := by show _ = _; rw [hstep, if_pos hu]
          clear hstep c0 c1
          go_wp2_with fail
          go_roundw
          case rel => exact ⟨k + 1, by go_num, by omega, s', F', HR.out.log, HR.out.chg, HR.out.old, HS.out⟩
          case measure => simp [intOf]; omega
        · by_cases hxn : x = s'.n
          · have HS : Hid (s.retireF until_ L = s'.retireF until_ (L.drop (k + 1))) := by show _ = _; rw [hstep, if_neg hu, if_pos hxn]
            rw [← hxn] at c1
            clear hstep c0 hxn
            go_wp2_with fail
            go_roundw
            case rel => exact ⟨k + 1, by go_num, by omega, s', F', HR.out.log, HR.out.chg, HR.out.old, HS.out⟩
            case measure => simp [intOf]; omega
          · rw [if_neg hu, if_neg hxn] at hstep
            have hxn' : (x == s'.n) = false := by rw [beq_eq_false_iff_ne]; exact hxn
            have hp1 := remove_plan (wname x) HR.out.log.plan
            have K3 := Lib.hid (fun W hW => Remove_name d s'.σ F' x W hW HR.out.log.plan)
            have HP1 := Lib.hid hp1
            generalize s'.σ.remove (wname x) = r1 at hstep K3 HP1
            obtain ⟨z1, σ1⟩ := r1
            simp only at hstep K3 HP1
            have HS := Lib.hid hstep
            have HLT := Lib.hid HR.out.log.lt
            clear hstep hp1 hxn
            go_wp2_with fail
            go_cut [8] (fun o wx => o = .int .i64 z1 ∧ Hid (MovesL G wr l d F' (s'.put σ1) wx))
            case first =>
              go_region_held3 (fun w' => w'.cell? ⟨l, 0, none⟩ = some (.pointer (some ⟨d, 0, none⟩)))
                (first | exact c0 | (rw [hb3.cell (p := ⟨l, 0, none⟩) HLT.out]; exact c0) | (rw [hm4.1.cell (p := ⟨l, 0, none⟩) (Nat.lt_of_lt_of_le HLT.out hb3.size) HR.out.log.apart, hb3.cell (p := ⟨l, 0, none⟩) HLT.out]; exact c0))
                (first
                  | (go_at_call 12; have t1 := Name_calls x wr.drew HR.out.log.laid.tab; (with_reducible refine t1.mono ?_); clear t1; rintro e w3 ⟨rfl, hb3⟩)
                  | (go_at_call 47; have t1 := K3.out w3 (HR.out.log.below (below_drewIn hb3)).own; (with_reducible refine t1.mono ?_); clear t1; rintro e w4 ⟨rfl, hm4⟩))
              all_goals go_wp2_with fail
              all_goals go_meet
              all_goals exact ⟨rfl, MovesL.behind (below_drewIn hb3) ((HR.out.log.below (below_drewIn hb3)).disk hm4 HP1.out)⟩
            case rest =>
              obtain ⟨rfl, HM⟩ := hcut
              obtain ⟨c4, F4, H4, hs4⟩ := HM.out
              have C4 := Lib.hid c4
              have S4 := Lib.hid hs4
              clear c0 c1 c4 hs4 HM K3 hc
              have hsz : w2.heap.size ≤ wr.heap.size := HR.out.chg.size
              by_cases hz1 : z1 = 0
              · subst hz1
                have HS2 : Hid (s.retireF until_ L = (s'.put σ1).retireF until_ (L.drop (k + 1))) := by show _ = _; rw [HS.out]; simp
                clear HS
                go_wp2_with fail
                go_roundw
                case rel => exact ⟨k + 1, by go_num, by omega, s'.put σ1, F4, H4, HR.out.chg.then C4.out (fun i hi hk => hk.elim .inl fun h => .inr (HR.out.old i hi h)), fun i hi hf => HR.out.old i hi (S4.out i (by omega) hf), HS2.out⟩
                case measure => simp [intOf]; omega
              · have HS2 : Hid (s.retireF until_ L = (z1, (s'.put σ1).done z1)) := by show _ = _; rw [HS.out, if_pos hz1]
                have hz' : (z1 == 0) = false := by rw [beq_eq_false_iff_ne]; exact hz1
                have hz2 : (z1 != 0) = true := by rw [bne_iff_ne]; exact hz1
                have K5 := Lib.hid (Done_calls G l d _ F4 z1 _ H4)
                clear HS hz1
                go_wp2_with fail
                refine K5.out.mono ?_
                rintro e w5 ⟨rfl, hm5⟩
                go_wp2_with fail
                go_ret
                rw [HE.out, HS2.out]
                exact ⟨rfl, MovesL.behind HB2.out (MovesL.link HR.out.chg HR.out.old (MovesL.link C4.out S4.out hm5))⟩
      · have hke : k = L.length := by omega
        subst hke
        have HS : Hid (s.retireF until_ L = (0, s')) := by show _ = _; rw [HR.out.eq, List.drop_length]; rfl
        go_wp2_with fail
        go_ret
        rw [HE.out, HS.out]
        exact ⟨rfl, MovesL.behind HB2.out HR.out.moves⟩
  · have HE : Hid (s.retire until_ = (s.may, s)) := by show _ = _; unfold LS.retire; rw [if_pos hm]
    have hz' : (s.may == 0) = false := by rw [beq_eq_false_iff_ne]; exact hm
    have hz2 : (s.may != 0) = true := by rw [bne_iff_ne]; exact hm
    clear h hm
    go_enter Tryz.func17, Tryz.ntmps17
    go_wp2_with fail
    refine K1.out.mono ?_
    rintro e w1 ⟨rfl, hb1⟩
    go_wp2_with fail
    go_ret
    rw [HE.out]
    exact ⟨rfl, MovesL.of_below H.out hb1⟩
end Wal
end Go.Proofs.YtlcenkkfcejnbaaGreatDoor
