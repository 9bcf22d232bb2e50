/- The law WalNames: the walk. -/
import Derived.Test.YtlcenkkfcejnbaaGreatDoorWalLives
import Derived.Test.YtlcenkkfcejnbaaGreatDoorWalNumPlain
namespace Go.Proofs.YtlcenkkfcejnbaaGreatDoor
open Go.RowKit
namespace Lives
open Wal

theorem below_and {w w1 w2 : World} (h : Below w.heap.size w w1) (h2 : Below w1.heap.size w1 w2) : Below w.heap.size w w2 := h.trans (h2.mono h.size)

set_option maxRecDepth 100000 in
set_option maxHeartbeats 2000000 in
theorem Names_calls (G : Nat) (n : Int) (s : ByteArray) (w : World) (hlaid : Laid G w) : Calls Tryz.prog 4 #[.int .i64 n, .string s] w (Lived w) := by
  have HL := Lib.hid hlaid
  have K1 := Lib.hid (Name_calls n w hlaid.tab)
  have K2 := Lib.hid (fun W hW => Number_calls ⟨(wname n).toArray⟩ W G hW)
  have K3 := Lib.hid (fun W => DiskGood_calls ⟨(wname n).toArray⟩ W (nm_size n))
  have K4 := Lib.hid (fun W hW => Number_calls s W G hW)
  have K5 := Lib.hid (fun W hW => Lives_calls G W hW)
  have hnil := Cells.str_nil (wname n)
  rw [show (⟨(wname n).toArray⟩ : ByteArray).data.toList = wname n from by simp] at K2 K3
  by_cases hr : 1 ≤ n ∧ n ≤ 999999999
  · obtain ⟨h0, h1⟩ := hr
    rw [number_name h0 h1] at K2
    rw [wname_good h0 h1] at K3
    have hne : ((⟨(wname n).toArray⟩ : ByteArray).toList == []) = false := by rw [hnil]; exact decide_eq_false (fun e => by have := (wname_nil n).1 e; omega)
    generalize (⟨(wname n).toArray⟩ : ByteArray) = q at K1 K2 K3 hne hnil
    have hnn : (n != n) = false := by simp
    clear hnil hlaid
    cases hs : numberOf s.data.toList with
    | none =>
      rw [hs] at K4
      clear hs
      go_enter Tryz.func4, Tryz.ntmps4
      go_wp2_with fail
      refine K1.out.mono ?_
      rintro e w1 ⟨rfl, hb1⟩
      have B1 := Lib.hid hb1
      clear hb1
      go_wp2_with fail
      refine (K2.out _ (HL.out.below B1.out)).mono ?_
      rintro e w2 ⟨rfl, hb2⟩
      have B2 := Lib.hid (below_and B1.out hb2)
      clear hb2
      go_wp2_with fail
      refine (K3.out w2).mono ?_
      rintro e w3 ⟨rfl, hb3⟩
      have B3 := Lib.hid (below_and B2.out hb3)
      clear hb3
      go_wp2_with fail
      refine (K4.out _ (HL.out.below B3.out)).mono ?_
      rintro e w4 ⟨rfl, hb4⟩
      have B4 := Lib.hid (below_and B3.out hb4)
      clear hb4
      go_wp2_with fail
      refine (K5.out _ (HL.out.below B4.out)).mono ?_
      rintro e w5 ⟨rfl, hb5⟩
      go_wp2_with fail
      go_ret
      exact ⟨rfl, below_and B4.out hb5⟩
    | some v =>
      rw [hs] at K4
      have hv := name_number hs
      have hvs : (⟨(wname v).toArray⟩ : ByteArray) = s := by rw [hv]
      have K6 := Lib.hid (fun W hW => Name_calls v W hW)
      rw [hvs] at K6
      clear hs hv hvs
      go_enter Tryz.func4, Tryz.ntmps4
      go_wp2_with fail
      refine K1.out.mono ?_
      rintro e w1 ⟨rfl, hb1⟩
      have B1 := Lib.hid hb1
      clear hb1
      go_wp2_with fail
      refine (K2.out _ (HL.out.below B1.out)).mono ?_
      rintro e w2 ⟨rfl, hb2⟩
      have B2 := Lib.hid (below_and B1.out hb2)
      clear hb2
      go_wp2_with fail
      refine (K3.out w2).mono ?_
      rintro e w3 ⟨rfl, hb3⟩
      have B3 := Lib.hid (below_and B2.out hb3)
      clear hb3
      go_wp2_with fail
      refine (K4.out _ (HL.out.below B3.out)).mono ?_
      rintro e w4 ⟨rfl, hb4⟩
      have B4 := Lib.hid (below_and B3.out hb4)
      clear hb4
      go_wp2_with fail
      refine (K6.out _ (HL.out.below B4.out).tab).mono ?_
      rintro e w5 ⟨rfl, hb5⟩
      have B5 := Lib.hid (below_and B4.out hb5)
      clear hb5
      go_wp2_with fail
      refine (K5.out _ (HL.out.below B5.out)).mono ?_
      rintro e w6 ⟨rfl, hb6⟩
      go_wp2_with fail
      go_ret
      exact ⟨rfl, below_and B5.out hb6⟩
  · have hne : ((⟨(wname n).toArray⟩ : ByteArray).toList == []) = true := by rw [hnil]; exact decide_eq_true ((wname_nil n).2 (by omega))
    generalize (⟨(wname n).toArray⟩ : ByteArray) = q at K1 hne hnil
    clear hnil hlaid K2 K3
    by_cases h0 : n < 1
    · cases hs : numberOf s.data.toList with
      | none =>
        rw [hs] at K4
        clear hs
        go_enter Tryz.func4, Tryz.ntmps4
        go_wp2_with fail
        refine K1.out.mono ?_
        rintro e w1 ⟨rfl, hb1⟩
        have B1 := Lib.hid hb1
        clear hb1
        go_wp2_with fail
        refine (K4.out _ (HL.out.below B1.out)).mono ?_
        rintro e w4 ⟨rfl, hb4⟩
        have B4 := Lib.hid (below_and B1.out hb4)
        clear hb4
        go_wp2_with fail
        refine (K5.out _ (HL.out.below B4.out)).mono ?_
        rintro e w5 ⟨rfl, hb5⟩
        go_wp2_with fail
        go_ret
        exact ⟨rfl, below_and B4.out hb5⟩
      | some v =>
        rw [hs] at K4
        have hv := name_number hs
        have hvs : (⟨(wname v).toArray⟩ : ByteArray) = s := by rw [hv]
        have K6 := Lib.hid (fun W hW => Name_calls v W hW)
        rw [hvs] at K6
        clear hs hv hvs
        go_enter Tryz.func4, Tryz.ntmps4
        go_wp2_with fail
        refine K1.out.mono ?_
        rintro e w1 ⟨rfl, hb1⟩
        have B1 := Lib.hid hb1
        clear hb1
        go_wp2_with fail
        refine (K4.out _ (HL.out.below B1.out)).mono ?_
        rintro e w4 ⟨rfl, hb4⟩
        have B4 := Lib.hid (below_and B1.out hb4)
        clear hb4
        go_wp2_with fail
        refine (K6.out _ (HL.out.below B4.out).tab).mono ?_
        rintro e w5 ⟨rfl, hb5⟩
        have B5 := Lib.hid (below_and B4.out hb5)
        clear hb5
        go_wp2_with fail
        refine (K5.out _ (HL.out.below B5.out)).mono ?_
        rintro e w6 ⟨rfl, hb6⟩
        go_wp2_with fail
        go_ret
        exact ⟨rfl, below_and B5.out hb6⟩
    · have h1 : 999999999 < n := by omega
      cases hs : numberOf s.data.toList with
      | none =>
        rw [hs] at K4
        clear hs
        go_enter Tryz.func4, Tryz.ntmps4
        go_wp2_with fail
        refine K1.out.mono ?_
        rintro e w1 ⟨rfl, hb1⟩
        have B1 := Lib.hid hb1
        clear hb1
        go_wp2_with fail
        refine (K4.out _ (HL.out.below B1.out)).mono ?_
        rintro e w4 ⟨rfl, hb4⟩
        have B4 := Lib.hid (below_and B1.out hb4)
        clear hb4
        go_wp2_with fail
        refine (K5.out _ (HL.out.below B4.out)).mono ?_
        rintro e w5 ⟨rfl, hb5⟩
        go_wp2_with fail
        go_ret
        exact ⟨rfl, below_and B4.out hb5⟩
      | some v =>
        rw [hs] at K4
        have hv := name_number hs
        have hvs : (⟨(wname v).toArray⟩ : ByteArray) = s := by rw [hv]
        have K6 := Lib.hid (fun W hW => Name_calls v W hW)
        rw [hvs] at K6
        clear hs hv hvs
        go_enter Tryz.func4, Tryz.ntmps4
        go_wp2_with fail
        refine K1.out.mono ?_
        rintro e w1 ⟨rfl, hb1⟩
        have B1 := Lib.hid hb1
        clear hb1
        go_wp2_with fail
        refine (K4.out _ (HL.out.below B1.out)).mono ?_
        rintro e w4 ⟨rfl, hb4⟩
        have B4 := Lib.hid (below_and B1.out hb4)
        clear hb4
        go_wp2_with fail
        refine (K6.out _ (HL.out.below B4.out).tab).mono ?_
        rintro e w5 ⟨rfl, hb5⟩
        have B5 := Lib.hid (below_and B4.out hb5)
        clear hb5
        go_wp2_with fail
        refine (K5.out _ (HL.out.below B5.out)).mono ?_
        rintro e w6 ⟨rfl, hb6⟩
        go_wp2_with fail
        go_ret
        exact ⟨rfl, below_and B5.out hb6⟩
end Lives
end Go.Proofs.YtlcenkkfcejnbaaGreatDoor
