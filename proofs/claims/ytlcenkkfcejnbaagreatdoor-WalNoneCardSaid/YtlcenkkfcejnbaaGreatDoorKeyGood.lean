/- key.Good. -/
import Derived.Test.YtlcenkkfcejnbaaGreatDoorKeyName
import Derived.Test.YtlcenkkfcejnbaaGreatDoorCodecCellsA
namespace Go.Proofs.YtlcenkkfcejnbaaGreatDoor
open Go.RowKit
namespace Key
open Codec (Cell keyV)

def str (l : List UInt8) : ByteArray := ⟨l.toArray⟩
/-- May a key be? -/
def kgood (c : Cell) : Bool := kname (str c.table) && (!decide (c.part = []) && (decide (c.part.length ≤ 64) && (decide (c.column = []) || kname (str c.column))))

theorem kgood_no {c : Cell} (h : kname (str c.table) = false) : kgood c = false := by simp [kgood, h]

set_option maxHeartbeats 400000 in
theorem KGood_calls (c : Cell) (w : World) :
    Calls Tryz.prog 55 #[.agg (keyV c).toArray] w fun e w' => e = .returned (.bool (kgood c)) ∧ Below w.heap.size w w' := by
  have K1 := Lib.hid (fun W => KName_calls (str c.table) W)
  cases hn : kname (str c.table)
  · have HE := Lib.hid (kgood_no hn)
    rw [hn] at K1
    simp only [keyV]
    go_enter Tryz.func55, Tryz.ntmps55
    go_wp2_with fail
    refine (K1.out _).mono ?_
    rintro e w1 ⟨rfl, hb1⟩
    go_wp2_with fail
    go_ret
    exact ⟨ret_bool (by rw [HE.out]), ((Below.refl _ w).alloc (Nat.le_refl _) _).trans (hb1.mono (by simp))⟩
  · rw [hn] at K1
    simp only [keyV]
    have hblk : ∀ w1, Below (w.alloc (.cells (keyV c).toArray 65)).heap.size (w.alloc (.cells (keyV c).toArray 65)) w1 → w1.heap[w.heap.size]? = some (.cells (keyV c).toArray 65 (0, 0)) := fun w1 hb => by
      rw [hb.block _ (by simp)]; show (w.heap.push _)[w.heap.size]? = _; simp
    have hpe : ((str c.part).toList == []) = decide (c.part = []) := by
      rw [ByteArray.toList_eq]
      show (c.part == []) = _
      cases c.part <;> rfl
    have hce : ((str c.column).toList == []) = decide (c.column = []) := by
      rw [ByteArray.toList_eq]
      show (c.column == []) = _
      cases c.column <;> rfl
    have hps : (str c.part).size = c.part.length := by simp [str, ByteArray.size]
    by_cases hp : c.part = []
    · have HE : Hid (kgood c = false) := by show _ = _; simp [kgood, hp]
      have hpe' : ((str c.part).toList == []) = true := by rw [hpe]; simp [hp]
      clear hp
      go_enter Tryz.func55, Tryz.ntmps55
      go_wp2_with fail
      refine (K1.out _).mono ?_
      rintro e w1 ⟨rfl, hb1⟩
      have e1 := cell_of (hblk w1 hb1) 1
      simp only [keyV, List.getElem?_toArray, List.getElem?_cons_succ, List.getElem?_cons_zero] at e1
      change _ = some (Value.string (str c.part)) at e1
      generalize str c.part = q at hpe' e1
      clear hpe hps
      go_wp2_with fail
      go_ret
      exact ⟨ret_bool (by rw [HE.out]), ((Below.refl _ w).alloc (Nat.le_refl _) _).trans (hb1.mono (by simp))⟩
    · have hpe' : ((str c.part).toList == []) = false := by rw [hpe]; simp [hp]
      by_cases hl : 64 < c.part.length
      · have HE : Hid (kgood c = false) := by show _ = _; simp [kgood, show ¬ c.part.length ≤ 64 by omega]
        have hi : ¬ ((str c.part).size : Int) ≤ 64 := by omega
        clear hp
        go_enter Tryz.func55, Tryz.ntmps55
        go_wp2_with fail
        refine (K1.out _).mono ?_
        rintro e w1 ⟨rfl, hb1⟩
        have e1 := cell_of (hblk w1 hb1) 1
        simp only [keyV, List.getElem?_toArray, List.getElem?_cons_succ, List.getElem?_cons_zero] at e1
        change _ = some (Value.string (str c.part)) at e1
        generalize str c.part = q at hpe' e1 hi
        clear hpe hps hl
        go_wp2_with fail
        go_ret
        exact ⟨ret_bool (by rw [HE.out]), ((Below.refl _ w).alloc (Nat.le_refl _) _).trans (hb1.mono (by simp))⟩
      · have hi : ((str c.part).size : Int) ≤ 64 := by omega
        have K2 := Lib.hid (fun W => KName_calls (str c.column) W)
        have HE : Hid (kgood c = (decide (c.column = []) || kname (str c.column))) := by show _ = _; simp [kgood, hn, hp, show c.part.length ≤ 64 by omega]
        clear hp
        by_cases hc : c.column = []
        · have hce' : ((str c.column).toList == []) = true := by rw [hce]; simp [hc]
          have HE2 : Hid (kgood c = true) := by show _ = _; rw [HE.out]; simp [hc]
          clear hc HE hn
          go_enter Tryz.func55, Tryz.ntmps55
          go_wp2_with fail
          refine (K1.out _).mono ?_
          rintro e w1 ⟨rfl, hb1⟩
          have e1 := cell_of (hblk w1 hb1) 1
          have e3 := cell_of (hblk w1 hb1) 3
          simp only [keyV, List.getElem?_toArray, List.getElem?_cons_succ, List.getElem?_cons_zero] at e1 e3
          change _ = some (Value.string (str c.part)) at e1
          change _ = some (Value.string (str c.column)) at e3
          generalize str c.part = q at hpe' e1 hi
          generalize str c.column = r at hce' e3
          clear hpe hps hl hce K2
          go_wp2_with fail
          go_ret
          exact ⟨ret_bool (by rw [HE2.out]), ((Below.refl _ w).alloc (Nat.le_refl _) _).trans (hb1.mono (by simp))⟩
        · have hce' : ((str c.column).toList == []) = false := by rw [hce]; simp [hc]
          have HE2 : Hid (kgood c = kname (str c.column)) := by show _ = _; rw [HE.out]; simp [hc]
          clear hc HE hn
          go_enter Tryz.func55, Tryz.ntmps55
          go_wp2_with fail
          refine (K1.out _).mono ?_
          rintro e w1 ⟨rfl, hb1⟩
          have e1 := cell_of (hblk w1 hb1) 1
          have e3 := cell_of (hblk w1 hb1) 3
          simp only [keyV, List.getElem?_toArray, List.getElem?_cons_succ, List.getElem?_cons_zero] at e1 e3
          change _ = some (Value.string (str c.part)) at e1
          change _ = some (Value.string (str c.column)) at e3
          generalize str c.part = q at hpe' e1 hi
          generalize str c.column = r at hce' e3 K2 HE2
          clear hpe hps hl hce
          go_wp2_with fail
          refine (K2.out _).mono ?_
          rintro e w2 ⟨rfl, hb2⟩
          go_wp2_with fail
          go_ret
          exact ⟨ret_bool (by rw [HE2.out]), (((Below.refl _ w).alloc (Nat.le_refl _) _).trans (hb1.mono (by simp))).trans (hb2.mono (by have := hb1.size; simp at this; omega))⟩
end Key
end Go.Proofs.YtlcenkkfcejnbaaGreatDoor
