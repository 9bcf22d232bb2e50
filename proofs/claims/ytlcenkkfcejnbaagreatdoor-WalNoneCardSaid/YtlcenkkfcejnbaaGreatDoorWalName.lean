/- wal.Name. -/
import Derived.Test.YtlcenkkfcejnbaaGreatDoorBase
import Derived.Test.YtlcenkkfcejnbaaGreatDoorShelf
import Derived.Lib.ItoaLen
import Derived.Lib.ItoaMem
namespace Go.Proofs.YtlcenkkfcejnbaaGreatDoor
open Go.RowKit
namespace Wal
abbrev Bytes := List UInt8

/-- A segment's name. -/
def wname (n : Int) : Bytes := if n < 1 ∨ 999999999 < n then [] else [108, 111, 103, 45] ++ Lib.itoa n

theorem grow_below (w : World) (k : Nat) (os : Array Obj) : Below w.heap.size w (Go.Sort.grow (w.drewN k) os) :=
  ⟨rfl, rfl, rfl, by show _ ≤ (w.heap ++ os).size; simp, fun i hi => by
    show (w.heap ++ os)[i]? = _
    rw [Array.getElem?_append_left hi]⟩

set_option maxHeartbeats 400000 in
theorem Name_calls (n : Int) (w : World) (htab : Lib.TabIs Tryz.prog w "internal/strconv.uint64pow10" .u64 Lib.pow10Tab) :
    Calls Tryz.prog 12 #[.int .i64 n] w fun e w' => e = .returned (.string ⟨(wname n).toArray⟩) ∧ Below w.heap.size w w' := by
  by_cases hlo : n < 1
  · have HE : Hid (wname n = []) := by show _ = _; unfold wname; rw [if_pos (.inl hlo)]
    go_enter Tryz.func12, Tryz.ntmps12
    go_wp2_with fail
    go_ret
    exact ⟨by rw [HE.out]; rfl, Below.refl _ _⟩
  · by_cases hhi : n > 999999999
    · have HE : Hid (wname n = []) := by show _ = _; unfold wname; rw [if_pos (.inr hhi)]
      go_enter Tryz.func12, Tryz.ntmps12
      go_wp2_with fail
      go_ret
      exact ⟨by rw [HE.out]; rfl, Below.refl _ _⟩
    · have HE : Hid (wname n = [108, 111, 103, 45] ++ Lib.itoa n) := by show _ = _; unfold wname; rw [if_neg (by omega)]
      have hlen := Lib.itoa_length_le n (by omega) (by omega)
      have K1 := Lib.hid (Tryz.strconv_Itoa n (by omega) (by omega) w htab)
      have hsz : (⟨(Lib.itoa n).toArray⟩ : ByteArray).size ≤ 21 := by simpa [ByteArray.size] using hlen
      generalize hs : (⟨(Lib.itoa n).toArray⟩ : ByteArray) = s at K1 hsz
      have HS := Lib.hid hs
      clear hs
      go_enter Tryz.func12, Tryz.ntmps12
      go_wp2_with fail
      refine K1.out.mono ?_
      rintro e w1 ⟨rfl, k, os, rfl⟩
      have hadd := run_string_add_sum (P := Tryz.prog) (Go.Sort.grow (w.drewN k) os) ⟨#[108, 111, 103, 45]⟩ s (by have : (⟨#[108, 111, 103, 45]⟩ : ByteArray).size = 4 := rfl; omega)
      go_wp2_with fail
      go_ret
      refine ⟨?_, grow_below _ _ _⟩
      rw [HE.out, ← HS.out]
      have : (⟨#[108, 111, 103, 45]⟩ : ByteArray) ++ ⟨(Lib.itoa n).toArray⟩ = ⟨([108, 111, 103, 45] ++ Lib.itoa n).toArray⟩ := by
        apply ByteArray.ext
        rw [ByteArray.data_append]
        simp
      exact congrArg (fun z => Ending.returned (.string z)) this
end Wal
end Go.Proofs.YtlcenkkfcejnbaaGreatDoor
