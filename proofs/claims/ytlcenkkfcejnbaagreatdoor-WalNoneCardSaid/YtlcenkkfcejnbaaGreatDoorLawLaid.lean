/- What the row's list of variables gives the walks. -/
import Derived.Test.YtlcenkkfcejnbaaGreatDoorWalNumber
import Derived.Test.YtlcenkkfcejnbaaGreatDoorRows
import Derived.Stop.LaidErr
import Derived.Lib.LaidTab
import Derived.MakeChecks
import Derived.ProofKit
import Derived.OpenShut
import Derived.Deep.DeepHandedRow
import Derived.Deep.DeepWitnessRowRef
import Derived.LaidMore
namespace Go.Proofs.YtlcenkkfcejnbaaGreatDoor
open Go.RowKit Go.ChangeShapes Go.WideShapes Go.ChangeAt
namespace LawKit
open Wal

theorem own : ownKnob Tryz.prog.godebug = none := by kernel_rfl
theorem gTab : Tryz.prog.globalNamed "internal/strconv.uint64pow10" = some 2 := by kernel_rfl
theorem gTabT : (Tryz.prog.globals[2]?).map (·.type) = some 202 := by kernel_rfl
theorem gSyn : Tryz.prog.globalNamed "strconv.ErrSyntax" = some 0 := by kernel_rfl
theorem gSynT : (Tryz.prog.globals[0]?).map (·.type) = some 87 := by kernel_rfl
theorem gRan : Tryz.prog.globalNamed "strconv.ErrRange" = some 1 := by kernel_rfl
theorem gRanT : (Tryz.prog.globals[1]?).map (·.type) = some 87 := by kernel_rfl
theorem cTab : Tryz.prog.cellsOf 202 = 20 := by kernel_rfl
theorem cU64 : Tryz.prog.cellsOf 115 = 1 := by kernel_rfl
theorem cEs : Tryz.prog.cellsOf 209 = 1 := by kernel_rfl
theorem cStr : Tryz.prog.cellsOf 9 = 1 := by kernel_rfl
theorem star : "*" ++ "errors.errorString" = "*errors.errorString" := by decide
theorem rowEs (u : TypeId) (h : Tryz.prog.typeName? 3 u = some "*errors.errorString") : u = 207 :=
  typeName_ptr_named (nm := "errors.errorString") (by rw [star]; kernel_rfl) (by kernel_rfl) (by decide) u (by rw [star]; exact h)

theorem globs (n : String) (g : Nat) (h : Tryz.prog.globalNamed n = some g) : g < Tryz.prog.globals.size := by
  unfold Program.globalNamed at h
  split at h
  · rename_i k hk
    obtain rfl := Option.some.inj h
    have : k ∈ (List.range Tryz.prog.globals.size).filter fun g => (Tryz.prog.globals[g]?).any fun x => x.name == n := by rw [hk]; exact List.mem_cons_self
    exact List.mem_range.1 (List.mem_filter.1 this).1
  · cases h

theorem wide {W : World} (h : W.ShapedOpen Tryz.prog) : Tryz.prog.globals.size ≤ W.heap.size := by
  have hz : (((begin Tryz.prog (fun _ _ => 0) default).world.heap[Tryz.prog.globals.size - 1]?).bind Obj.row?).isSome = true := by kernel_rfl
  have hp : Tryz.prog.globals.size = 5 := by kernel_rfl
  obtain ⟨⟨z, t⟩, hz⟩ := Option.isSome_iff_exists.1 hz
  obtain ⟨cs, hc, _⟩ := h.1 (Tryz.prog.globals.size - 1) z t (by omega) hz
  have := (Array.getElem?_eq_some_iff.1 hc).1
  omega

theorem laid_of {W : World} (hW : W.ShapedOpen Tryz.prog) (h : laidMetH Tryz.prog Rows.walNamesRow.laid W) : Laid Tryz.prog.globals.size W := by
  rw [MakeChecks.laidMetH_plain _ _ _ (by kernel_rfl)] at h
  have h3 := h.tail.tail
  have tab : Lib.TabIs Tryz.prog W "internal/strconv.uint64pow10" .u64 Lib.pow10Tab := Lib.tabIs_of_head gTab gTabT Tryz.underlying202 Tryz.underlying115 cU64 cTab h3
  obtain ⟨a1, s1, hv1, _⟩ := laid_sentinel h3.tail gRan gRanT Tryz.underlying87 rowEs Tryz.underlying207 Tryz.underlying209 rfl rfl Tryz.underlying9 cEs cStr
  obtain ⟨a2, s2, hv2, _⟩ := laid_sentinel h3.tail.tail gSyn gSynT Tryz.underlying87 rowEs Tryz.underlying207 Tryz.underlying209 rfl rfl Tryz.underlying9 cEs cStr
  exact ⟨tab, ⟨_, _, hv2⟩, ⟨_, _, hv1⟩, globs, wide hW⟩
end LawKit
end Go.Proofs.YtlcenkkfcejnbaaGreatDoor
