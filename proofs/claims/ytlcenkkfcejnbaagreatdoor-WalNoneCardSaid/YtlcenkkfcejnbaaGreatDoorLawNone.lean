/- The law WalNone: the walk. -/
import Derived.Test.YtlcenkkfcejnbaaGreatDoorLawNames
namespace Go.Proofs.YtlcenkkfcejnbaaGreatDoor
open Go.RowKit
namespace Lives
open Wal
open Codec (Cell CellsAt cellV)

/-- A log that no call made. -/
def Nought (w : World) (v : Value) : Prop := v = .pointer none ∨ ∃ b, v = .pointer (some ⟨b, 0, none⟩) ∧ w.heap[b]? = some (.cells #[.pointer none, .int .i64 0, .bool false] 44 (0, 0))

theorem May_none (w : World) (v : Value) (h : Nought w v) : Calls Tryz.prog 41 #[v] w fun e w' => e = .returned (.int .i64 1) ∧ w = w' := by
  rcases h with rfl | ⟨b, rfl, hb⟩
  · exact May_nil w
  · exact May_zero b 0 w (by rw [cell_of hb]; rfl)

theorem ptr_form {w : World} {v : Value} (h : Nought w v) : ∃ a, v = .pointer a := by
  rcases h with rfl | ⟨b, rfl, _⟩ <;> exact ⟨_, rfl⟩

set_option maxHeartbeats 400000 in
theorem Roll_none (w : World) (v : Value) (h : Nought w v) : Calls Tryz.prog 15 #[v] w fun e w' => e = .returned (.tuple #[.int .i64 0, .int .i64 1]) ∧ w = w' := by
  have K := Lib.hid (May_none w v h)
  obtain ⟨a, rfl⟩ := ptr_form h
  clear h
  go_enter Tryz.func15, Tryz.ntmps15
  go_wp2_with fail
  refine K.out.mono ?_
  rintro e w1 ⟨rfl, rfl⟩
  go_wp2_with fail
  go_ret2
  exact ⟨rfl, rfl⟩
set_option maxHeartbeats 400000 in
theorem Append_none (w : World) (v u : Value) (h : Nought w v) : Calls Tryz.prog 16 #[v, u] w fun e w' => e = .returned (.int .i64 1) ∧ w = w' := by
  have K := Lib.hid (May_none w v h)
  obtain ⟨a, rfl⟩ := ptr_form h
  clear h
  go_enter Tryz.func16, Tryz.ntmps16
  go_wp2_with fail
  refine K.out.mono ?_
  rintro e w1 ⟨rfl, rfl⟩
  go_wp2_with fail
  go_ret
  exact ⟨rfl, rfl⟩
set_option maxHeartbeats 400000 in
theorem Retire_none (w : World) (v : Value) (n : Int) (h : Nought w v) : Calls Tryz.prog 17 #[v, .int .i64 n] w fun e w' => e = .returned (.int .i64 1) ∧ w = w' := by
  have K := Lib.hid (May_none w v h)
  obtain ⟨a, rfl⟩ := ptr_form h
  clear h
  go_enter Tryz.func17, Tryz.ntmps17
  go_wp2_with fail
  refine K.out.mono ?_
  rintro e w1 ⟨rfl, rfl⟩
  go_wp2_with fail
  go_ret
  exact ⟨rfl, rfl⟩
set_option maxHeartbeats 400000 in
theorem Last_none (w : World) (v : Value) (h : Nought w v) : Calls Tryz.prog 18 #[v] w fun e w' => e = .returned (.int .i64 0) ∧ w = w' := by
  rcases h with rfl | ⟨b, rfl, hb⟩
  · go_enter Tryz.func18, Tryz.ntmps18
    go_wp2_with fail
    go_ret
    exact ⟨rfl, rfl⟩
  · have c1 : w.cell? ⟨b, 1, none⟩ = some (.int .i64 0) := by rw [cell_of hb]; rfl
    clear hb
    go_enter Tryz.func18, Tryz.ntmps18
    go_wp2_with fail
    go_ret
    exact ⟨rfl, rfl⟩
set_option maxHeartbeats 400000 in
theorem Segments_none (w : World) (v : Value) (h : Nought w v) : Calls Tryz.prog 19 #[v] w fun e w' => e = .returned (.slice none 0 0) ∧ w = w' := by
  rcases h with rfl | ⟨b, rfl, hb⟩
  · go_enter Tryz.func19, Tryz.ntmps19
    go_wp2_with fail
    go_ret
    exact ⟨rfl, rfl⟩
  · have c1 : w.cell? ⟨b, 1, none⟩ = some (.int .i64 0) := by rw [cell_of hb]; rfl
    clear hb
    go_enter Tryz.func19, Tryz.ntmps19
    go_wp2_with fail
    go_ret
    exact ⟨rfl, rfl⟩

set_option maxRecDepth 100000 in
set_option maxHeartbeats 2000000 in
theorem None_law (G : Nat) (va : Option Addr) (vn vc : Nat) (n : Int) (w : World) (hlaid : Laid G w) : Calls Tryz.prog 5 #[.slice va vn vc, .int .i64 n] w (Lived w) := by
  have HL := Lib.hid hlaid
  have hz : (w.alloc (.cells #[.pointer none, .int .i64 0, .bool false] 44)).heap[w.heap.size]? = some (.cells #[.pointer none, .int .i64 0, .bool false] 44 (0, 0)) := heap_alloc_new w _
  have B0 : Hid (Below w.heap.size w (w.alloc (.cells #[.pointer none, .int .i64 0, .bool false] 44))) := (Below.refl _ _).alloc (Nat.le_refl _) _
  have N0 : Hid (Nought (w.alloc (.cells #[.pointer none, .int .i64 0, .bool false] 44)) (.pointer none)) := .inl rfl
  have N1 : Hid (Nought (w.alloc (.cells #[.pointer none, .int .i64 0, .bool false] 44)) (.pointer (some ⟨w.heap.size, 0, none⟩))) := .inr ⟨_, rfl, hz⟩
  have i0 : ∀ a W, (Instr.index 46 (.agg #[.pointer none, .pointer (some ⟨a, 0, none⟩)]) (.int .i64 0)).run Tryz.prog W = .ok (.pointer none) W := fun _ _ => by kernel_rfl
  have i1 : ∀ a W, (Instr.index 46 (.agg #[.pointer none, .pointer (some ⟨a, 0, none⟩)]) (.int .i64 1)).run Tryz.prog W = .ok (.pointer (some ⟨a, 0, none⟩)) W := fun _ _ => by kernel_rfl
  have K5 := Lib.hid (fun W hW => Lives_calls G W hW)
  clear hlaid hz
  go_enter Tryz.func5, Tryz.ntmps5
  go_wp2_with fail
  go_loop [7, 8, 9, 14] (fun _ _ _ i => i = .int .i64 0 ∨ i = .int .i64 1 ∨ i = .int .i64 2) (fun _ _ _ i => 2 - (intOf i).toNat)
  case atStart => exact .inl rfl
  case round =>
    rcases hrel with rfl | rfl | rfl
    · go_wp2_with fail
      refine (Roll_none _ _ N0.out).mono ?_
      rintro e w1 ⟨rfl, rfl⟩
      go_wp2_with fail
      refine (Append_none _ _ _ N0.out).mono ?_
      rintro e w1 ⟨rfl, rfl⟩
      go_wp2_with fail
      refine (Retire_none _ _ _ N0.out).mono ?_
      rintro e w1 ⟨rfl, rfl⟩
      go_wp2_with fail
      refine (Last_none _ _ N0.out).mono ?_
      rintro e w1 ⟨rfl, rfl⟩
      go_wp2_with fail
      refine (Segments_none _ _ N0.out).mono ?_
      rintro e w1 ⟨rfl, rfl⟩
      go_wp2_with fail
      go_round
      case rel => exact .inr (.inl rfl)
      case measure => simp [intOf]
    · go_wp2_with fail
      refine (Roll_none _ _ N1.out).mono ?_
      rintro e w1 ⟨rfl, rfl⟩
      go_wp2_with fail
      refine (Append_none _ _ _ N1.out).mono ?_
      rintro e w1 ⟨rfl, rfl⟩
      go_wp2_with fail
      refine (Retire_none _ _ _ N1.out).mono ?_
      rintro e w1 ⟨rfl, rfl⟩
      go_wp2_with fail
      refine (Last_none _ _ N1.out).mono ?_
      rintro e w1 ⟨rfl, rfl⟩
      go_wp2_with fail
      refine (Segments_none _ _ N1.out).mono ?_
      rintro e w1 ⟨rfl, rfl⟩
      go_wp2_with fail
      go_round
      case rel => exact .inr (.inr rfl)
      case measure => simp [intOf]
    · go_wp2_with fail
      refine (Open_nil n _).mono ?_
      rintro e w1 ⟨rfl, hb1⟩
      have B1 := Lib.hid (below_and B0.out hb1)
      clear hb1
      go_wp2_with fail
      refine (Norm_nil w1).mono ?_
      rintro e w2 ⟨rfl, rfl⟩
      go_wp2_with fail
      refine (K5.out w1 (HL.out.below B1.out)).mono ?_
      rintro e w3 ⟨rfl, hb3⟩
      go_wp2_with fail
      go_ret
      exact ⟨rfl, below_and B1.out hb3⟩
end Lives
end Go.Proofs.YtlcenkkfcejnbaaGreatDoor
