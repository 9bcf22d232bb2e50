/- cell.Good. -/
import Derived.Test.YtlcenkkfcejnbaaGreatDoorKeyGood
namespace Go.Proofs.YtlcenkkfcejnbaaGreatDoor
open Go.RowKit
namespace Cells
open Codec (Cell keyV verV cellV)
open Key (kgood KGood_calls)

/-- Is the value the zero one? -/
def vzero (c : Cell) : Bool := c.kind == 0 && (c.n == 0 && decide (c.s = []))
/-- May a cell be? -/
def cgood (c : Cell) : Bool :=
  kgood c && (if c.dead then vzero c else decide (c.loc = 0) && (decide (c.column = []) == decide (c.kind = 0)) &&
    (if c.kind = 0 then vzero c else if c.kind = 1 then decide (c.s = []) else if c.kind = 2 then decide (c.n = 0) && decide (c.s.length ≤ 64) else false))

theorem run_vzero (c : Cell) (w : World) : (binOp .eql 67 (.agg #[.int .i64 c.kind, .int .i64 c.n, .string ⟨c.s.toArray⟩]) (.agg #[.int .i64 0, .int .i64 0, .string ⟨#[]⟩])).run Tryz.prog w = .ok (.bool (vzero c)) w := by
  have u3 := Tryz.underlying3
  have u9 := Tryz.underlying9
  have a3 := Tryz.isAgg3
  have z3 := Tryz.sizeOf3
  have a9 := Tryz.isAgg9
  have z9 := Tryz.sizeOf9
  rw [run_eql_struct, run_equalIn_struct (P := Tryz.prog) w 9999 67 _ _ (by kernel_rfl) (by kernel_rfl)]
  simp only [Program.fieldsOf, Tryz.underlying67]
  go_simp
  unfold vzero
  by_cases h1 : c.kind = 0 <;> by_cases h2 : c.n = 0 <;> by_cases h3 : c.s = [] <;> simp [h1, h2, h3]

theorem str_nil (l : List UInt8) : ((⟨l.toArray⟩ : ByteArray).toList == []) = decide (l = []) := by
  rw [ByteArray.toList_eq]
  show (l == []) = _
  cases l <;> rfl
theorem str_size (l : List UInt8) : (⟨l.toArray⟩ : ByteArray).size = l.length := by simp [ByteArray.size]

set_option maxRecDepth 100000 in
set_option maxHeartbeats 2000000 in
theorem CGood_calls (c : Cell) (w : World) :
    Calls Tryz.prog 30 #[.agg (cellV c).toArray] w fun e w' => e = .returned (.bool (cgood c)) ∧ Below w.heap.size w w' := by
  have K1 := Lib.hid (fun W => KGood_calls c W)
  simp only [keyV] at K1
  simp only [cellV]
  have hv0 := fun W => run_vzero c W
  have hE : cgood c = (kgood c && (if c.dead then vzero c else decide (c.loc = 0) && (decide (c.column = []) == decide (c.kind = 0)) &&
    (if c.kind = 0 then vzero c else if c.kind = 1 then decide (c.s = []) else if c.kind = 2 then decide (c.n = 0) && decide (c.s.length ≤ 64) else false))) := rfl
  have hcol := str_nil c.column
  have hss := str_nil c.s
  have hsz := str_size c.s
  have HE := Lib.hid hE
  have HS := Lib.hid hsz
  clear hE hsz
  generalize hq : (⟨c.s.toArray⟩ : ByteArray) = q at *
  generalize (⟨c.column.toArray⟩ : ByteArray) = qc at *
  generalize (⟨c.table.toArray⟩ : ByteArray) = qt at *
  generalize (⟨c.part.toArray⟩ : ByteArray) = qp at *
  clear hq
  have fin : ∀ (w1 : World), Below (w.alloc (.cells #[.string qt, .string qp, .int .i64 c.row, .string qc, .int .i64 c.time, .bool c.dead, .int .i64 c.loc, .int .i64 c.kind, .int .i64 c.n, .string q] 71) |>.alloc (.cells #[.int .i64 c.time, .bool c.dead, .int .i64 c.loc, .int .i64 c.kind, .int .i64 c.n, .string q] 69)).heap.size (w.alloc (.cells #[.string qt, .string qp, .int .i64 c.row, .string qc, .int .i64 c.time, .bool c.dead, .int .i64 c.loc, .int .i64 c.kind, .int .i64 c.n, .string q] 71) |>.alloc (.cells #[.int .i64 c.time, .bool c.dead, .int .i64 c.loc, .int .i64 c.kind, .int .i64 c.n, .string q] 69)) w1 →
      Hid (Below w.heap.size w w1 ∧ w1.heap[w.heap.size + 1]? = some (.cells #[.int .i64 c.time, .bool c.dead, .int .i64 c.loc, .int .i64 c.kind, .int .i64 c.n, .string q] 69 (0, 0)) ∧ w1.heap[w.heap.size]? = some (.cells #[.string qt, .string qp, .int .i64 c.row, .string qc, .int .i64 c.time, .bool c.dead, .int .i64 c.loc, .int .i64 c.kind, .int .i64 c.n, .string q] 71 (0, 0))) := by
    intro w1 hb
    have h2 : Below w.heap.size w w1 := (((Below.refl _ w).alloc (Nat.le_refl _) _).alloc (by simp) _).trans (hb.mono (by simp; omega))
    refine ⟨h2, ?_, ?_⟩
    · rw [hb.block _ (by simp)]; exact heap_alloc_new (w.alloc _) _ |> (by simpa using ·)
    · rw [hb.block _ (by simp; omega), Below.heap_alloc _ _ _ (by simp)]; exact heap_alloc_new w _
  generalize hkg : kgood c = kg at K1 HE
  generalize hdd : c.dead = dd at HE fin
  clear hkg hdd
  cases kg
  · go_enter Tryz.func30, Tryz.ntmps30
    go_wp2_with fail
    refine (K1.out _).mono ?_
    rintro e w1 ⟨rfl, hb1⟩
    have F1 := fin w1 hb1
    have d0 := cell_of F1.out.2.1 0
    have d1 := cell_of F1.out.2.1 1
    have d2 := cell_of F1.out.2.1 2
    have d3 := cell_of F1.out.2.1 3
    have d4 := cell_of F1.out.2.1 4
    have d5 := cell_of F1.out.2.1 5
    have e3 := cell_of F1.out.2.2 3
    simp only [List.getElem?_toArray, List.getElem?_cons_succ, List.getElem?_cons_zero] at d0 d1 d2 d3 d4 d5 e3
    clear hb1 fin
    go_wp2_with fail
    go_ret
    exact ⟨ret_bool (by rw [HE.out]; simp), F1.out.1⟩
  · cases dd
    · by_cases hl : c.loc = 0
      · have hl1 : (c.loc == 0) = true := by rw [beq_iff_eq]; exact hl
        have hl2 : (c.loc != 0) = false := by rw [bne, hl1]; rfl
        by_cases hc : c.column = []
        · have hcb : (qc.toList == []) = true := by rw [hcol]; exact decide_eq_true hc
          by_cases hk : c.kind = 0
          · have hk1 : (c.kind == 0) = true := by rw [beq_iff_eq]; exact hk
            have HX : Hid (c.loc = 0 ∧ c.column = [] ∧ c.kind = 0) := ⟨hl, hc, hk⟩
            clear hl hc hk hcol hss
            go_enter Tryz.func30, Tryz.ntmps30
            go_wp2_with fail
            refine (K1.out _).mono ?_
            rintro e w1 ⟨rfl, hb1⟩
            have F1 := fin w1 hb1
            have d0 := cell_of F1.out.2.1 0
            have d1 := cell_of F1.out.2.1 1
            have d2 := cell_of F1.out.2.1 2
            have d3 := cell_of F1.out.2.1 3
            have d4 := cell_of F1.out.2.1 4
            have d5 := cell_of F1.out.2.1 5
            have e3 := cell_of F1.out.2.2 3
            simp only [List.getElem?_toArray, List.getElem?_cons_succ, List.getElem?_cons_zero] at d0 d1 d2 d3 d4 d5 e3
            clear hb1 fin
            go_wp2_with fail
            go_ret
            exact ⟨ret_bool (by rw [HE.out]; simp [HX.out]), F1.out.1⟩
          · have hk1 : (c.kind == 0) = false := by rw [beq_eq_false_iff_ne]; exact hk
            have HX : Hid (c.loc = 0 ∧ c.column = [] ∧ ¬ c.kind = 0) := ⟨hl, hc, hk⟩
            clear hl hc hk hcol hss
            go_enter Tryz.func30, Tryz.ntmps30
            go_wp2_with fail
            refine (K1.out _).mono ?_
            rintro e w1 ⟨rfl, hb1⟩
            have F1 := fin w1 hb1
            have d0 := cell_of F1.out.2.1 0
            have d1 := cell_of F1.out.2.1 1
            have d2 := cell_of F1.out.2.1 2
            have d3 := cell_of F1.out.2.1 3
            have d4 := cell_of F1.out.2.1 4
            have d5 := cell_of F1.out.2.1 5
            have e3 := cell_of F1.out.2.2 3
            simp only [List.getElem?_toArray, List.getElem?_cons_succ, List.getElem?_cons_zero] at d0 d1 d2 d3 d4 d5 e3
            clear hb1 fin
            go_wp2_with fail
            go_ret
            exact ⟨ret_bool (by rw [HE.out]; simp [HX.out]), F1.out.1⟩
        · have hcb : (qc.toList == []) = false := by rw [hcol]; exact decide_eq_false hc
          by_cases hk : c.kind = 0
          · have hk1 : (c.kind == 0) = true := by rw [beq_iff_eq]; exact hk
            have HX : Hid (c.loc = 0 ∧ ¬ c.column = [] ∧ c.kind = 0) := ⟨hl, hc, hk⟩
            clear hl hc hk hcol hss
            go_enter Tryz.func30, Tryz.ntmps30
            go_wp2_with fail
            refine (K1.out _).mono ?_
            rintro e w1 ⟨rfl, hb1⟩
            have F1 := fin w1 hb1
            have d0 := cell_of F1.out.2.1 0
            have d1 := cell_of F1.out.2.1 1
            have d2 := cell_of F1.out.2.1 2
            have d3 := cell_of F1.out.2.1 3
            have d4 := cell_of F1.out.2.1 4
            have d5 := cell_of F1.out.2.1 5
            have e3 := cell_of F1.out.2.2 3
            simp only [List.getElem?_toArray, List.getElem?_cons_succ, List.getElem?_cons_zero] at d0 d1 d2 d3 d4 d5 e3
            clear hb1 fin
            go_wp2_with fail
            go_ret
            exact ⟨ret_bool (by rw [HE.out]; simp [HX.out]), F1.out.1⟩
          · have hk1 : (c.kind == 0) = false := by rw [beq_eq_false_iff_ne]; exact hk
            by_cases hk2 : c.kind = 1
            · have HX : Hid (c.loc = 0 ∧ ¬ c.column = [] ∧ c.kind = 1) := ⟨hl, hc, hk2⟩
              have hk3 : (c.kind == 1) = true := by rw [beq_iff_eq]; exact hk2
              clear hl hc hk hk2 hcol
              go_enter Tryz.func30, Tryz.ntmps30
              go_wp2_with fail
              refine (K1.out _).mono ?_
              rintro e w1 ⟨rfl, hb1⟩
              have F1 := fin w1 hb1
              have d0 := cell_of F1.out.2.1 0
              have d1 := cell_of F1.out.2.1 1
              have d2 := cell_of F1.out.2.1 2
              have d3 := cell_of F1.out.2.1 3
              have d4 := cell_of F1.out.2.1 4
              have d5 := cell_of F1.out.2.1 5
              have e3 := cell_of F1.out.2.2 3
              simp only [List.getElem?_toArray, List.getElem?_cons_succ, List.getElem?_cons_zero] at d0 d1 d2 d3 d4 d5 e3
              clear hb1 fin
              go_wp2_with fail
              go_ret
              exact ⟨ret_bool (by rw [HE.out]; simp [HX.out]), F1.out.1⟩
            · have hk3 : (c.kind == 1) = false := by rw [beq_eq_false_iff_ne]; exact hk2
              by_cases hk4 : c.kind = 2
              · have hk5 : (c.kind == 2) = true := by rw [beq_iff_eq]; exact hk4
                by_cases hn : c.n = 0
                · have hn1 : (c.n == 0) = true := by rw [beq_iff_eq]; exact hn
                  have HX : Hid (c.loc = 0 ∧ ¬ c.column = [] ∧ c.kind = 2 ∧ c.n = 0) := ⟨hl, hc, hk4, hn⟩
                  clear hl hc hk hk2 hk4 hn hcol hss
                  go_enter Tryz.func30, Tryz.ntmps30
                  go_wp2_with fail
                  refine (K1.out _).mono ?_
                  rintro e w1 ⟨rfl, hb1⟩
                  have F1 := fin w1 hb1
                  have d0 := cell_of F1.out.2.1 0
                  have d1 := cell_of F1.out.2.1 1
                  have d2 := cell_of F1.out.2.1 2
                  have d3 := cell_of F1.out.2.1 3
                  have d4 := cell_of F1.out.2.1 4
                  have d5 := cell_of F1.out.2.1 5
                  have e3 := cell_of F1.out.2.2 3
                  simp only [List.getElem?_toArray, List.getElem?_cons_succ, List.getElem?_cons_zero] at d0 d1 d2 d3 d4 d5 e3
                  clear hb1 fin
                  go_wp2_with fail
                  go_ret
                  exact ⟨ret_bool (by rw [HE.out]; simp [HX.out, ← HS.out]; omega), F1.out.1⟩
                · have hn1 : (c.n == 0) = false := by rw [beq_eq_false_iff_ne]; exact hn
                  have HX : Hid (c.loc = 0 ∧ ¬ c.column = [] ∧ c.kind = 2 ∧ ¬ c.n = 0) := ⟨hl, hc, hk4, hn⟩
                  clear hl hc hk hk2 hk4 hn hcol hss
                  go_enter Tryz.func30, Tryz.ntmps30
                  go_wp2_with fail
                  refine (K1.out _).mono ?_
                  rintro e w1 ⟨rfl, hb1⟩
                  have F1 := fin w1 hb1
                  have d0 := cell_of F1.out.2.1 0
                  have d1 := cell_of F1.out.2.1 1
                  have d2 := cell_of F1.out.2.1 2
                  have d3 := cell_of F1.out.2.1 3
                  have d4 := cell_of F1.out.2.1 4
                  have d5 := cell_of F1.out.2.1 5
                  have e3 := cell_of F1.out.2.2 3
                  simp only [List.getElem?_toArray, List.getElem?_cons_succ, List.getElem?_cons_zero] at d0 d1 d2 d3 d4 d5 e3
                  clear hb1 fin
                  go_wp2_with fail
                  go_ret
                  exact ⟨ret_bool (by rw [HE.out]; simp [HX.out]), F1.out.1⟩
              · have hk5 : (c.kind == 2) = false := by rw [beq_eq_false_iff_ne]; exact hk4
                have HX : Hid (c.loc = 0 ∧ ¬ c.column = [] ∧ ¬ c.kind = 0 ∧ ¬ c.kind = 1 ∧ ¬ c.kind = 2) := ⟨hl, hc, hk, hk2, hk4⟩
                clear hl hc hk hk2 hk4 hcol hss
                go_enter Tryz.func30, Tryz.ntmps30
                go_wp2_with fail
                refine (K1.out _).mono ?_
                rintro e w1 ⟨rfl, hb1⟩
                have F1 := fin w1 hb1
                have d0 := cell_of F1.out.2.1 0
                have d1 := cell_of F1.out.2.1 1
                have d2 := cell_of F1.out.2.1 2
                have d3 := cell_of F1.out.2.1 3
                have d4 := cell_of F1.out.2.1 4
                have d5 := cell_of F1.out.2.1 5
                have e3 := cell_of F1.out.2.2 3
                simp only [List.getElem?_toArray, List.getElem?_cons_succ, List.getElem?_cons_zero] at d0 d1 d2 d3 d4 d5 e3
                clear hb1 fin
                go_wp2_with fail
                go_ret
                exact ⟨ret_bool (by rw [HE.out]; simp [HX.out]), F1.out.1⟩
      · have hl1 : (c.loc == 0) = false := by rw [beq_eq_false_iff_ne]; exact hl
        have hl2 : (c.loc != 0) = true := by rw [bne, hl1]; rfl
        have HX : Hid (¬ c.loc = 0) := hl
        clear hl hcol hss
        go_enter Tryz.func30, Tryz.ntmps30
        go_wp2_with fail
        refine (K1.out _).mono ?_
        rintro e w1 ⟨rfl, hb1⟩
        have F1 := fin w1 hb1
        have d0 := cell_of F1.out.2.1 0
        have d1 := cell_of F1.out.2.1 1
        have d2 := cell_of F1.out.2.1 2
        have d3 := cell_of F1.out.2.1 3
        have d4 := cell_of F1.out.2.1 4
        have d5 := cell_of F1.out.2.1 5
        have e3 := cell_of F1.out.2.2 3
        simp only [List.getElem?_toArray, List.getElem?_cons_succ, List.getElem?_cons_zero] at d0 d1 d2 d3 d4 d5 e3
        clear hb1 fin
        go_wp2_with fail
        go_ret
        exact ⟨ret_bool (by rw [HE.out]; simp [HX.out]), F1.out.1⟩
    · go_enter Tryz.func30, Tryz.ntmps30
      go_wp2_with fail
      refine (K1.out _).mono ?_
      rintro e w1 ⟨rfl, hb1⟩
      have F1 := fin w1 hb1
      have d0 := cell_of F1.out.2.1 0
      have d1 := cell_of F1.out.2.1 1
      have d2 := cell_of F1.out.2.1 2
      have d3 := cell_of F1.out.2.1 3
      have d4 := cell_of F1.out.2.1 4
      have d5 := cell_of F1.out.2.1 5
      have e3 := cell_of F1.out.2.2 3
      simp only [List.getElem?_toArray, List.getElem?_cons_succ, List.getElem?_cons_zero] at d0 d1 d2 d3 d4 d5 e3
      clear hb1 fin
      go_wp2_with fail
      go_ret
      exact ⟨ret_bool (by rw [HE.out]; simp), F1.out.1⟩
end Cells
end Go.Proofs.YtlcenkkfcejnbaaGreatDoor
