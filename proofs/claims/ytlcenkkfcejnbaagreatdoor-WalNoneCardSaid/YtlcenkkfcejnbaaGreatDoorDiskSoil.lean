/- What soil makes of a disk: the sectors of a file's bytes from one on are dirty. -/
import Derived.Test.YtlcenkkfcejnbaaGreatDoorDiskCrash
import Derived.Test.YtlcenkkfcejnbaaGreatDoorAppend
import Derived.RegionCalls
import Derived.Deep.RegionWith
namespace Go.Proofs.YtlcenkkfcejnbaaGreatDoor
open Go.RowKit
namespace Disk

/-- A further mark stands at the line's end. -/
def DS.mark (σ : DS) (id n : Nat) : DS := { σ with line := if (id, n) ∈ σ.line then σ.line else σ.line ++ [(id, n)] }

theorem soilTo_step (line : List (Nat × Nat)) (id n k : Nat) : soilTo line id n (k + 1) = soilTo (if (id, n) ∈ line then line else line ++ [(id, n)]) id (n + 1) k := rfl

theorem mem_blocks {w : World} {d : Nat} {σ : DS} {L : Lay} (h : DiskAt w d σ L) {f : File} (hf : f ∈ σ.files) (n : Nat) : ((L.blk f.id, n) ∈ L.blocks σ.line) ↔ (f.id, n) ∈ σ.line := by
  constructor
  · intro hm
    obtain ⟨⟨i, n'⟩, h1, h2⟩ := List.mem_map.1 hm
    simp only [Prod.mk.injEq] at h2
    obtain ⟨g, hg, hi, _⟩ := h.wf.dirty _ h1
    simp only at hi
    rw [← hi] at h1 h2
    have := h.blks g hg f hf h2.1
    rw [← this, ← h2.2]; exact h1
  · intro hm; exact List.mem_map.2 ⟨_, hm, rfl⟩

theorem newRow_cells (w : World) (c : List Value) (T : TypeId) : ∀ j u, c[j]? = some u → ((w.alloc (.cells c.toArray T)).drew).cell? ((⟨w.heap.size, 0, none⟩ : Addr).add j) = some u := by
  intro j u h
  have hadd : (⟨w.heap.size, 0, none⟩ : Addr).add j = ⟨w.heap.size, j, none⟩ := by unfold Addr.add; split <;> simp_all
  have : ((w.alloc (.cells c.toArray T)).drew).heap[w.heap.size]? = some (.cells c.toArray T (0, 0)) := by show (w.heap.push _)[w.heap.size]? = _; simp
  rw [hadd, cell_of this]
  simpa using h

theorem markStep {wc wn w3 : World} {d : Nat} {σ : DS} {L : Lay} {f : File} {n : Nat} (h : DiskAt wc d σ L) (hf : f ∈ σ.files) (hn : n < sectors f.all.length) (hm : (f.id, n) ∉ σ.line)
    (hb : Below wc.heap.size wc wn) {a : Option Addr} {k c : Nat} (hch : Chg (fun k => L.line.ownBlock = some k) wn w3) (hlie : SameOrNew wn L.line (.slice a k c)) (hsz : wc.heap.size ≤ wn.heap.size)
    (hrow : w3.ownsRow 0 105 2 (.slice a k c) (σ.line.length + 1) (L.marks σ.line ++ [.pointer (some ⟨L.blk f.id, 0, none⟩), .int .i64 n])) :
    Step wc d σ L { σ with line := σ.line ++ [(f.id, n)] } { L with line := .slice a k c } (w3.setCell ⟨d, 2, none⟩ (.slice a k c)) := by
  have hB := h.below hb
  have hdl : L.line.ownBlock ≠ some d := fun e => by
    obtain ⟨cur, hc⟩ := h.line_block e
    rw [h.self] at hc; simp at hc
  have hd : w3.heap[d]? = wc.heap[d]? := by rw [hch.block d (hB.lt d (.inl rfl)) hdl, hb.block d (h.lt d (.inl rfl))]
  have hset := set_block (hd.trans h.self) 2 (.slice a k c)
  have hD : DiskAt (w3.setCell ⟨d, 2, none⟩ (.slice a k c)) d { σ with line := σ.line ++ [(f.id, n)] } { L with line := .slice a k c } := by
    refine hB.put (σ' := { σ with line := σ.line ++ [(f.id, n)] }) _ rfl rfl rfl hset (fun i hi hil hif => ?_) ?_ ?_ ?_
    · rw [Below.heap_setCell _ _ _ _ hi, hch.block i (hB.lt i hif) hil]
    · have hr : (σ.line ++ [(f.id, n)]).length = σ.line.length + 1 := by simp
      have hx : L.marks (σ.line ++ [(f.id, n)]) = L.marks σ.line ++ [.pointer (some ⟨L.blk f.id, 0, none⟩), .int .i64 n] := by simp [Lay.marks, ptr]
      show World.ownsRow _ _ _ _ _ (σ.line ++ [(f.id, n)]).length (L.marks (σ.line ++ [(f.id, n)]))
      rw [hr, hx]
      refine ownsRow_keep hrow fun i hi => Below.heap_setCell _ _ _ _ fun e => ?_
      have e' : i = d := e
      rcases hlie i hi with h1 | h1
      · exact hdl (e' ▸ h1)
      · have := h.lt d (.inl rfl); omega
    · show (σ.line ++ [(f.id, n)]).Nodup
      rw [List.nodup_append]
      refine ⟨h.wf.line, by simp, fun x hx y hy e => ?_⟩
      simp at hy
      exact hm (by rw [← hy, ← e]; exact hx)
    · intro m hm'
      have hm'' : m ∈ σ.line ++ [(f.id, n)] := hm'
      rcases List.mem_append.1 hm'' with h1 | h1
      · exact h.wf.dirty m h1
      · simp at h1
        exact ⟨f, hf, by rw [h1], by rw [h1]; exact hn⟩
  refine ⟨hD, rfl, ?_, ?_⟩
  · rintro i hi (h1 | h1 | h1 | h1)
    · exact .inl h1
    · exact .inr (.inl h1)
    · rcases hlie i h1 with h2 | h2
      · exact .inr (.inr (.inl h2))
      · omega
    · exact .inr (.inr (.inr h1))
  · exact ((Chg.of_below hb).then (hch.mono fun i _ e => (show L.foot d σ.files i from .inr (.inr (.inl e)))) (fun _ _ h => h)).setCell (fun _ => .inl rfl) _

set_option maxRecDepth 100000 in
set_option maxHeartbeats 1000000 in
theorem Soil_calls (d : Nat) (σ : DS) (L : Lay) (f : File) (from_ : Nat) (w : World) (h : DiskAt w d σ L) (hf : f ∈ σ.files) (hfr : from_ ≤ f.all.length) :
    Calls Tryz.prog 74 #[ptr d, ptr (L.blk f.id), .int .i64 from_] w fun e w' => e = .returned (.tuple #[]) ∧ ∃ L', Step w d σ L (σ.soil f.id f.all.length from_) L' w' := by
  obtain ⟨pa, pc, hl1, hl2, hl3, hpg⟩ := h.page_cells hf
  have hus := h.wf.used_le
  have hsf : sectors f.all.length + 1 ≤ used σ.files := by have := used_erase hf; omega
  have hfs : from_ / 16 ≤ sectors f.all.length := by unfold sectors; omega
  have hfb : from_ ≤ 9223372036854775807 := by unfold maxLen at hl2; omega
  unfold ptr
  go_enter Tryz.func74, Tryz.ntmps74
  go_wp2_with fail
  go_loopg [6, 7] (sectors f.all.length - from_ / 16) (fun gk i _ wr => ∃ (n : Nat) (l : List (Nat × Nat)) (L1 : Lay), i = .int .i64 n ∧ gk = sectors f.all.length - n ∧ n ≤ sectors f.all.length ∧ L1.blk = L.blk ∧ L1.arr = L.arr ∧ Hid (Step w d σ L { σ with line := l } L1 wr) ∧ Hid (soilTo l f.id n (sectors f.all.length - n) = soilTo σ.line f.id (from_ / 16) (sectors f.all.length - from_ / 16)))
  case atStart =>
    exact ⟨from_ / 16, σ.line, L, by go_num, rfl, hfs, rfl, rfl, Step.refl h, rfl⟩
  case round =>
    obtain ⟨n, l, L1, rfl, hgk, hn, hbk, har, hst, hso⟩ := hrel
    have hA := hst.out.at_
    have hpg1 : wr.heap[L.blk f.id]? = some (.cells #[.slice pa f.all.length pc, .int .i64 f.written] 107 (0, 0)) := by
      have := (hA.pages f hf).self
      rw [hbk, har, hl1] at this; exact this
    have x0 := cell_of hpg1 0
    simp only [List.getElem?_toArray, List.getElem?_cons_zero] at x0
    have HG := Lib.hid hgk
    have HB := Lib.hid hbk
    have HR := Lib.hid har
    have HP := Lib.hid hpg1
    have HA := Lib.hid hA
    have hst' := Lib.hid hst.out
    have HL1 := Lib.hid hl1
    clear hgk hbk har hpg1 hA hst hl1 hpg
    by_cases hlt : n < sectors f.all.length
    · go_wp2_with (first | (go_at_call 70; refine (Sectors_calls f.all.length _ hl2).mono ?_; rintro e w' ⟨rfl, rfl⟩))
      generalize hwa : wr.alloc (.cells #[.pointer (some ⟨L.blk f.id, 0, none⟩), .int .i64 n] 105) = wa
      have hbw : Below wr.heap.size wr wa := by rw [← hwa]; exact (Below.refl _ _).alloc (Nat.le_refl _) _
      have hbx : wa.heap[wr.heap.size]? = some (.cells #[.pointer (some ⟨L.blk f.id, 0, none⟩), .int .i64 n] 105 (0, 0)) := by
        rw [← hwa]; show (wr.heap.push _)[wr.heap.size]? = _; simp
      have hszw : wr.heap.size < wa.heap.size := IsCells.lt ⟨_, _, hbx⟩
      have hB := HA.out.below hbw
      have b0 := cell_of hbx 0
      have b1 := cell_of hbx 1
      have d2 := hB.cell 2
      simp only [List.getElem?_toArray, List.getElem?_cons_succ, List.getElem?_cons_zero] at b0 b1 d2
      obtain ⟨la, lc, hln, hlc, _, _⟩ := line_value hB
      rw [hln] at d2
      have key : Hid (∀ W, Below wa.heap.size wa W → Calls Tryz.prog 104 #[.slice la l.length lc, .agg #[.pointer (some ⟨L.blk f.id, 0, none⟩), .int .i64 n]] W fun e w' => e = .returned (.bool (decide ((f.id, n) ∈ l))) ∧ Below wa.heap.size wa w') := by
        intro W hW
        have hBW := hB.below hW
        have := ContainsMark_calls L1.line (L.blk f.id) n (L1.blocks l) W hBW.lineAt (by rw [← HB.out]; exact hBW.page hf)
        rw [hln] at this
        refine this.mono ?_
        rintro e w1 ⟨rfl, hb1⟩
        refine ⟨ret_bool ?_, hW.trans (hb1.mono hW.size)⟩
        have := mem_blocks hBW hf n
        rw [HB.out] at this
        simp only [decide_eq_decide]
        exact this
      have HW := Lib.hid hwa
      have HX := Lib.hid hbx
      have HBB := Lib.hid hB
      have HLN := Lib.hid hln
      clear hwa hbx hB hln
      go_cut [29] (fun s wx => s = .bool (!decide ((f.id, n) ∈ l)) ∧ Below wa.heap.size wa wx)
      case first =>
        go_region_with (go_at_call 104; refine (key.out _ (by first | exact Below.refl _ _ | exact bdrewN _ (Below.refl _ _) | exact (Below.refl _ _).drew)).mono ?_; rintro e w2 ⟨rfl, hb2⟩)
        all_goals (go_wp2_with fail)
        all_goals
          go_meet
          exact ⟨rfl, hb2⟩
      case rest =>
        obtain ⟨rfl, hb2⟩ := hcut
        have hB2 := HBB.out.below hb2
        have hso' := hso.out
        rw [show sectors f.all.length - n = (sectors f.all.length - (n + 1)) + 1 by omega, soilTo_step] at hso'
        have hS2 : Step w d σ L { σ with line := l } L1 wc := by
          have h0 : Step wr d { σ with line := l } L1 { σ with line := l } L1 wc := Step.below HA.out ((by rw [← HW.out]; exact (Below.refl _ _).alloc (Nat.le_refl _) _ : Below wr.heap.size wr wa).trans (hb2.mono hbw.size))
          exact hst'.out.trans h0
        by_cases hmem : (f.id, n) ∈ l
        · rw [if_pos hmem] at hso'
          rw [show decide ((f.id, n) ∈ l) = true from decide_eq_true hmem]
          have HMM := Lib.hid hmem
          clear hmem
          have HSO := Lib.hid hso'
          have HS2 := Lib.hid hS2
          clear hso' hS2
          go_wp2_with fail
          go_roundg (sectors f.all.length - (n + 1))
          case measure => rw [HG.out]; omega
          case rel => exact ⟨n + 1, l, L1, by go_num, rfl, by omega, HB.out, HR.out, HS2, HSO⟩
        · rw [if_neg hmem] at hso'
          rw [show decide ((f.id, n) ∈ l) = false from decide_eq_false hmem]
          have HMM := Lib.hid hmem
          clear hmem
          have hd2 := hB2.cell 2
          simp only [List.getElem?_toArray, List.getElem?_cons_succ, List.getElem?_cons_zero] at hd2
          rw [HLN.out] at hd2
          have hbx2 : wc.heap[wr.heap.size]? = some (.cells #[.pointer (some ⟨L.blk f.id, 0, none⟩), .int .i64 n] 105 (0, 0)) := by rw [hb2.block _ hszw]; exact HX.out
          have c0 := cell_of hbx2 0
          have c1 := cell_of hbx2 1
          simp only [List.getElem?_toArray, List.getElem?_cons_succ, List.getElem?_cons_zero] at c0 c1
          have hdl := hB2.lt d (.inl rfl)
          have hxl : wr.heap.size < wc.heap.size := IsCells.lt ⟨_, _, hbx2⟩
          have hll : l.length ≤ 1073741824 := hB2.wf.line_len
          have hrow : ((wc.alloc (.cells #[.pointer (some ⟨L.blk f.id, 0, none⟩), .int .i64 n] 105)).drew).ownsRow 0 105 2 (.slice la l.length lc) l.length (L1.marks l) := by
            have := hB2.line
            rw [HLN.out] at this
            exact this.alloc _
          obtain ⟨v', w3, hap, hrow3, hch3, hlie3⟩ := run_append_lies (P := Tryz.prog) _ 99 99 105 2 16 (by kernel_rfl) (info_of (z := .agg #[.pointer none, .int .i64 0]) (by kernel_rfl) rfl) (by decide) _ _ _ hrow
            ⟨wc.heap.size, 0, none⟩ 1 1 [.pointer (some ⟨L.blk f.id, 0, none⟩), .int .i64 n] rfl (newRow_cells _ _ _ ) (by intro u hu; simp at hu; rcases hu with rfl | rfl <;> rfl) (by unfold maxLen; omega) (by omega)
          obtain ⟨va, vn, vc, rfl⟩ := row_slice hrow3
          have hdl2 : (Value.slice la l.length lc).ownBlock ≠ some d := fun e => by
            rw [← HLN.out] at e
            obtain ⟨cur, hc⟩ := hB2.line_block e
            rw [hB2.self] at hc; simp at hc
          have hd3 : w3.heap[d]? = wc.heap[d]? := by
            rw [hch3.block d (by simp; omega) hdl2]
            exact Below.heap_alloc _ _ _ hdl
          rw [hB2.self] at hd3
          have e2 := cell_of hd3 2
          have e3 := free_of hd3 2
          simp only [List.getElem?_toArray, List.getElem?_cons_succ, List.getElem?_cons_zero] at e2
          have hfin : Hid (Step w d σ L { σ with line := l ++ [(f.id, n)] } { L1 with line := .slice va vn vc } (w3.setCell ⟨d, 2, none⟩ (.slice va vn vc))) := by
            refine hS2.trans (markStep (σ := { σ with line := l }) (wn := (wc.alloc (.cells #[.pointer (some ⟨L.blk f.id, 0, none⟩), .int .i64 n] 105)).drew) hB2 hf hlt HMM.out (((Below.refl _ _).alloc (Nat.le_refl _) _).drew) ?_ ?_ (by simp) ?_)
            · rw [HLN.out]; exact hch3
            · rw [HLN.out]; exact hlie3
            · rw [HB.out]; exact hrow3
          have HSO := Lib.hid hso'
          clear hso'
          have HR3 := Lib.hid hrow3
          have HL3 := Lib.hid hlie3
          have HD3 := Lib.hid hd3
          have HROW := Lib.hid hrow
          clear hrow3 hlie3 hd3 hrow hbx2
          go_wp2_with fail
          go_region_law (refine step_append_run rfl (.tmp 34) (.tmp 36) 99 rfl _ _ _ _ rfl rfl hap ?_)
          all_goals (go_wp2_with fail)
          all_goals (go_roundg (sectors f.all.length - (n + 1)))
          all_goals first
            | (rw [HG.out]; omega)
            | (refine ⟨n + 1, l ++ [(f.id, n)], { L1 with line := .slice va vn vc }, by go_num, rfl, by omega, HB.out, HR.out, hfin, HSO⟩)
    · have hke : n = sectors f.all.length := by omega
      have hso' := hso.out
      rw [hke, Nat.sub_self] at hso'
      have hso'' : l = soilTo σ.line f.id (from_ / 16) (sectors f.all.length - from_ / 16) := hso'
      have HSO := Lib.hid hso''
      clear hso' hso'' hke
      go_wp2_with (first | (go_at_call 70; refine (Sectors_calls f.all.length _ hl2).mono ?_; rintro e w' ⟨rfl, rfl⟩))
      go_end0
      refine ⟨rfl, L1, ?_⟩
      have := hst'.out
      rw [HSO.out] at this
      exact this
end Disk
end Go.Proofs.YtlcenkkfcejnbaaGreatDoor
