/- wal.Record. -/
import Derived.Test.YtlcenkkfcejnbaaGreatDoorCellGood
import Derived.Test.YtlcenkkfcejnbaaGreatDoorCodecCells
import Derived.Test.YtlcenkkfcejnbaaGreatDoorCodecFrame
import Derived.Test.YtlcenkkfcejnbaaGreatDoorWalName
namespace Go.Proofs.YtlcenkkfcejnbaaGreatDoor
open Go.RowKit
namespace Wal
open Codec (Cell CellsAt cellV frame cells Framed put put_len)
open Cells (cgood CGood_calls)
open Disk (NewBytes)


theorem _root_.Go.Proofs.YtlcenkkfcejnbaaGreatDoor.Codec.CellsAt.below {w w' : World} {v : Value} {l : List Cell} (h : CellsAt w v l) (hb : Below w.heap.size w w') : CellsAt w' v l := by
  rcases h with h | ⟨g, off, c, h1, h2, h3, h4⟩
  · exact .inl h
  · exact .inr ⟨g, off, c, h1, Nat.lt_of_lt_of_le h2 hb.size, h3, fun i hi j x hj => by rw [hb.cell (p := ⟨g, off + i * 10 + j, none⟩) h2]; exact h4 i hi j x hj⟩

def cbad (c : Cell) : Bool := !cgood c

set_option maxHeartbeats 400000 in
theorem RecordBad_calls (c : Cell) (w : World) :
    Calls Tryz.prog 32 #[.agg (cellV c).toArray] w fun e w' => e = .returned (.bool (cbad c)) ∧ Below w.heap.size w w' := by
  have K1 := Lib.hid (fun W => CGood_calls c W)
  simp only [cellV] at K1
  simp only [cellV]
  go_enter Tryz.func32, Tryz.ntmps32
  go_wp2_with fail
  refine (K1.out _).mono ?_
  rintro e w1 ⟨rfl, hb1⟩
  go_wp2_with fail
  go_ret
  exact ⟨ret_bool rfl, ((Below.refl _ w).alloc (Nat.le_refl _) _).trans (hb1.mono (by simp))⟩

def FoundC (l : List Cell) (e : Ending) : Prop := ∃ n : Int, e = .returned (.int .i64 n) ∧ (0 ≤ n ↔ l.any cbad = true) ∧ -1 ≤ n ∧ n ≤ 9223372036854775807

set_option maxRecDepth 100000 in
set_option maxHeartbeats 800000 in
theorem IndexCBad_calls (v : Value) (l : List Cell) (w : World) (h : CellsAt w v l) (hl : l.length ≤ 1000000) :
    Calls Tryz.prog 56 #[v, .func (.func 32) #[] #[]] w fun e w' => FoundC l e ∧ Below w.heap.size w w' := by
  have HC := Lib.hid h
  obtain ⟨va, vc, rfl⟩ := h.form
  clear h
  go_enter Tryz.func56, Tryz.ntmps56
  go_wp2
  go_loopw [5, 8] (fun _ i wr => ∃ k : Nat, k ≤ l.length ∧ i = .int .i64 k ∧ Below w.heap.size w wr ∧ Hid ((l.take k).any cbad = false)) (fun _ i _ => l.length - (intOf i).toNat)
  case atStart => exact ⟨0, Nat.zero_le _, rfl, Below.refl _ _, by show _ = _; simp⟩
  case round =>
    obtain ⟨k, hk, rfl, hb, hn⟩ := hrel
    by_cases hlt : k < l.length
    · obtain ⟨g, off, hva, hg, hcell⟩ : ∃ g off, va = some ⟨g, off, none⟩ ∧ g < w.heap.size ∧ ∀ j x, (cellV l[k])[j]? = some x → w.cell? ⟨g, off + k * 10 + j, none⟩ = some x := by
        rcases HC.out with ⟨a, c, h1, h2⟩ | ⟨g, off, c, h1, h2, _, h3⟩
        · rw [h2] at hlt; cases hlt
        · simp only [Value.slice.injEq] at h1
          exact ⟨g, off, h1.1, h2, h3 k hlt⟩
      subst hva
      have hany : (l.take (k + 1)).any cbad = ((l.take k).any cbad || cbad l[k]) := by
        rw [List.take_succ_eq_append_getElem hlt, List.any_append, List.any_cons, List.any_nil, Bool.or_false]
      rw [hn.out, Bool.false_or] at hany
      have HA := Lib.hid hany
      have hmem := List.getElem_mem hlt
      generalize hcc : l[k] = c at hcell HA hmem
      have hwr : ∀ j x, (cellV c)[j]? = some x → wr.cell? ⟨g, off + k * 10 + j, none⟩ = some x := fun j x hj => by rw [hb.cell (p := ⟨g, off + k * 10 + j, none⟩) hg]; exact hcell j x hj
      have c0 : wr.cell? ⟨g, off + k * 10, none⟩ = _ := hwr 0 _ rfl
      have c1 := hwr 1 _ rfl
      have c2 := hwr 2 _ rfl
      have c3 := hwr 3 _ rfl
      have c4 := hwr 4 _ rfl
      have c5 := hwr 5 _ rfl
      have c6 := hwr 6 _ rfl
      have c7 := hwr 7 _ rfl
      have c8 := hwr 8 _ rfl
      have c9 := hwr 9 _ rfl
      have K1 := Lib.hid (fun W => RecordBad_calls c W)
      simp only [cellV] at K1
      clear hwr hcell hcc hany hn
      cases hbad : cbad c
      · have HB := Lib.hid hbad
        clear hbad
        go_wp2_with fail
        refine (K1.out _).mono ?_
        rintro e w1 ⟨rfl, hb1⟩
        rw [HB.out]
        go_wp2_with fail
        go_roundw
        case rel => exact ⟨k + 1, by omega, by go_num, hb.trans (hb1.mono hb.size), by show _ = _; rw [HA.out, HB.out]⟩
        case measure => simp [intOf]; omega
      · have HB := Lib.hid hbad
        clear hbad
        go_wp2_with fail
        refine (K1.out _).mono ?_
        rintro e w1 ⟨rfl, hb1⟩
        rw [HB.out]
        go_wp2_with fail
        go_ret
        refine ⟨⟨k, rfl, ?_, by omega, by omega⟩, hb.trans (hb1.mono hb.size)⟩
        have : l.any cbad = true := List.any_eq_true.2 ⟨c, hmem, HB.out⟩
        simp [this]
    · have hke : k = l.length := by omega
      subst hke
      go_wp2
      go_ret
      refine ⟨⟨-1, rfl, ?_, by omega, by omega⟩, hb⟩
      have := hn.out
      rw [List.take_length] at this
      rw [this]; simp

set_option maxHeartbeats 400000 in
theorem ContainsCBad_calls (v : Value) (l : List Cell) (w : World) (h : CellsAt w v l) (hl : l.length ≤ 1000000) :
    Calls Tryz.prog 31 #[v, .func (.func 32) #[] #[]] w fun e w' => e = .returned (.bool (l.any cbad)) ∧ Below w.heap.size w w' := by
  go_enter Tryz.func31, Tryz.ntmps31
  go_wp2_with (first | (go_at_call 56; refine (IndexCBad_calls v l _ h hl).mono ?_; rintro e w1 ⟨⟨n, rfl, hn0, h1, h2⟩, hb1⟩; have hn := Lib.hid hn0; clear hn0))
  go_ret
  refine ⟨ret_bool ?_, hb1⟩
  rw [Bool.eq_iff_iff, decide_eq_true_eq]
  exact hn.out

/-- Cells as one record; and the error. -/
def record (l : List Cell) : Bytes × Int :=
  if l.length = 0 ∨ 400 < l.length then ([], 2) else if l.any cbad then ([], 2)
  else if 262144 < (cells l).length then ([], 7) else (frame (cells l), 0)

def RecRes (w : World) (r : Bytes × Int) (e : Ending) (w' : World) : Prop := ∃ v, e = .returned (.tuple #[v, .int .i64 r.2]) ∧ NewBytes w r.1 v w'

theorem NewBytes.nil {w w' : World} (hb : Below w.heap.size w w') : NewBytes w [] (.slice none 0 0) w' := ⟨⟨rfl, .inl ⟨rfl, rfl⟩⟩, hb, fun k hk => by simp [Value.ownBlock] at hk⟩

set_option maxHeartbeats 800000 in
theorem Record_calls (v : Value) (l : List Cell) (w : World) (h : CellsAt w v l) (hf : ∀ c ∈ l, c.Fits) (hlen : l.length ≤ maxLen) (hl : l.length ≤ 400 → l.any cbad = false → (cells l).length ≤ 140737488354000) :
    Calls Tryz.prog 9 #[v] w (RecRes w (record l)) := by
  unfold maxLen at hlen
  by_cases h0 : l.length = 0
  · have HE : Hid (record l = ([], 2)) := by show _ = _; unfold record; rw [if_pos (.inl h0)]
    obtain ⟨va, vc, rfl⟩ := h.form
    rw [h0] at *
    go_enter Tryz.func9, Tryz.ntmps9
    go_wp2_with fail
    go_ret2
    rw [HE.out]
    exact ⟨_, rfl, NewBytes.nil (Below.refl _ _)⟩
  · by_cases h4 : 400 < l.length
    · have HE : Hid (record l = ([], 2)) := by show _ = _; unfold record; rw [if_pos (.inr h4)]
      obtain ⟨va, vc, rfl⟩ := h.form
      have hi : ((l.length : Int) == 0) = false := by rw [beq_eq_false_iff_ne]; omega
      have hi2 : (400 : Int) < l.length := by omega
      clear h h0 h4
      go_enter Tryz.func9, Tryz.ntmps9
      go_wp2_with fail
      go_ret2
      rw [HE.out]
      exact ⟨_, rfl, NewBytes.nil (Below.refl _ _)⟩
    · have K1 := Lib.hid (fun W hW => ContainsCBad_calls v l W hW (by omega))
      have HC := Lib.hid h
      obtain ⟨va, vc, rfl⟩ := h.form
      have hi : ((l.length : Int) == 0) = false := by rw [beq_eq_false_iff_ne]; omega
      have hi2 : ¬ (400 : Int) < l.length := by omega
      cases hany : l.any cbad
      · have HA := Lib.hid hany
        rw [hany] at K1
        have hcl := hl (by omega) hany
        have K2 := Lib.hid (fun W hW => Codec.Cells_calls (.slice va l.length vc) l W hW hf hcl (by omega))
        have hrec : record l = if 262144 < (cells l).length then ([], 7) else (frame (cells l), 0) := by
          unfold record; rw [if_neg (by omega), hany]; rfl
        have HR := Lib.hid hrec
        clear h h0 h4 hl hany hrec hf
        go_enter Tryz.func9, Tryz.ntmps9
        go_wp2_with fail
        refine (K1.out _ HC.out).mono ?_
        rintro e w1 ⟨rfl, hb1⟩
        have hc1 := HC.out.below hb1
        go_wp2_with fail
        refine (K2.out _ hc1).mono ?_
        rintro e w2 ⟨v2, rfl, hn2⟩
        have hbt := Codec.BytesAt.of_row' hn2.1
        have K3 := Lib.hid (Codec.Frame_calls v2 _ w2 hbt hcl)
        obtain ⟨xa, xc, rfl⟩ := hbt.form
        have HN2 := Lib.hid hn2
        by_cases hbig : 262144 < (cells l).length
        · have HE : Hid (record l = ([], 7)) := by show _ = _; rw [HR.out, if_pos hbig]
          have hi3 : (262144 : Int) < (cells l).length := by omega
          clear hn2 hbt hc1 hbig hcl
          go_wp2_with fail
          go_ret2
          rw [HE.out]
          exact ⟨_, rfl, NewBytes.nil (hb1.trans (HN2.out.2.1.mono hb1.size))⟩
        · have HE : Hid (record l = (frame (cells l), 0)) := by show _ = _; rw [HR.out, if_neg hbig]
          have hi3 : ¬ (262144 : Int) < (cells l).length := by omega
          clear hn2 hbt hc1 hbig hcl
          go_wp2_with fail
          refine K3.out.mono ?_
          rintro e w3 ⟨v3, rfl, hn3⟩
          obtain ⟨ya, yn, yc, rfl⟩ := Disk.row_slice hn3.1
          go_wp2_with fail
          go_ret2
          rw [HE.out]
          have hb2 := hb1.trans (HN2.out.2.1.mono hb1.size)
          exact ⟨_, rfl, hn3.1, hb2.trans (hn3.2.1.mono hb2.size), fun k hk => Nat.le_trans hb2.size (hn3.2.2 k hk)⟩
      · have HE : Hid (record l = ([], 2)) := by show _ = _; unfold record; rw [if_neg (by omega), if_pos hany]
        rw [hany] at K1
        clear h h0 h4 hl hany
        go_enter Tryz.func9, Tryz.ntmps9
        go_wp2_with fail
        refine (K1.out _ HC.out).mono ?_
        rintro e w1 ⟨rfl, hb1⟩
        go_wp2_with fail
        go_ret2
        rw [HE.out]
        exact ⟨_, rfl, NewBytes.nil hb1⟩
end Wal
end Go.Proofs.YtlcenkkfcejnbaaGreatDoor
