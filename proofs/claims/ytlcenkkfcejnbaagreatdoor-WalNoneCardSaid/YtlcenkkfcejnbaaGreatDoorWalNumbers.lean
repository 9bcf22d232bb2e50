/- wal's numbers: the segments on a disk, rising. -/
import Derived.Test.YtlcenkkfcejnbaaGreatDoorWalNumber
import Derived.Test.YtlcenkkfcejnbaaGreatDoorDiskList
import Derived.Sort.OwnSortedInts
namespace Go.Proofs.YtlcenkkfcejnbaaGreatDoor
open Go.RowKit
open Go.Sort (Holds)
namespace Wal
open Disk (DS Owns Listed ptr)

/-- A slice of numbers that is new. -/
def NewInts (w : World) (l : List Int) (v : Value) (w' : World) : Prop := w'.ownsRow 0 3 1 v l.length (l.map (Value.int .i64)) ∧ Below w.heap.size w w' ∧ ∀ k, v.ownBlock = some k → w.heap.size ≤ k

theorem info_int : ∃ i z, Tryz.prog.info? 3 = some i ∧ i.zero = some z ∧ i.size = 1 ∧ i.bytes = 8 ∧ z.cells.size = 1 := info_of (z := .int .i64 0) (by kernel_rfl) rfl
theorem und_ints : Tryz.prog.underlying 52 = some (.slice 3) := by kernel_rfl

theorem run_append_int (w : World) (v : Value) (xs : List Int) (x : Int) (a : Addr) (c : Nat) (hown : w.ownsRow 0 3 1 v xs.length (xs.map (Value.int .i64))) (hx : w.cell? a = some (.int .i64 x)) (hl : xs.length ≤ 1000000) :
    ∃ v' w', (Builtin.append_ #[52, 52] 52 #[v, .slice (some a) 1 c]).run Tryz.prog w = .ok v' w' ∧ w'.ownsRow 0 3 1 v' (xs ++ [x]).length ((xs ++ [x]).map (Value.int .i64)) ∧ Chg (fun k => v.ownBlock = some k) w w' ∧ SameOrNew w v v' := by
  obtain ⟨v', w', h1, h2, h3, h4⟩ := run_append_lies (P := Tryz.prog) w 52 52 3 1 8 und_ints info_int (by decide) v _ _ hown a 1 c [.int .i64 x] rfl
    (fun j u hj => by
      cases j with
      | zero =>
        simp at hj; subst hj
        have : a.add 0 = a := by
          obtain ⟨b, o, e⟩ := a
          unfold Addr.add; split <;> simp_all
        rw [this]; exact hx
      | succ j => simp at hj)
    (fun u hu => by simp at hu; subst hu; rfl) (by unfold maxLen; omega) (by omega)
  exact ⟨v', w', h1, by simpa using h2, h3, h4⟩

theorem NewInts.push {w wr wb w' : World} {v v' : Value} {l : List Int} {x : Int} (h : NewInts w l v wr) (hb : Below wr.heap.size wr wb) (h2 : w'.ownsRow 0 3 1 v' (l ++ [x]).length ((l ++ [x]).map (Value.int .i64))) (h3 : Chg (fun k => v.ownBlock = some k) wb w') (h4 : SameOrNew wb v v') : NewInts w (l ++ [x]) v' w' := by
  have hb2 : Below w.heap.size w wb := h.2.1.trans (hb.mono h.2.1.size)
  refine ⟨h2, hb2.trans (h3.below hb2.size fun k hk => h.2.2 k hk), fun k hk => ?_⟩
  rcases h4 k hk with h5 | h5
  · exact h.2.2 k h5
  · exact Nat.le_trans hb2.size h5
theorem ints_below {w w' : World} {v : Value} {l : List Int} (h : w.ownsRow 0 3 1 v l.length (l.map (Value.int .i64))) (hb : Below w.heap.size w w') : w'.ownsRow 0 3 1 v l.length (l.map (Value.int .i64)) := by
  refine ⟨h.1, ?_⟩
  rcases h.2 with h | ⟨g, cap, cur, h2, h3, h4, h5⟩
  · exact .inl h
  · have hg : g < w.heap.size := Disk.IsCells.lt ⟨_, _, h4⟩
    exact .inr ⟨g, cap, cur, h2, h3, by rw [hb.block g hg]; exact h4, h5⟩
theorem NewInts.later {w wr w' : World} {v : Value} {l : List Int} (h : NewInts w l v wr) (hb : Below wr.heap.size wr w') : NewInts w l v w' :=
  ⟨ints_below h.1 hb, h.2.1.trans (hb.mono h.2.1.size), h.2.2⟩

def rise (l : List Int) : List Int := l.mergeSort fun x y => decide (x ≤ y)
/-- The segments that a disk has. -/
def numbersOf (σ : DS) : List Int := rise (σ.list.filterMap numberOf)

def SortedInts (w : World) (l : List Int) (v : Value) (e : Ending) (w' : World) : Prop := e = .returned (.tuple #[]) ∧ NewInts w (rise l) v w'

/-- The sort of a slice of numbers that is new since w. -/
theorem SortInts_calls (w w1 : World) (l : List Int) (v : Value) (h : NewInts w l v w1) (hl : l.length ≤ 1000000) : Calls Tryz.prog 78 #[v] w1 (SortedInts w l v) := by
  by_cases h0 : l.length = 0
  · obtain rfl : l = [] := List.length_eq_zero_iff.1 h0
    have hv : ∃ p c, v = .slice p 0 c := by
      rcases h.1.2 with ⟨h1, _⟩ | ⟨g, cap, cur, h1, _⟩
      · exact ⟨_, _, h1⟩
      · exact ⟨_, _, h1⟩
    obtain ⟨p, c, rfl⟩ := hv
    refine (Tryz.slices_Sort_int_none p c w1).mono ?_
    rintro e w' ⟨rfl, rfl⟩
    exact ⟨rfl, by simpa [rise] using h⟩
  · rcases h.1.2 with ⟨h1, h2⟩ | ⟨g, cap, cur, h1, h2, h3, h4, h5, h6, h7⟩
    · exact absurd h2 h0
    · subst h1
      rw [Nat.mul_one] at h7
      have hH := holds_of_blockI h3 h7
      have hg : g < w1.heap.size := Disk.IsCells.lt ⟨_, _, h3⟩
      refine (Tryz.slices_Sort_int g 0 cap l w1 hH hg (by omega)).mono ?_
      rintro e w' ⟨rfl, n, os, rfl⟩
      have hlen : (rise l).length = l.length := by simp [rise]
      refine ⟨rfl, ?_, ?_, h.2.2⟩
      · have := ownsRow_sortedI (n := n) (os := os) (ts := rise l) hlen (Nat.zero_le g) h3 h4 h5 h6
        rw [hlen]; exact this
      · have hgr := grownBy_sortedI (w := w1) (g := g) (n := n) (os := os) (rise l).toArray
        have hc : Chg (· = g) w1 _ := ⟨hgr.os, hgr.tape, hgr.output, hgr.size, fun k hk hn => hgr.block k hk (fun e => hn (Option.some.inj e))⟩
        exact h.2.1.trans (hc.below h.2.1.size fun k e => e ▸ h.2.2 g rfl)

def Numbers (w : World) (l : List Int) (e : Ending) (w' : World) : Prop := ∃ v, e = .returned v ∧ NewInts w l v w'

theorem list_length (σ : DS) : σ.list.length = σ.files.length := by simp [Disk.DS.list]
theorem row_form {w : World} {b e n m : Nat} {v : Value} {xs : List Value} (h : w.ownsRow b e n v m xs) : ∃ a c, v = .slice a m c := by
  rcases h.2 with ⟨h1, h2⟩ | ⟨g, cap, cur, h, _⟩
  · exact ⟨none, 0, by rw [h1, h2]⟩
  · exact ⟨_, _, h⟩
theorem NewInts.nil {w w' : World} (hb : Below w.heap.size w w') : NewInts w [] (.slice none 0 0) w' := ⟨⟨rfl, .inl ⟨rfl, rfl⟩⟩, hb, fun k hk => by simp [Value.ownBlock] at hk⟩
theorem _root_.Go.Proofs.YtlcenkkfcejnbaaGreatDoor.Disk.Owns.most {w : World} {d : Nat} {σ : DS} {F : Nat → Prop} (h : Owns w d σ F) : σ.Wf := by obtain ⟨L, hA, _⟩ := h.at_; exact hA.wf

set_option maxRecDepth 100000 in
set_option maxHeartbeats 800000 in
theorem Numbers_calls (G d : Nat) (σ : DS) (F : Nat → Prop) (w : World) (h : Owns w d σ F) (hd : σ.dark = false) (hlaid : Laid G w) :
    Calls Tryz.prog 46 #[.agg #[ptr d]] w (Numbers w (numbersOf σ)) := by
  have K1 := Lib.hid (fun W hW => Disk.List_calls d σ F W hW hd)
  have HO := Lib.hid h
  have HLD := Lib.hid hlaid
  have hlen : σ.list.length ≤ 48 := by rw [list_length]; exact h.most.most
  have hE : numbersOf σ = rise (σ.list.filterMap numberOf) := rfl
  generalize σ.list = L at K1 hlen hE
  have HE := Lib.hid hE
  clear hE h hlaid hd
  unfold ptr at *
  go_enter Tryz.func46, Tryz.ntmps46
  go_wp2_with fail
  refine (K1.out _ (HO.out.below ((Below.refl _ _).alloc (Nat.le_refl _) _))).mono ?_
  rintro e w1 ⟨v, rfl, hrow, hb1, hnew⟩
  have HB : Hid (Below w.heap.size w w1) := ((Below.refl _ w).alloc (Nat.le_refl _) _).trans (hb1.mono (by simp))
  obtain ⟨va, vc, rfl⟩ := row_form hrow
  have HR := Lib.hid hrow
  clear hb1 hnew hrow
  go_wp2_with fail
  go_loopw [3, 12] (fun o i wx => ∃ k : Nat, i = .int .i64 k ∧ k ≤ L.length ∧ Hid (NewInts w1 ((L.take k).filterMap numberOf) o wx)) (fun _ i _ => L.length - (intOf i).toNat)
  case atStart => exact ⟨0, rfl, Nat.zero_le _, NewInts.nil (Below.refl _ _)⟩
  case round =>
    obtain ⟨k, rfl, hk, HN⟩ := hrel
    by_cases hlt : k < L.length
    · obtain ⟨g, hva, hg, hcell⟩ : ∃ g, va = some ⟨g, 0, none⟩ ∧ g < w1.heap.size ∧ w1.cell? ⟨g, k, none⟩ = some (.string (Disk.str L[k])) := by
        rcases HR.out.2 with ⟨_, h2⟩ | ⟨g, cap, cur, h1, _, h3, _⟩
        · omega
        · simp only [Value.slice.injEq] at h1
          obtain ⟨rfl, _, rfl⟩ := h1
          refine ⟨g, rfl, Disk.IsCells.lt ⟨_, _, h3⟩, ?_⟩
          rw [HR.out.cellAt k (by omega)]
          simp [hlt]
      subst hva
      have hc : wr.cell? ⟨g, k, none⟩ = some (.string (Disk.str L[k])) := by rw [HN.out.2.1.cell (p := ⟨g, k, none⟩) hg]; exact hcell
      have htk : (L.take (k + 1)).filterMap numberOf = (L.take k).filterMap numberOf ++ (numberOf L[k]).toList := by
        rw [List.take_succ_eq_append_getElem hlt, List.filterMap_append]
        congr 1
      have hlx : ((L.take k).filterMap numberOf).length ≤ 1000000 := by
        have := List.length_filterMap_le numberOf (L.take k)
        have := List.length_take_le k L
        omega
      generalize hX : (L.take k).filterMap numberOf = X at HN htk hlx
      have HT := Lib.hid htk
      have K2 := Lib.hid (fun W hW => Number_calls (Disk.str L[k]) W G hW)
      rw [Disk.str_list] at K2
      generalize hs : Disk.str L[k] = s at hc K2
      obtain ⟨ya, yn, yc, rfl⟩ := Disk.row_slice HN.out.1
      clear hcell htk hX hs
      have hL2 := (HLD.out.below HB.out).below HN.out.2.1
      cases hnum : numberOf L[k] with
      | none =>
        rw [hnum] at K2
        have HN0 := Lib.hid hnum
        clear hnum
        go_wp2_with fail
        refine (K2.out _ hL2).mono ?_
        rintro e w2 ⟨rfl, hb2⟩
        go_wp2_with fail
        go_roundw
        case rel => exact ⟨k + 1, by go_num, by omega, by rw [HT.out, HN0.out]; simpa using Lib.hid (HN.out.later hb2)⟩
        case measure => simp [intOf]; omega
      | some x =>
        rw [hnum] at K2
        have HN0 := Lib.hid hnum
        clear hnum
        go_wp2_with fail
        refine (K2.out _ hL2).mono ?_
        rintro e w2 ⟨rfl, hb2⟩
        have hbx : Below w2.heap.size w2 (w2.alloc (.cells #[.int .i64 x] 3)) := (Below.refl _ _).alloc (Nat.le_refl _) _
        have hb3 := hb2.trans (hbx.mono hb2.size)
        obtain ⟨v', w3, hap, hr3, hc3, hl3⟩ := run_append_int _ _ X x ⟨w2.heap.size, 0, none⟩ 1 (ints_below HN.out.1 hb3) (cell_of (heap_alloc_new w2 _) 0) hlx
        have HP := Lib.hid (HN.out.push hb3 hr3 hc3 hl3)
        clear hr3 hc3 hl3 hbx hb3
        obtain ⟨za, zn, zc, rfl⟩ := Disk.row_slice HP.out.1
        go_wp2_with (at_builtin; refine wpList_append_run rfl (.tmp 22) (.tmp 24) 52 rfl _ _ _ _ rfl rfl hap ?_)
        go_roundw
        case rel => exact ⟨k + 1, by go_num, by omega, by rw [HT.out, HN0.out]; exact HP⟩
        case measure => simp [intOf]; omega
    · have hke : k = L.length := by omega
      subst hke
      have hN := HN.out
      rw [List.take_length] at hN
      have hlx : (L.filterMap numberOf).length ≤ 1000000 := by
        have := List.length_filterMap_le numberOf L
        omega
      have K3 := Lib.hid (SortInts_calls w1 wr _ _ hN hlx)
      obtain ⟨ya, yn, yc, rfl⟩ := Disk.row_slice HN.out.1
      clear hN
      go_wp2_with fail
      refine K3.out.mono ?_
      rintro e w3 ⟨rfl, hn3⟩
      go_wp2_with fail
      go_ret
      rw [HE.out]
      exact ⟨_, rfl, hn3.1, HB.out.trans (hn3.2.1.mono HB.out.size), fun k hk => Nat.le_trans HB.out.size (hn3.2.2 k hk)⟩
end Wal
end Go.Proofs.YtlcenkkfcejnbaaGreatDoor
