/- wal.Open: of no disk; of a disk without segments. -/
import Derived.Test.YtlcenkkfcejnbaaGreatDoorWalRoll
import Derived.Test.YtlcenkkfcejnbaaGreatDoorDiskRead
namespace Go.Proofs.YtlcenkkfcejnbaaGreatDoor
open Go.RowKit
namespace Wal
open Disk (DS Owns Moves ptr Plan)

set_option maxHeartbeats 400000 in
theorem Read_nil (s : ByteArray) (w : World) : Calls Tryz.prog 48 #[.pointer none, .string s] w fun e w' => e = .returned (.tuple #[.slice none 0 0, .int .i64 1]) ∧ Below w.heap.size w w' := by
  go_enter Tryz.func48, Tryz.ntmps48
  go_wp2_with fail
  refine (Disk.Fault_nil _ _ _).mono ?_
  rintro e w1 ⟨rfl, rfl⟩
  go_wp2_with fail
  go_ret2
  exact ⟨rfl, (Below.refl _ _).alloc (Nat.le_refl _) _⟩

set_option maxRecDepth 100000 in
set_option maxHeartbeats 400000 in
theorem Open_nil (n : Int) (w : World) : Calls Tryz.prog 20 #[.pointer none, .int .i64 n] w fun e w' => e = .returned (.tuple #[.pointer none, .slice none 0 0, .int .i64 1]) ∧ Below w.heap.size w w' := by
  have K1 := Lib.hid (fun W => Read_nil ⟨#[45]⟩ W)
  go_enter Tryz.func20, Tryz.ntmps20
  go_wp2_with fail
  refine (K1.out _).mono ?_
  rintro e w1 ⟨rfl, hb1⟩
  go_wp2_with fail
  go_ret3
  exact ⟨rfl, ((Below.refl _ w).alloc (Nat.le_refl _) _).trans (hb1.mono (by simp))⟩

def Opened (G : Nat) (w : World) (d : Nat) (F : Nat → Prop) (s' : LS) (e : Ending) (w' : World) : Prop :=
  ∃ l, e = .returned (.tuple #[ptr l, .slice none 0 0, .int .i64 0]) ∧ w.heap.size ≤ l ∧ Chg F w w' ∧ ∃ F', LogAt G w' l d s' F' ∧ ∀ k, k < w.heap.size → F' k → F k

set_option maxRecDepth 100000 in
set_option maxHeartbeats 2000000 in
theorem Open0_calls (G : Nat) (d : Nat) (σ : DS) (F : Nat → Prop) (from_ : Int) (w : World) (h : Owns w d σ F) (hlaid : Laid G w) (hhigh : ∀ k, F k → G ≤ k) (hp : Plan σ) (hd : σ.dark = false) (h0 : numbersOf σ = [])
    (hf1 : 1 ≤ from_) (hf2 : from_ ≤ 999999999) (hb : ((⟨0, false, σ⟩ : LS).begin from_).1 = 0) :
    Calls Tryz.prog 20 #[ptr d, .int .i64 from_] w (Opened G w d F ((⟨0, false, σ⟩ : LS).begin from_).2) := by
  have hrd : σ.read [45] = ([], 3) := by
    have : σ.fault [[45]] true = 3 := by
      unfold DS.fault
      rw [hd]
      have : ([[45]] : List Bytes).any (fun s => !Disk.good s) = true := by decide +kernel
      rw [this]; simp
    rw [Disk.read_bad (by rw [this]; decide), this]
  have HO := Lib.hid h
  have HL := Lib.hid hlaid
  have K1 := Lib.hid (fun W hW => Disk.Read_calls d σ F ⟨#[45]⟩ W hW (by unfold maxLen; decide))
  rw [show (⟨#[45]⟩ : ByteArray).data.toList = [45] from rfl, hrd] at K1
  have K2 := Lib.hid (fun W hW hL => Numbers_calls G d σ F W hW hd hL)
  rw [h0] at K2
  have K3 := Lib.hid (fun l W hW => Begin_calls G l d ⟨0, false, σ⟩ F from_ W hW (by omega))
  generalize hr : (⟨0, false, σ⟩ : LS).begin from_ = r at hb K3
  obtain ⟨z, s'⟩ := r
  simp only at hb K3
  subst hb
  have hnew : Hid (LogAt G (w.alloc (.cells #[.pointer (some ⟨d, 0, none⟩), .int .i64 0, .bool false] 44)) w.heap.size d ⟨0, false, σ⟩ F) := by
    refine ⟨?_, h.below ((Below.refl _ _).alloc (Nat.le_refl _) _), fun hf => by have := h.lt _ hf; omega, hlaid.below ((Below.refl _ _).alloc (Nat.le_refl _) _), hhigh, hlaid.size, ⟨Int.le_refl 0, by show (0 : Int) ≤ _; decide⟩, hp⟩
    show (w.heap.push _)[w.heap.size]? = _; simp; rfl
  have HBN : Hid (Below w.heap.size w (w.alloc (.cells #[.pointer (some ⟨d, 0, none⟩), .int .i64 0, .bool false] 44))) := (Below.refl _ _).alloc (Nat.le_refl _) _
  clear h hlaid hr hrd hd h0 hp
  unfold ptr at *
  go_enter Tryz.func20, Tryz.ntmps20
  go_wp2_with fail
  refine (K1.out _ hnew.out.own).mono ?_
  rintro e w1 ⟨vr, rfl, hn1⟩
  have HB1 := Lib.hid (HBN.out.trans (hn1.2.1.mono (by simp)))
  have H1 := Lib.hid (hnew.out.below hn1.2.1)
  obtain ⟨ra, rc, rfl⟩ := row_form hn1.1
  have c0 := H1.out.cells.1
  clear hn1
  go_wp2_with fail
  refine (K2.out w1 H1.out.own H1.out.laid).mono ?_
  rintro e w2 ⟨v, rfl, hn2⟩
  have HB2 := Lib.hid (HB1.out.trans (hn2.2.1.mono HB1.out.size))
  have H2 := Lib.hid (H1.out.below hn2.2.1)
  obtain ⟨va, vc, rfl⟩ := row_form hn2.1
  have N2 := Lib.hid hn2
  have hbx : Below w2.heap.size w2 (w2.alloc (.cells #[.int .i64 (from_ - 1)] 3)) := (Below.refl _ _).alloc (Nat.le_refl _) _
  obtain ⟨v', w3, hap, hr3, hc3, hl3⟩ := run_append_int _ _ [] (from_ - 1) ⟨w2.heap.size, 0, none⟩ 1 (ints_below hn2.1 hbx) (cell_of (heap_alloc_new w2 _) 0) (by simp)
  have HP := Lib.hid (hn2.push hbx hr3 hc3 hl3)
  have HB3 := Lib.hid (HB1.out.trans (HP.out.2.1.mono HB1.out.size))
  have H3 := Lib.hid (H1.out.below HP.out.2.1)
  have KM : Hid (Calls Tryz.prog 50 #[v'] w3 fun e w' => e = .returned (.int .i64 (from_ - 1)) ∧ w3 = w') := by
    rcases HP.out.1.2 with ⟨_, h2⟩ | ⟨g, cap, cur, h1, _, h3, _⟩
    · cases h2
    · subst h1
      have hc : ∀ j, j < ([from_ - 1] : List Int).length → w3.cell? ⟨g, 0 + j, none⟩ = some (.int .i64 (([from_ - 1] : List Int).getD j 0)) := fun j hj => by
        obtain rfl : j = 0 := by simp at hj; exact hj
        have := HP.out.1.cellAt 0 (by simp)
        simpa using this
      refine (Tryz.slices_Max_int g 0 1 cap [from_ - 1] w3 (by decide) (by simp) (by decide) hc).mono ?_
      rintro e w' ⟨rfl, rfl⟩
      exact ⟨by simp [Lib.maxOf], rfl⟩
  obtain ⟨xa, xn, xc, rfl⟩ := Disk.row_slice HP.out.1
  clear c0 hn2 hr3 hc3 hl3 hbx
  go_wp2_with fail
  go_loop [11, 12, 13, 14, 15, 16, 17, 18, 49] (fun o _ _ _ _ _ _ _ i => o = .slice none 0 0 ∧ i = .int .i64 0) (fun _ _ _ _ _ _ _ _ _ => 0)
  case atStart => exact ⟨rfl, rfl⟩
  case round =>
    obtain ⟨rfl, rfl⟩ := hrel
    go_wp2_with (at_builtin; refine wpList_append_run rfl (.tmp 102) (.tmp 105) 52 rfl _ _ _ _ rfl rfl hap ?_)
    refine (KM.out).mono ?_
    rintro e w4 ⟨rfl, rfl⟩
    go_wp2_with fail
    refine (K3.out _ _ H3.out).mono ?_
    rintro e w5 ⟨rfl, hm5⟩
    go_wp2_with fail
    go_ret3
    obtain ⟨c5, F5, H5, hs5⟩ := hm5
    have hsz := HB3.out.size
    exact ⟨w.heap.size, rfl, Nat.le_refl _, (Chg.of_below HB3.out).then c5 (fun i hi hk => hk.elim (fun e => absurd e (by omega)) id), F5, H5, fun k hk hf => hs5 k (by omega) hf⟩
end Wal
end Go.Proofs.YtlcenkkfcejnbaaGreatDoor
