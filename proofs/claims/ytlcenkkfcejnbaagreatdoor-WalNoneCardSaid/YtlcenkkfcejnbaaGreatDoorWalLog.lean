/- A log in memory, and its small functions: may, done, begin. -/
import Derived.Test.YtlcenkkfcejnbaaGreatDoorWalNumber
import Derived.Test.YtlcenkkfcejnbaaGreatDoorDiskOps2
import Derived.Test.YtlcenkkfcejnbaaGreatDoorDiskOps4
import Derived.Test.YtlcenkkfcejnbaaGreatDoorDiskRest
import Derived.Deep.RegionHeld3
import Derived.Deep.DeepCutAuto
namespace Go.Proofs.YtlcenkkfcejnbaaGreatDoor
open Go.RowKit
namespace Wal
open Disk (DS Owns Moves ptr)

/-- A log as plain data. -/
structure LS where
  n : Int
  dead : Bool
  σ : DS

def LS.done (s : LS) (e : Int) : LS := { s with dead := s.dead || e == 9 }
def LS.may (s : LS) : Int := if s.n = 0 then 1 else if s.dead || s.σ.dark then 9 else 0
def LS.put (s : LS) (σ : DS) : LS := { s with σ := σ }
def LS.begin (s : LS) (n : Int) : Int × LS :=
  if 999999999 < n then (7, s) else
  let a := s.σ.create (wname n)
  if a.1 ≠ 0 then (a.1, (s.put a.2).done a.1) else
  let b := a.2.sync (wname n)
  if b.1 ≠ 0 then (b.1, (s.put b.2).done b.1) else (0, { s with n := n, σ := b.2 })

/-- A log in memory: at block l, its disk at d; the disk's blocks are in F; G: beyond the library's variables. -/
structure LogAt (G : Nat) (w : World) (l d : Nat) (s : LS) (F : Nat → Prop) : Prop where
  self : w.heap[l]? = some (.cells #[ptr d, .int .i64 s.n, .bool s.dead] 44 (0, 0))
  own : Owns w d s.σ F
  apart : ¬ F l
  laid : Laid G w
  high : ∀ k, F k → G ≤ k
  highl : G ≤ l
  small : 0 ≤ s.n ∧ s.n ≤ 999999999
  plan : Disk.Plan s.σ

theorem LogAt.lt {G : Nat} {w : World} {l d : Nat} {s : LS} {F : Nat → Prop} (h : LogAt G w l d s F) : l < w.heap.size := Disk.IsCells.lt ⟨_, _, h.self⟩

def MovesL (G : Nat) (w : World) (l d : Nat) (F : Nat → Prop) (s' : LS) (w' : World) : Prop :=
  Chg (fun k => k = l ∨ F k) w w' ∧ ∃ F', LogAt G w' l d s' F' ∧ ∀ k, k < w.heap.size → F' k → F k

theorem LogAt.below {G : Nat} {w w' : World} {l d : Nat} {s : LS} {F : Nat → Prop} (h : LogAt G w l d s F) (hb : Below w.heap.size w w') : LogAt G w' l d s F :=
  ⟨by rw [hb.block l h.lt]; exact h.self, h.own.below hb, h.apart, h.laid.below hb, h.high, h.highl, h.small, h.plan⟩
theorem MovesL.of_below {G : Nat} {w w' : World} {l d : Nat} {s : LS} {F : Nat → Prop} (h : LogAt G w l d s F) (hb : Below w.heap.size w w') : MovesL G w l d F s w' :=
  ⟨Chg.of_below hb, F, h.below hb, fun _ _ h => h⟩
theorem MovesL.trans {G : Nat} {w w1 w2 : World} {l d : Nat} {F : Nat → Prop} {s1 s2 : LS} (h : MovesL G w l d F s1 w1) (k : ∀ F', LogAt G w1 l d s1 F' → MovesL G w1 l d F' s2 w2) : MovesL G w l d F s2 w2 := by
  obtain ⟨c1, F1, o1, s1⟩ := h
  obtain ⟨c2, F2, o2, s2⟩ := k F1 o1
  exact ⟨c1.then c2 (fun i hi hk => hk.elim .inl fun h => .inr (s1 i hi h)), F2, o2, fun i hi hf => s1 i hi (s2 i (Nat.lt_of_lt_of_le hi c1.size) hf)⟩
theorem LogAt.disk {G : Nat} {w w' : World} {l d : Nat} {s : LS} {F : Nat → Prop} {σ' : DS} (h : LogAt G w l d s F) (m : Moves w d F σ' w') (hp : Disk.Plan σ') : MovesL G w l d F (s.put σ') w' := by
  obtain ⟨c, F', o, hs⟩ := m
  have hl := h.lt
  have hF' : ∀ k, F' k → G ≤ k := fun k hk => by
    by_cases hlt : k < w.heap.size
    · exact h.high k (hs k hlt hk)
    · have := h.laid.size; omega
  refine ⟨c.mono fun k _ hk => .inr hk, F', ⟨?_, o, fun hf => h.apart (hs l hl hf), h.laid.chg c h.high, hF', h.highl, h.small, hp⟩, hs⟩
  rw [c.block l hl h.apart]; exact h.self

/-- The log's own cells are written. -/
theorem LogAt.own_put {G : Nat} {w w' : World} {l d : Nat} {s : LS} {F : Nat → Prop} (h : LogAt G w l d s F) (n : Int) (dead : Bool) (hn : 0 ≤ n ∧ n ≤ 999999999) (hc : Chg (· = l) w w')
    (hs : w'.heap[l]? = some (.cells #[ptr d, .int .i64 n, .bool dead] 44 (0, 0))) : MovesL G w l d F { s with n := n, dead := dead } w' :=
  ⟨hc.mono fun _ _ e => .inl e, F, ⟨hs, h.own.keep hc.size fun k hk => hc.block k (h.own.lt k hk) (fun e => h.apart (e ▸ hk)), h.apart, h.laid.chg hc (fun _ e => e ▸ h.highl), h.high, h.highl, hn, h.plan⟩, fun _ _ h => h⟩

set_option maxHeartbeats 400000 in
theorem May_nil (w : World) : Calls Tryz.prog 41 #[.pointer none] w fun e w' => e = .returned (.int .i64 1) ∧ w = w' := by
  go_enter Tryz.func41, Tryz.ntmps41
  go_wp2
  go_ret
  exact ⟨rfl, rfl⟩

set_option maxHeartbeats 400000 in
theorem May_zero (b off : Nat) (w : World) (h : w.cell? ⟨b, off + 1, none⟩ = some (.int .i64 0)) : Calls Tryz.prog 41 #[.pointer (some ⟨b, off, none⟩)] w fun e w' => e = .returned (.int .i64 1) ∧ w = w' := by
  go_enter Tryz.func41, Tryz.ntmps41
  go_wp2
  go_ret
  exact ⟨rfl, rfl⟩

set_option maxHeartbeats 400000 in
theorem May_calls (G : Nat) (l d : Nat) (s : LS) (F : Nat → Prop) (w : World) (h : LogAt G w l d s F) :
    Calls Tryz.prog 41 #[ptr l] w fun e w' => e = .returned (.int .i64 s.may) ∧ Below w.heap.size w w' := by
  have K1 := Lib.hid (Disk.OnO_calls d s.σ F w h.own)
  have hs := h.self
  have hsm := h.small
  have c0 := cell_of hs 0
  have c1 := cell_of hs 1
  have c2 := cell_of hs 2
  simp only [List.getElem?_toArray, List.getElem?_cons_succ, List.getElem?_cons_zero] at c0 c1 c2
  clear hs
  unfold ptr at *
  by_cases hn : s.n = 0
  · have HE : Hid (s.may = 1) := by show _ = _; simp [LS.may, hn]
    rw [hn] at c1
    clear hn hsm
    go_enter Tryz.func41, Tryz.ntmps41
    go_wp2_with fail
    go_ret
    exact ⟨by rw [HE.out]; rfl, Below.refl _ _⟩
  · have hn' : (s.n == 0) = false := by rw [beq_eq_false_iff_ne]; exact hn
    cases hd : s.dead
    · rw [hd] at c2
      have HE : Hid (s.may = if s.σ.dark then 9 else 0) := by show _ = _; simp [LS.may, hn, hd]
      clear hn hd hsm
      cases hk : s.σ.dark
      · have HE2 : Hid (s.may = 0) := by show _ = _; rw [HE.out, hk]; rfl
        rw [hk] at K1
        clear hk HE
        go_enter Tryz.func41, Tryz.ntmps41
        go_wp2_with fail
        refine K1.out.mono ?_
        rintro e w1 ⟨rfl, hb1⟩
        go_wp2_with fail
        go_ret
        exact ⟨by rw [HE2.out]; rfl, hb1⟩
      · have HE2 : Hid (s.may = 9) := by show _ = _; rw [HE.out, hk]; rfl
        rw [hk] at K1
        clear hk HE
        go_enter Tryz.func41, Tryz.ntmps41
        go_wp2_with fail
        refine K1.out.mono ?_
        rintro e w1 ⟨rfl, hb1⟩
        go_wp2_with fail
        go_ret
        exact ⟨by rw [HE2.out]; rfl, hb1⟩
    · rw [hd] at c2
      have HE : Hid (s.may = 9) := by show _ = _; simp [LS.may, hn, hd]
      clear hn hd hsm
      go_enter Tryz.func41, Tryz.ntmps41
      go_wp2_with fail
      go_ret
      exact ⟨by rw [HE.out]; rfl, Below.refl _ _⟩

set_option maxHeartbeats 400000 in
theorem Done_calls (G : Nat) (l d : Nat) (s : LS) (F : Nat → Prop) (z : Int) (w : World) (h : LogAt G w l d s F) :
    Calls Tryz.prog 44 #[ptr l, .int .i64 z] w fun e w' => e = .returned (.int .i64 z) ∧ MovesL G w l d F (s.done z) w' := by
  have H := Lib.hid h
  have hs := h.self
  have c2 := cell_of hs 2
  have f2 := free_of hs 2
  simp only [List.getElem?_toArray, List.getElem?_cons_succ, List.getElem?_cons_zero] at c2
  have hset := fun v => Disk.set_block hs 2 v
  have HS := Lib.hid hset
  clear hs h hset
  unfold ptr
  cases hd : s.dead
  · rw [hd] at c2
    have HD := Lib.hid hd
    by_cases hz : z = 9
    · have hz' : (z == 9) = true := by rw [beq_iff_eq]; exact hz
      clear hd hz
      have HZ := Lib.hid hz'
      go_enter Tryz.func44, Tryz.ntmps44
      go_wp2_with fail
      go_ret
      refine ⟨rfl, ?_⟩
      have := H.out.own_put s.n true H.out.small (((Chg.refl (· = l) w).setCell (p := ⟨l, 2, none⟩) (fun _ => rfl) _)) (HS.out _)
      simpa [LS.done, HZ.out] using this
    · have hz' : (z == 9) = false := by rw [beq_eq_false_iff_ne]; exact hz
      clear hd hz
      have HZ := Lib.hid hz'
      go_enter Tryz.func44, Tryz.ntmps44
      go_wp2_with fail
      go_ret
      refine ⟨rfl, ?_⟩
      have := H.out.own_put s.n false H.out.small (((Chg.refl (· = l) w).setCell (p := ⟨l, 2, none⟩) (fun _ => rfl) _)) (HS.out _)
      simpa [LS.done, HZ.out, HD.out] using this
  · rw [hd] at c2
    have HD := Lib.hid hd
    clear hd
    go_enter Tryz.func44, Tryz.ntmps44
    go_wp2_with fail
    go_ret
    refine ⟨rfl, ?_⟩
    have := H.out.own_put s.n true H.out.small (((Chg.refl (· = l) w).setCell (p := ⟨l, 2, none⟩) (fun _ => rfl) _)) (HS.out _)
    simpa [LS.done, HD.out] using this
end Wal
end Go.Proofs.YtlcenkkfcejnbaaGreatDoor
