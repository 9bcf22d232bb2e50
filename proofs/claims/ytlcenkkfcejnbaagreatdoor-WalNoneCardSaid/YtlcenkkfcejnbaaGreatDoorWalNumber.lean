/- wal.Number. -/
import Derived.Test.YtlcenkkfcejnbaaGreatDoorWalName
namespace Go.Proofs.YtlcenkkfcejnbaaGreatDoor
open Go.RowKit
namespace Wal

/-- The library's variables that these calls read; G: beyond them. -/
structure Laid (G : Nat) (w : World) : Prop where
  tab : Lib.TabIs Tryz.prog w "internal/strconv.uint64pow10" .u64 Lib.pow10Tab
  syn : ∃ tp p, w.var? Tryz.prog "strconv.ErrSyntax" = some #[.iface tp p]
  ran : ∃ tp p, w.var? Tryz.prog "strconv.ErrRange" = some #[.iface tp p]
  glob : ∀ n g, Tryz.prog.globalNamed n = some g → g < G
  size : G ≤ w.heap.size

theorem Laid.chg {G : Nat} {F : Nat → Prop} {w w' : World} (h : Laid G w) (hc : Chg F w w') (hF : ∀ k, F k → G ≤ k) : Laid G w' := by
  have hv : ∀ n cs, w.var? Tryz.prog n = some cs → w'.var? Tryz.prog n = some cs := fun n cs hn => by
    unfold World.var? at hn ⊢
    cases hg : Tryz.prog.globalNamed n with
    | none => simp [hg] at hn
    | some g =>
      simp only [hg, Option.bind_some] at hn ⊢
      have hlt := h.glob n g hg
      rw [hc.block g (Nat.lt_of_lt_of_le hlt h.size) (fun e => by have := hF g e; omega)]
      exact hn
  obtain ⟨t1, p1, h1⟩ := h.syn
  obtain ⟨t2, p2, h2⟩ := h.ran
  exact ⟨hv _ _ h.tab, ⟨t1, p1, hv _ _ h1⟩, ⟨t2, p2, hv _ _ h2⟩, h.glob, Nat.le_trans h.size hc.size⟩
theorem Laid.below {G : Nat} {w w' : World} (h : Laid G w) (hb : Below w.heap.size w w') : Laid G w' :=
  h.chg (F := fun _ => False) (Chg.of_below hb) (fun _ h => h.elim)

/-- The number of a name; none: it is none. -/
def numberOf (s : Bytes) : Option Int :=
  if Lib.hasPrefix s [108, 111, 103, 45] ∧ (Lib.trimPrefix s [108, 111, 103, 45]).length ≤ 9 then
    match Lib.atoiAll (Lib.trimPrefix s [108, 111, 103, 45]) with
    | .ok v => if wname v = s then some v else none
    | _ => none
  else none

theorem bytes_below (w : World) (t : ByteArray) : Below w.heap.size w (Lib.bytesWorld w 5 t) :=
  ⟨rfl, rfl, rfl, by rw [Lib.bytesWorld_size]; omega, fun i hi => Lib.bytesWorld_at_old w 5 t i hi⟩

theorem str_beq (s t : ByteArray) : (s.toList == t.toList) = decide (s.data.toList = t.data.toList) := by
  rw [ByteArray.toList_eq, ByteArray.toList_eq, Bool.eq_iff_iff, beq_iff_eq, decide_eq_true_eq]

def NumRes (w : World) (r : Option Int) (e : Ending) (w' : World) : Prop := e = .returned (.tuple #[.int .i64 (r.getD 0), .bool r.isSome]) ∧ Below w.heap.size w w'

set_option maxHeartbeats 400000 in
theorem Number_calls (s : ByteArray) (w : World) (G : Nat) (hlaid : Laid G w) :
    Calls Tryz.prog 13 #[.string s] w (NumRes w (numberOf s.data.toList)) := by
  have K1 := Lib.hid (Tryz.strings_CutPrefix s ⟨#[108, 111, 103, 45]⟩ w)
  have hdef : numberOf s.data.toList = if Lib.hasPrefix s.data.toList [108, 111, 103, 45] ∧ (Lib.trimPrefix s.data.toList [108, 111, 103, 45]).length ≤ 9 then
    match Lib.atoiAll (Lib.trimPrefix s.data.toList [108, 111, 103, 45]) with
    | .ok v => if wname v = s.data.toList then some v else none
    | _ => none
  else none := rfl
  have e4 : (⟨#[108, 111, 103, 45]⟩ : ByteArray).data.toList = [108, 111, 103, 45] := rfl
  rw [e4] at K1
  generalize hp : Lib.hasPrefix s.data.toList [108, 111, 103, 45] = p at K1 hdef
  generalize ht : Lib.trimPrefix s.data.toList [108, 111, 103, 45] = t at K1 hdef
  have hsz : (⟨t.toArray⟩ : ByteArray).size = t.length := by simp [ByteArray.size]
  have hdt : (⟨t.toArray⟩ : ByteArray).data.toList = t := rfl
  clear hp ht e4
  cases p
  · have HE : Hid (numberOf s.data.toList = none) := by show _ = _; rw [hdef]; simp
    clear hdef
    go_enter Tryz.func13, Tryz.ntmps13
    go_wp2_with fail
    refine K1.out.mono ?_
    rintro e w1 ⟨rfl, rfl⟩
    go_wp2_with fail
    go_ret2
    exact ⟨by rw [HE.out]; rfl, Below.refl _ _⟩
  · by_cases hl9 : 9 < t.length
    · have HE : Hid (numberOf s.data.toList = none) := by show _ = _; rw [hdef, if_neg (by omega)]
      have hi : decide ((((⟨t.toArray⟩ : ByteArray).size : Nat) : Int) > 9) = true := decide_eq_true (by rw [hsz]; omega)
      clear hdef
      generalize hbt : (⟨t.toArray⟩ : ByteArray) = bt at K1 hi hsz hdt
      have hi2 : (9 : Int) < bt.size := by omega
      clear hbt hdt hi
      go_enter Tryz.func13, Tryz.ntmps13
      go_wp2_with fail
      refine K1.out.mono ?_
      rintro e w1 ⟨rfl, rfl⟩
      go_wp2_with fail
      go_ret2
      exact ⟨by rw [HE.out]; rfl, Below.refl _ _⟩
    · rw [if_pos ⟨rfl, by omega⟩] at hdef
      generalize hbt : (⟨t.toArray⟩ : ByteArray) = bt at K1 hsz hdt
      have hi2 : ¬ (9 : Int) < bt.size := by omega
      clear hbt
      cases hat : Lib.atoiAll t
      · rename_i v
        have K2 := Lib.hid (Tryz.strconv_Atoi_ok bt (by omega) v (by rw [hdt]; exact hat) w)
        rw [hat] at hdef
        have HD := Lib.hid hdef
        clear hdef hdt hsz hat
        go_enter Tryz.func13, Tryz.ntmps13
        go_wp2_with fail
        refine K1.out.mono ?_
        rintro e w1 ⟨rfl, rfl⟩
        go_wp2_with fail
        refine K2.out.mono ?_
        rintro e w2 ⟨rfl, hw2⟩
        have hb2 : Below w1.heap.size w1 w2 := by
          rcases hw2 with rfl | ⟨t, rfl⟩
          · exact Below.refl _ _
          · exact bytes_below _ _
        clear hw2
        go_wp2_with fail
        refine (Name_calls v w2 (hlaid.below hb2).tab).mono ?_
        rintro e w3 ⟨rfl, hb3⟩
        by_cases heq : wname v = s.data.toList
        · have heq2 : (⟨(wname v).toArray⟩ : ByteArray) = s := by rw [heq]
          have HE : Hid (numberOf s.data.toList = some v) := by
            show _ = _
            rw [HD.out]
            show (if wname v = s.data.toList then some v else none) = _
            rw [if_pos heq]
          rw [heq2]
          clear heq heq2 HD
          go_wp2_with fail
          go_ret2
          exact ⟨by rw [HE.out]; rfl, hb2.trans (hb3.mono hb2.size)⟩
        · have heq2 : ¬ (⟨(wname v).toArray⟩ : ByteArray) = s := fun e => heq (by rw [← e])
          have HE : Hid (numberOf s.data.toList = none) := by
            show _ = _
            rw [HD.out]
            show (if wname v = s.data.toList then some v else none) = _
            rw [if_neg heq]
          generalize (⟨(wname v).toArray⟩ : ByteArray) = q at heq2
          clear heq HD
          have hne : (q.toList == s.toList) = false := by rw [str_beq]; exact decide_eq_false fun e => heq2 (ByteArray.ext (Array.ext' e))
          go_wp2_with fail
          go_ret2
          exact ⟨by rw [HE.out]; rfl, hb2.trans (hb3.mono hb2.size)⟩
      · obtain ⟨tp, p, hv⟩ := hlaid.syn
        have K2 := Lib.hid (Tryz.strconv_Atoi_syntax_var bt (by omega) (by rw [hdt]; exact hat) tp p w hv)
        rw [hat] at hdef
        have HE : Hid (numberOf s.data.toList = none) := hdef
        clear hdef hdt hsz hat hv
        go_enter Tryz.func13, Tryz.ntmps13
        go_wp2_with fail
        refine K1.out.mono ?_
        rintro e w1 ⟨rfl, rfl⟩
        go_wp2_with fail
        refine K2.out.mono ?_
        rintro e w2 ⟨N, rfl, _, _, hb2⟩
        go_wp2_with fail
        go_ret2
        exact ⟨by rw [HE.out]; rfl, hb2⟩
      · obtain ⟨tp, p, hv⟩ := hlaid.ran
        have K2 := Lib.hid (Tryz.strconv_Atoi_range_var bt (by omega) (by rw [hdt]; exact hat) tp p w hv)
        rw [hat] at hdef
        have HE : Hid (numberOf s.data.toList = none) := hdef
        clear hdef hdt hsz hat hv
        go_enter Tryz.func13, Tryz.ntmps13
        go_wp2_with fail
        refine K1.out.mono ?_
        rintro e w1 ⟨rfl, rfl⟩
        go_wp2_with fail
        refine K2.out.mono ?_
        rintro e w2 ⟨N, rfl, _, _, hb2⟩
        go_wp2_with fail
        go_ret2
        exact ⟨by rw [HE.out]; rfl, hb2⟩
end Wal
end Go.Proofs.YtlcenkkfcejnbaaGreatDoor
