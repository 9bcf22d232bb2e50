/- Which names a disk's file may have: what disk.Good answers. -/
import Derived.Test.YtlcenkkfcejnbaaGreatDoorBase
namespace Go.Proofs.YtlcenkkfcejnbaaGreatDoor
open Go.RowKit
namespace Disk
def other (c : UInt8) : Bool := (48 ≤ c && c ≤ 57) || c == 45 || c == 46
def goodAt (i : Nat) (c : UInt8) : Bool := (97 ≤ c && c ≤ 122) || (i != 0 && other c)
def goodFrom : Nat → List UInt8 → Bool
  | _, [] => true
  | i, c :: l => goodAt i c && goodFrom (i + 1) l
def good (l : List UInt8) : Bool := l.length != 0 && decide (l.length ≤ 40) && goodFrom 0 l
theorem other_eq (c : UInt8) : other c = (decide (48 ≤ (c.toNat : Int)) && decide ((c.toNat : Int) ≤ 57) || ((c.toNat : Int) == 45) || ((c.toNat : Int) == 46)) := by
  unfold other
  rw [Bool.eq_iff_iff]
  simp [UInt8.le_iff_toNat_le, ← UInt8.toNat_inj]
  omega
theorem goodAt_yes (i : Nat) (c : UInt8) (h1 : 97 ≤ (c.toNat : Int)) (h2 : (c.toNat : Int) ≤ 122) : goodAt i c = true := by
  simp [goodAt, UInt8.le_iff_toNat_le]; omega
theorem goodAt_no (i : Nat) (c : UInt8) (h : (c.toNat : Int) < 97 ∨ 122 < (c.toNat : Int)) : goodAt i c = ((i != 0) && other c) := by
  have : (97 ≤ c && c ≤ 122) = false := by
    rw [Bool.eq_false_iff]; simp [UInt8.le_iff_toNat_le]; omega
  simp [goodAt, this]
theorem goodFrom_step (s : ByteArray) (k : Nat) (h : k < s.size) : goodFrom k (s.data.toList.drop k) = (goodAt k s[k] && goodFrom (k + 1) (s.data.toList.drop (k + 1))) := by
  have : s.data.toList.drop k = s[k] :: s.data.toList.drop (k + 1) := by
    rw [List.drop_eq_getElem_cons (by simpa using h)]; rfl
  rw [this]; rfl
end Disk
set_option maxHeartbeats 400000 in
theorem Other_calls (c : UInt8) (w : World)  :
    Calls Tryz.prog 40 #[.int .u8 c.toNat] w fun e w' => e = .returned (.bool (Disk.other c)) ∧ w = w' := by
  have H := Lib.hid (Disk.other_eq c)
  go_enter Tryz.func40, Tryz.ntmps40
  go_wp2
  all_goals
    go_ret
    refine ⟨ret_bool ?_, rfl⟩
    rw [H.out]
    rw [Bool.eq_iff_iff]; simp only [Bool.or_eq_true, Bool.and_eq_true, decide_eq_true_eq, beq_iff_eq, true_iff]; omega
theorem fit_no {s : ByteArray} {k : Nat} {b : Bool} (hg : Disk.good s.data.toList = Disk.goodFrom k (s.data.toList.drop k)) (h : k < s.size) (hb : Disk.goodAt k s[k] = b) : Disk.good s.data.toList = (b && Disk.goodFrom (k + 1) (s.data.toList.drop (k + 1))) := by
  rw [hg, Disk.goodFrom_step s k h, hb]
set_option maxRecDepth 100000 in
set_option maxHeartbeats 800000 in
theorem DiskGood_calls (s : ByteArray) (w : World) (hs : s.size ≤ maxLen) :
    Calls Tryz.prog 14 #[.string s] w fun e w' => e = .returned (.bool (Disk.good s.data.toList)) ∧ Below w.heap.size w w' := by
  unfold maxLen at hs
  by_cases h0 : s.size = 0
  · have hgd : Hid (Disk.good s.data.toList = false) := by
      show Disk.good s.data.toList = false
      have : s.data.toList.length = 0 := by simpa using h0
      simp [Disk.good, this]
    have h0' : ((s.size : Int) == 0) = true := by rw [beq_iff_eq]; omega
    clear h0
    go_enter Tryz.func14, Tryz.ntmps14
    go_wp2
    go_ret
    exact ⟨ret_bool hgd.out.symm, Below.refl _ _⟩
  · by_cases h1 : 40 < s.size
    · have hgd : Hid (Disk.good s.data.toList = false) := by
        show Disk.good s.data.toList = false
        have h : s.data.toList.length = s.size := by simp
        have : decide (s.data.toList.length ≤ 40) = false := by rw [h]; simp; omega
        simp only [Disk.good, this, Bool.and_false, Bool.false_and]
      have h0' : ((s.size : Int) == 0) = false := by rw [beq_eq_false_iff_ne]; omega
      have h1' : (40 : Int) < s.size := by omega
      clear h0 h1
      go_enter Tryz.func14, Tryz.ntmps14
      go_wp2
      go_ret
      exact ⟨ret_bool hgd.out.symm, Below.refl _ _⟩
    · have h0' : ((s.size : Int) == 0) = false := by rw [beq_eq_false_iff_ne]; omega
      have h1' : (s.size : Int) ≤ 40 := by omega
      obtain ⟨c, W, hcv, hb, hsz, hcell⟩ := conv_bytes w s
      have hgd : Hid (Disk.good s.data.toList = Disk.goodFrom 0 (s.data.toList.drop 0)) := by
        show Disk.good s.data.toList = Disk.goodFrom 0 (s.data.toList.drop 0)
        have h : s.data.toList.length = s.size := by simp
        have t1 : decide (s.data.toList.length ≤ 40) = true := by rw [h]; simp; omega
        have t2 : (s.data.toList.length != 0) = true := by rw [h, bne_iff_ne]; exact h0
        simp only [Disk.good, t1, t2, Bool.true_and, List.drop_zero]
      go_enter Tryz.func14, Tryz.ntmps14
      go_wp2
      go_loop [4, 5, 17] (fun _ _ i => ∃ k : Nat, k ≤ s.size ∧ i = .int .i64 k ∧ Hid (Disk.good s.data.toList = Disk.goodFrom k (s.data.toList.drop k))) (fun _ _ i => s.size - (intOf i).toNat)
      case atStart => exact ⟨0, Nat.zero_le _, rfl, hgd⟩
      case round =>
        obtain ⟨k, hk, rfl, hg⟩ := hrel
        by_cases hlt : k < s.size
        · have hck := hcell k hlt
          have hup := fun b => fit_no (b := b) hg.out hlt
          have HU := Lib.hid hup
          clear hcell hup hcv
          by_cases hz : (s[k].toNat : Int) < 97 ∨ 122 < (s[k].toNat : Int)
          · have HZ : Hid (Disk.goodAt k s[k] = ((k != 0) && Disk.other s[k])) := Disk.goodAt_no k s[k] hz
            by_cases hk0 : k = 0
            · have HN : Hid (Disk.good s.data.toList = false) := by
                show _ = _
                have h3 : (k != 0) = false := by simp [hk0]
                rw [HU.out _ HZ.out, h3]; simp
              subst hk0
              clear HZ HU
              go_wp2
              all_goals
                go_ret
                exact ⟨ret_bool HN.out.symm, hb⟩
            · have hk0' : ((k : Int) == 0) = false := by rw [beq_eq_false_iff_ne]; omega
              have hk0'' : (k != 0) = true := by rw [bne_iff_ne]; exact hk0
              cases ho : Disk.other s[k]
              · have HN : Hid (Disk.good s.data.toList = false) := by
                  show _ = _
                  rw [HU.out _ HZ.out, ho]; simp
                have HO := Lib.hid ho
                clear HZ HU ho
                go_wp2_with (first | (go_at_call 40; refine (Other_calls _ _).mono ?_; rintro e w' ⟨rfl, rfl⟩; rw [HO.out]))
                all_goals
                  go_ret
                  exact ⟨ret_bool HN.out.symm, hb⟩
              · have HN : Hid (Disk.good s.data.toList = Disk.goodFrom (k + 1) (s.data.toList.drop (k + 1))) := by
                  show _ = _
                  rw [HU.out _ HZ.out, ho, hk0'']; simp
                have HO := Lib.hid ho
                clear HZ HU ho
                go_wp2_with (first | (go_at_call 40; refine (Other_calls _ _).mono ?_; rintro e w' ⟨rfl, rfl⟩; rw [HO.out]))
                all_goals
                  go_round
                  case rel => exact ⟨k + 1, by omega, by go_num, HN⟩
                  case measure => simp [intOf]; omega
          · have hz1 : 97 ≤ (s[k].toNat : Int) := by omega
            have hz2 : (s[k].toNat : Int) ≤ 122 := by omega
            have HN : Hid (Disk.good s.data.toList = Disk.goodFrom (k + 1) (s.data.toList.drop (k + 1))) := by
              show _ = _
              rw [HU.out _ (Disk.goodAt_yes k s[k] hz1 hz2)]; simp
            clear HU hz
            go_wp2
            all_goals
              go_round
              case rel => exact ⟨k + 1, by omega, by go_num, HN⟩
              case measure => simp [intOf]; omega
        · have hke : k = s.size := by omega
          have HN : Hid (Disk.good s.data.toList = true) := by
            show _ = _
            rw [hg.out, hke, List.drop_eq_nil_of_le (by simp)]; rfl
          clear hg hcell hcv
          go_wp2
          all_goals
            go_ret
            exact ⟨ret_bool HN.out.symm, hb⟩
end Go.Proofs.YtlcenkkfcejnbaaGreatDoor
