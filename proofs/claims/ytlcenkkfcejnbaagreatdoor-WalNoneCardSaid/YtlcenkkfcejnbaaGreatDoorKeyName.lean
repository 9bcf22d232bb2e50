/- key.Name. -/
import Derived.Test.YtlcenkkfcejnbaaGreatDoorDiskOps
import Derived.Test.YtlcenkkfcejnbaaGreatDoorShelf
namespace Go.Proofs.YtlcenkkfcejnbaaGreatDoor
open Go.RowKit
namespace Key

/-- A rune that no name has. -/
def badRune (r : Int) : Bool := decide (r < 97 ∨ 122 < r) && (decide (r < 48 ∨ 57 < r) && decide (r ≠ 95))

set_option maxHeartbeats 400000 in
theorem Rune_calls (r : Int) (w : World) :
    Calls Tryz.prog 116 #[.int .i32 r] w fun e w' => e = .returned (.bool (badRune r)) ∧ w = w' := by
  have hE : Hid (badRune r = (decide (r < 97 ∨ 122 < r) && (decide (r < 48 ∨ 57 < r) && decide (r ≠ 95)))) := rfl
  by_cases h1 : r < 97
  · by_cases h2 : r < 48
    · have h3 : ¬ r = 95 := by omega
      go_enter Tryz.func116, Tryz.ntmps116
      go_wp2_with fail
      go_ret
      exact ⟨ret_bool (by rw [hE.out]; simp [h1, h2, h3]), rfl⟩
    · by_cases h4 : 57 < r
      · by_cases h3 : r = 95
        · subst h3
          go_enter Tryz.func116, Tryz.ntmps116
          go_wp2_with fail
          go_ret
          exact ⟨ret_bool (by rw [hE.out]; simp), rfl⟩
        · go_enter Tryz.func116, Tryz.ntmps116
          go_wp2_with fail
          go_ret
          exact ⟨ret_bool (by rw [hE.out]; simp [h1, h3, h4]), rfl⟩
      · go_enter Tryz.func116, Tryz.ntmps116
        go_wp2_with fail
        go_ret
        exact ⟨ret_bool (by rw [hE.out]; simp; omega), rfl⟩
  · by_cases h2 : 122 < r
    · have h3 : ¬ r < 48 := by omega
      have h4 : 57 < r := by omega
      have h5 : ¬ r = 95 := by omega
      go_enter Tryz.func116, Tryz.ntmps116
      go_wp2_with fail
      go_ret
      exact ⟨ret_bool (by rw [hE.out]; simp [h2, h4, h5]), rfl⟩
    · go_enter Tryz.func116, Tryz.ntmps116
      go_wp2_with fail
      go_ret
      exact ⟨ret_bool (by rw [hE.out]; simp; omega), rfl⟩

/-- May it be a name? -/
def kname (s : ByteArray) : Bool :=
  if h : 0 < s.size then
    if 16 < s.size ∨ s[0].toNat < 97 ∨ 122 < s[0].toNat then false else !decide (0 ≤ Lib.idxFunc (fun x => badRune (x : Int)) true s)
  else false

theorem rune_pred (w : World) : PredAtRunes Tryz.prog 116 #[] (fun x => badRune (x : Int)) w := by
  intro W x hx hb
  exact (Rune_calls (x : Int) W).mono fun _ _ ⟨h1, h2⟩ => ⟨h1, 0, by rw [← h2]; rfl⟩

set_option maxHeartbeats 400000 in
theorem KName_calls (s : ByteArray) (w : World) :
    Calls Tryz.prog 90 #[.string s] w fun e w' => e = .returned (.bool (kname s)) ∧ Below w.heap.size w w' := by
  have K1 := Lib.hid (Tryz.strings_ContainsFunc_runes 116 #[] (fun args w => Disk.func_ok ⟨_, Tryz.func116, by kernel_rfl, by kernel_rfl⟩ args w) (fun x => badRune (x : Int)) s w (rune_pred w))
  by_cases h : 0 < s.size
  · have hne : (s.toList == []) = false := by
      rw [ByteArray.toList_eq]
      cases hd : s.data.toList with
      | nil => have : s.size = 0 := by rw [← ByteArray.size_data, ← Array.length_toList, hd]; rfl
               omega
      | cons => rfl
    by_cases hb : 16 < s.size
    · have HE : Hid (kname s = false) := by show _ = _; unfold kname; rw [dif_pos h, if_pos (.inl hb)]
      have hi : (16 : Int) < s.size := by omega
      go_enter Tryz.func90, Tryz.ntmps90
      go_wp2_with fail
      go_ret
      exact ⟨ret_bool (by rw [HE.out]), Below.refl _ _⟩
    · have hi : ¬ (16 : Int) < s.size := by omega
      by_cases hlo : s[0].toNat < 97
      · have HE : Hid (kname s = false) := by show _ = _; unfold kname; rw [dif_pos h, if_pos (.inr (.inl hlo))]
        have hlo' : (s[0].toNat : Int) < 97 := by omega
        go_enter Tryz.func90, Tryz.ntmps90
        go_wp2_with fail
        go_ret
        exact ⟨ret_bool (by rw [HE.out]), Below.refl _ _⟩
      · by_cases hhi : 122 < s[0].toNat
        · have HE : Hid (kname s = false) := by show _ = _; unfold kname; rw [dif_pos h, if_pos (.inr (.inr hhi))]
          have hlo' : ¬ (s[0].toNat : Int) < 97 := by omega
          have hhi' : (122 : Int) < s[0].toNat := by omega
          go_enter Tryz.func90, Tryz.ntmps90
          go_wp2_with fail
          go_ret
          exact ⟨ret_bool (by rw [HE.out]), Below.refl _ _⟩
        · have HE : Hid (kname s = !decide (0 ≤ Lib.idxFunc (fun x => badRune (x : Int)) true s)) := by show _ = _; unfold kname; rw [dif_pos h, if_neg (by omega)]
          have hlo' : ¬ (s[0].toNat : Int) < 97 := by omega
          have hhi' : ¬ (122 : Int) < s[0].toNat := by omega
          go_enter Tryz.func90, Tryz.ntmps90
          go_wp2_with fail
          refine K1.out.mono ?_
          rintro e w1 ⟨rfl, hb1⟩
          go_wp2_with fail
          go_ret
          exact ⟨ret_bool (by rw [HE.out]), hb1⟩
  · have HE : Hid (kname s = false) := by show _ = _; unfold kname; rw [dif_neg h]
    have he : s = ⟨#[]⟩ := by
      apply ByteArray.ext
      apply Array.eq_empty_of_size_eq_zero
      have : s.data.size = s.size := rfl
      omega
    subst he
    go_enter Tryz.func90, Tryz.ntmps90
    go_wp2_with fail
    go_ret
    exact ⟨ret_bool (by rw [HE.out]), Below.refl _ _⟩
end Key
end Go.Proofs.YtlcenkkfcejnbaaGreatDoor
