/- A segment's name leads back to its number: the plain half. -/
import Derived.Test.YtlcenkkfcejnbaaGreatDoorWalNumber
import Derived.Lib.AtoiTie
import Derived.Test.YtlcenkkfcejnbaaGreatDoorDiskGood
namespace Go.Proofs.YtlcenkkfcejnbaaGreatDoor
open Go.RowKit
namespace Wal
open Go.Lib (decDigits decFrom digitVal nDigits)

theorem digits_range (u : Nat) : ∀ c ∈ decDigits u, 48 ≤ c.toNat ∧ c.toNat ≤ 57 := by
  induction u using Nat.strongRecOn with
  | _ u ih =>
    intro c hc
    rw [decDigits] at hc
    split at hc
    · obtain rfl := List.mem_singleton.1 hc
      simp only [UInt8.toNat_ofNat']; omega
    · rcases List.mem_append.1 hc with h | h
      · exact ih (u / 10) (by omega) c h
      · obtain rfl := List.mem_singleton.1 h
        simp only [UInt8.toNat_ofNat']; omega

theorem decFrom_snoc (l : List UInt8) (b : UInt8) (d : Nat) (hb : digitVal b = some d) : ∀ (acc n : Nat), decFrom acc l = some n → decFrom acc (l ++ [b]) = some (n * 10 + d) := by
  induction l with
  | nil => intro acc n h; simp only [decFrom, Option.some.injEq] at h; subst h; simp [decFrom, hb]
  | cons c l ih =>
    intro acc n h
    simp only [decFrom, List.cons_append] at h ⊢
    cases hd : digitVal c with
    | none => rw [hd] at h; cases h
    | some x => rw [hd] at h; exact ih _ _ h

theorem dec_digits (u : Nat) : decFrom 0 (decDigits u) = some u := by
  induction u using Nat.strongRecOn with
  | _ u ih =>
    rw [decDigits]
    split
    · have : digitVal (UInt8.ofNat (48 + u)) = some u := by unfold digitVal; simp only [UInt8.toNat_ofNat']; rw [if_pos (by omega)]; congr 1; omega
      simp only [decFrom, this, Nat.zero_mul, Nat.zero_add]
    · have hb : digitVal (UInt8.ofNat (48 + u % 10)) = some (u % 10) := by unfold digitVal; simp only [UInt8.toNat_ofNat']; rw [if_pos (by omega)]; congr 1; omega
      rw [decFrom_snoc _ _ _ hb 0 _ (ih (u / 10) (by omega))]
      congr 1; omega

theorem digits_cons (u : Nat) : ∃ c r, decDigits u = c :: r ∧ 48 ≤ c.toNat ∧ c.toNat ≤ 57 := by
  cases h : decDigits u with
  | nil => have := dec_digits u; have h2 := Lib.decDigits_length u; rw [h] at h2; rw [Lib.nDigits] at h2; split at h2 <;> simp at h2
  | cons c r => exact ⟨c, r, rfl, digits_range u c (by rw [h]; exact List.mem_cons_self)⟩

theorem nDigits_le (k : Nat) : ∀ u, 1 ≤ k → u < 10 ^ k → nDigits u ≤ k := by
  induction k with
  | zero => intro u h; omega
  | succ k ih =>
    intro u _ hu
    rw [nDigits]
    split
    · omega
    · have : nDigits (u / 10) ≤ k := ih _ (by rcases Nat.eq_zero_or_pos k with rfl | h
                                              · simp at hu; omega
                                              · omega) (by rw [Nat.pow_succ] at hu; omega)
      omega

theorem itoa_len9 (n : Int) (h0 : 0 ≤ n) (h1 : n ≤ 999999999) : (Lib.itoa n).length ≤ 9 := by
  obtain ⟨u, rfl⟩ : ∃ u : Nat, n = u := ⟨n.toNat, by omega⟩
  rw [Lib.itoa_nonneg, Lib.decDigits_length]
  exact nDigits_le 9 u (by decide) (by omega)

theorem atoi_itoa (n : Int) (h0 : 0 ≤ n) (h1 : n ≤ 999999999) : Lib.atoiAll (Lib.itoa n) = .ok n := by
  obtain ⟨u, rfl⟩ : ∃ u : Nat, n = u := ⟨n.toNat, by omega⟩
  rw [Lib.itoa_nonneg]
  have hlen : (decDigits u).length ≤ 18 := by
    rw [Lib.decDigits_length]
    have := nDigits_le 9 u (by decide) (by omega)
    omega
  rw [Lib.atoiAll_short _ hlen]
  obtain ⟨c, r, hc, h2, h3⟩ := digits_cons u
  have hd := dec_digits u
  rw [hc] at hd ⊢
  have e45 : (c == 45) = false := by rw [beq_eq_false_iff_ne]; rintro rfl; simp at h2
  have e43 : (c == 43) = false := by rw [beq_eq_false_iff_ne]; rintro rfl; simp at h2
  simp only [Lib.atoi, e45, e43, Bool.false_eq_true, if_false, Lib.decNat, List.isEmpty_cons, hd]
  rfl
theorem wname_in {n : Int} (h0 : 1 ≤ n) (h1 : n ≤ 999999999) : wname n = [108, 111, 103, 45] ++ Lib.itoa n := by unfold wname; rw [if_neg (by omega)]
theorem wname_nil (n : Int) : wname n = [] ↔ (n < 1 ∨ 999999999 < n) := by
  constructor
  · intro h
    by_cases hc : n < 1 ∨ 999999999 < n
    · exact hc
    · rw [wname_in (by omega) (by omega)] at h; cases h
  · intro h; unfold wname; rw [if_pos h]

theorem number_name {n : Int} (h0 : 1 ≤ n) (h1 : n ≤ 999999999) : numberOf (wname n) = some n := by
  have hw := wname_in h0 h1
  have hp : Lib.hasPrefix (wname n) [108, 111, 103, 45] = true := by rw [hw]; simp [Lib.hasPrefix]
  have ht : Lib.trimPrefix (wname n) [108, 111, 103, 45] = Lib.itoa n := by unfold Lib.trimPrefix; rw [if_pos hp, hw]; rfl
  unfold numberOf
  rw [ht, if_pos ⟨hp, itoa_len9 n (by omega) h1⟩, atoi_itoa n (by omega) h1]
  simp

theorem name_number {s : Bytes} {n : Int} (h : numberOf s = some n) : wname n = s := by
  unfold numberOf at h
  split at h
  · split at h
    · split at h
      · rename_i v _ hv
        cases h; exact hv
      · cases h
    · cases h
  · cases h

theorem goodFrom_all (l : List UInt8) : ∀ i, 0 < i → (∀ c ∈ l, Disk.goodAt i c = true ∧ (48 ≤ c.toNat ∧ c.toNat ≤ 57)) → Disk.goodFrom i l = true := by
  induction l with
  | nil => intros; rfl
  | cons c l ih =>
    intro i hi h
    have hd : ∀ j, 0 < j → ∀ x ∈ l, Disk.goodAt j x = true ∧ (48 ≤ x.toNat ∧ x.toNat ≤ 57) := fun j hj x hx => by
      have h2 := (h x (List.mem_cons_of_mem _ hx)).2
      refine ⟨?_, h2⟩
      have : (j != 0) = true := by simp; omega
      have h3 : Disk.other x = true := by
        unfold Disk.other
        have : (48 ≤ x && x ≤ 57) = true := by simp [UInt8.le_iff_toNat_le]; exact h2
        rw [this]; rfl
      simp [Disk.goodAt, this, h3]
    unfold Disk.goodFrom
    rw [(h c List.mem_cons_self).1, ih (i + 1) (by omega) (hd (i + 1) (by omega))]
    rfl

theorem wname_good {n : Int} (h0 : 1 ≤ n) (h1 : n ≤ 999999999) : Disk.good (wname n) = true := by
  have hl := itoa_len9 n (by omega) h1
  rw [wname_in h0 h1]
  unfold Disk.good
  have hr : ∀ c ∈ Lib.itoa n, Disk.goodAt 4 c = true ∧ (48 ≤ c.toNat ∧ c.toNat ≤ 57) := fun x hx => by
    obtain ⟨u, rfl⟩ : ∃ u : Nat, n = u := ⟨n.toNat, by omega⟩
    rw [Lib.itoa_nonneg] at hx
    have h2 := digits_range u x hx
    refine ⟨?_, h2⟩
    have h3 : Disk.other x = true := by
      unfold Disk.other
      have : (48 ≤ x && x ≤ 57) = true := by simp [UInt8.le_iff_toNat_le]; exact h2
      rw [this]; rfl
    simp [Disk.goodAt, h3]
  have h4 : Disk.goodFrom 0 ([108, 111, 103, 45] ++ Lib.itoa n) = Disk.goodFrom 4 (Lib.itoa n) := by rfl
  rw [h4, goodFrom_all _ 4 (by decide) hr]
  simp; omega
end Wal
end Go.Proofs.YtlcenkkfcejnbaaGreatDoor
