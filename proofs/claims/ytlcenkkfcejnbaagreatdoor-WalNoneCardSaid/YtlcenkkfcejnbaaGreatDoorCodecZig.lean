/- codec's Zig, four, and the sum. -/
import Derived.Test.YtlcenkkfcejnbaaGreatDoorCodecPut
namespace Go.Proofs.YtlcenkkfcejnbaaGreatDoor
open Go.RowKit
namespace Codec

theorem xor_ones (a : Nat) (h : a < 18446744073709551616) : a ^^^ 18446744073709551615 = 18446744073709551615 - a := by
  have h1 : a < 2 ^ 64 := by omega
  rw [show 18446744073709551615 - a = 2 ^ 64 - (a + 1) by omega, show (18446744073709551615 : Nat) = 2 ^ 64 - 1 from rfl]
  apply Nat.eq_of_testBit_eq
  intro i
  rw [Nat.testBit_xor, Nat.testBit_two_pow_sub_one, Nat.testBit_two_pow_sub_succ h1]
  by_cases hi : i < 64
  · simp [hi]
  · have : a.testBit i = false := Nat.testBit_lt_two_pow (Nat.lt_of_lt_of_le h1 (Nat.pow_le_pow_right (by decide) (by omega)))
    simp [hi, this]

theorem zig_pos (n : Int) (h0 : 0 ≤ n) (h1 : n ≤ 9223372036854775807) : bits .xor .u64 (n * 2) (n / 9223372036854775808) = (zig n : Nat) := by
  have e : n / 9223372036854775808 = 0 := by omega
  rw [e, u64_xor _ _ (by omega) (by omega) (by omega) (by omega)]
  simp [zig, show ¬ n < 0 by omega]
  omega

theorem zig_neg (n : Int) (h0 : n < 0) (h1 : -9223372036854775808 ≤ n) : bits .xor .u64 (IntKind.u64.wrap (IntKind.u64.wrap n * 2)) (IntKind.u64.wrap (n / 9223372036854775808)) = (zig n : Nat) := by
  have e : IntKind.u64.wrap (n / 9223372036854775808) = 18446744073709551615 := by
    rw [show n / 9223372036854775808 = -1 by omega]; decide
  have e2 : IntKind.u64.wrap (IntKind.u64.wrap n * 2) = 2 * n + 18446744073709551616 := by
    simp [IntKind.wrap, IntKind.signed, IntKind.bits]
    omega
  rw [e, e2, u64_xor _ _ (by omega) (by omega) (by omega) (by omega)]
  have h3 : (18446744073709551615 : Int).toNat = 18446744073709551615 := rfl
  rw [h3, xor_ones _ (by omega)]
  simp [zig, h0]
  omega

set_option maxHeartbeats 400000 in
theorem Zig_calls (n : Int) (w : World) (h0 : -9223372036854775808 ≤ n) (h1 : n ≤ 9223372036854775807) :
    Calls Tryz.prog 59 #[.int .i64 n] w fun e w' => e = .returned (.int .u64 (zig n : Nat)) ∧ w = w' := by
  by_cases hn : 0 ≤ n
  · have H := Lib.hid (zig_pos n hn h1)
    go_enter Tryz.func59, Tryz.ntmps59
    go_wp2_with fail
    go_ret
    exact ⟨ret_int H.out, rfl⟩
  · have H := Lib.hid (zig_neg n (by omega) h0)
    go_enter Tryz.func59, Tryz.ntmps59
    go_wp2_with fail
    go_ret
    exact ⟨ret_int H.out, rfl⟩

set_option maxHeartbeats 400000 in
theorem Four_calls (v : Value) (l : Bytes) (n : Nat) (w : World) (h : w.ownsRow 0 5 1 v l.length (bytesV l)) (hl : l.length ≤ 140737488355000) (hn : n < 4294967296) :
    Calls Tryz.prog 60 #[v, .int .u32 n] w (Put w v (l ++ four n)) := by
  obtain ⟨v', w1, hap, hg1⟩ := run_append_few w v l (four n) [.int .u8 ((n : Int) / 16777216), .int .u8 ((n : Int) / 65536 % 256), .int .u8 ((n : Int) / 256 % 256), .int .u8 ((n : Int) % 256)] (by simp [bytesV, four]; omega) h (by simp [four]; omega) (by simp [four])
  obtain ⟨va, vn, vc, rfl⟩ := Disk.row_slice h
  have HG := Lib.hid hg1
  clear hg1 h
  simp only [four, List.length_cons, List.length_nil] at hap
  go_enter Tryz.func60, Tryz.ntmps60
  go_wp2_with (at_builtin; refine wpList_append_run rfl (.tmp 5) (.tmp 17) 24 rfl _ _ _ _ rfl rfl hap ?_)
  go_ret
  exact ⟨v', rfl, HG.out⟩

theorem crcBit_eq (c : Nat) (h : c < 4294967296) : bits .xor .u32 ((c : Int) / 2) (bits .and .u32 3988292384 (-bits .and .u32 (c : Int) 1 % 4294967296)) = (crcBit c : Nat) := by
  have h1 : bits .and .u32 (c : Int) 1 = ((c % 2 : Nat) : Int) := by
    have := u32_and_nat c 1 h (by decide)
    rw [Nat.and_one_is_mod] at this
    exact this
  have h2 : -((c % 2 : Nat) : Int) % 4294967296 = (((4294967296 - c % 2) % 4294967296 : Nat) : Int) := by omega
  rw [h1, h2]
  have h3 : bits .and .u32 3988292384 ((((4294967296 - c % 2) % 4294967296 : Nat) : Int)) = ((3988292384 &&& ((4294967296 - c % 2) % 4294967296) : Nat) : Int) := u32_and_nat 3988292384 _ (by decide) (by omega)
  rw [h3, show (c : Int) / 2 = ((c / 2 : Nat) : Int) by omega]
  have h4 : 3988292384 &&& ((4294967296 - c % 2) % 4294967296) < 4294967296 := Nat.lt_of_le_of_lt Nat.and_le_left (by decide)
  exact u32_xor_nat _ _ (by omega) h4

set_option maxRecDepth 100000 in
set_option maxHeartbeats 400000 in
theorem Crc_calls (c : Nat) (v : Value) (l : Bytes) (w : World) (h : BytesAt w v l) (hl : l.length ≤ 140737488355328) (hc : c < 4294967296) :
    Calls Tryz.prog 91 #[.int .u32 c, v] w fun e w' => e = .returned (.int .u32 (crc c l : Nat)) ∧ w = w' := by
  obtain ⟨va, vc, rfl⟩ := h.form
  go_enter Tryz.func91, Tryz.ntmps91
  go_wp2_with fail
  go_loop [0, 6, 9, 17] (fun a _ i _ => ∃ k : Nat, i = .int .i64 k ∧ k ≤ l.length ∧ a = .int .u32 (crc c (l.take k) : Nat)) (fun _ _ i _ => l.length - (intOf i).toNat)
  case atStart => exact ⟨0, rfl, Nat.zero_le _, rfl⟩
  case round =>
    obtain ⟨k, rfl, hk, rfl⟩ := hrel
    by_cases hlt : k < l.length
    · have hb : ∃ b off, va = some ⟨b, off, none⟩ ∧ w.cell? ⟨b, off + k, none⟩ = some (.int .u8 (l[k]).toNat) := by
        rcases h with ⟨h1, h2⟩ | ⟨b, off, cc, h1, h2, _, h3⟩
        · rw [h2] at hlt; cases hlt
        · simp only [Value.slice.injEq] at h1
          exact ⟨b, off, h1.1, h3 k hlt⟩
      obtain ⟨b, off, rfl, hcell⟩ := hb
      have hlt1 := crc_lt (l.take k) c hc
      have hx8 := l[k].toNat_lt
      generalize hcc : crc c (l.take k) = cc at hlt1
      have hst := crc_step c l k hlt
      rw [hcc] at hst
      have HST := Lib.hid hst
      have HCC := Lib.hid hcc
      have hxor : bits .xor .u32 (cc : Int) (l[k].toNat : Int) = ((cc ^^^ l[k].toNat : Nat) : Int) := by
        exact u32_xor_nat _ _ hlt1 (by omega)
      have hxl : cc ^^^ l[k].toNat < 4294967296 := Nat.xor_lt_two_pow (n := 32) hlt1 (by omega)
      generalize hd : cc ^^^ l[k].toNat = dd at hxor hxl
      have HDD := Lib.hid hd
      clear hst hcc hd h
      go_wp2_with fail
      go_loop [0, 17] (fun a i => ∃ (j : Nat) (c2 : Nat), i = .int .i64 j ∧ j ≤ 8 ∧ a = .int .u32 c2 ∧ c2 < 4294967296 ∧ Hid (crcN (8 - j) c2 = crcN 8 dd)) (fun _ i => 8 - (intOf i).toNat)
      case atStart => exact ⟨0, dd, rfl, by omega, rfl, hxl, rfl⟩
      case round =>
        obtain ⟨j, c2, rfl, hj, rfl, hc2, hcn⟩ := hrel
        by_cases hj8 : j < 8
        · have hbit := crcBit_eq c2 hc2
          have hl2 := crcBit_lt c2 hc2
          have hcn2 : Hid (crcN (8 - (j + 1)) (crcBit c2) = crcN 8 dd) := by
            have := hcn.out
            rw [show 8 - j = (8 - (j + 1)) + 1 by omega] at this
            exact this
          go_wp2_with fail
          go_round
          case rel => exact ⟨j + 1, crcBit c2, by go_num, by omega, rfl, hl2, hcn2⟩
          case measure => simp [intOf]; omega
        · have hje : j = 8 := by omega
          subst hje
          have hfin : Hid ((c2 : Nat) = crc c (l.take (k + 1))) := by
            have h1 := hcn.out
            show _ = _
            rw [HST.out, HDD.out, ← h1]; rfl
          clear hxor
          go_wp2_with fail
          go_round
          case rel => exact ⟨k + 1, by go_num, by omega, by rw [← hfin.out]⟩
          case measure => simp [intOf]; omega
    · have hke : k = l.length := by omega
      subst hke
      go_wp2_with fail
      go_ret
      exact ⟨ret_int (by first | rfl | rw [List.take_length]), rfl⟩

theorem seal_lt (a b : Bytes) : sealS a b < 4294967296 := by unfold sealS; omega

theorem not_u32 (c : Nat) (h : c < 4294967296) : bits .xor .u32 IntKind.u32.max (c : Int) = ((4294967295 - c : Nat) : Int) := by
  have h1 : c < 2 ^ 32 := by omega
  have h2 : IntKind.u32.max = ((4294967295 : Nat) : Int) := by decide
  rw [h2, u32_xor_nat _ _ (by decide) h]
  congr 1
  rw [show 4294967295 - c = 2 ^ 32 - (c + 1) by omega, show (4294967295 : Nat) = 2 ^ 32 - 1 from rfl]
  apply Nat.eq_of_testBit_eq
  intro i
  rw [Nat.testBit_xor, Nat.testBit_two_pow_sub_one, Nat.testBit_two_pow_sub_succ h1]
  by_cases hi : i < 32
  · simp [hi]
  · have : c.testBit i = false := Nat.testBit_lt_two_pow (Nat.lt_of_lt_of_le h1 (Nat.pow_le_pow_right (by decide) (by omega)))
    simp [hi, this]

set_option maxRecDepth 100000 in
set_option maxHeartbeats 400000 in
theorem Seal_calls (va vb : Value) (a b : Bytes) (w : World) (ha : BytesAt w va a) (hb : BytesAt w vb b) (hal : a.length ≤ 140737488355328) (hbl : b.length ≤ 140737488355328) :
    Calls Tryz.prog 61 #[va, vb] w fun e w' => e = .returned (.int .u32 (sealS a b : Nat)) ∧ w = w' := by
  have h1 := crc_lt a 4294967295 (by decide)
  have h2 := crc_lt b _ h1
  have k1 := Crc_calls 4294967295 va a w ha hal (by decide)
  have k2 := Crc_calls (crc 4294967295 a) vb b w hb hbl h1
  have hs : Hid (bits .xor .u32 IntKind.u32.max ((crc (crc 4294967295 a) b : Nat) : Int) = (sealS a b : Nat)) := not_u32 _ h2
  obtain ⟨a1, c1, rfl⟩ := ha.form
  obtain ⟨a2, c2, rfl⟩ := hb.form
  have K1 := Lib.hid k1
  have K2 := Lib.hid k2
  clear k1 k2
  go_enter Tryz.func61, Tryz.ntmps61
  go_wp2_with fail
  refine K1.out.mono ?_
  rintro e w1 ⟨rfl, rfl⟩
  go_wp2_with fail
  refine K2.out.mono ?_
  rintro e w1 ⟨rfl, rfl⟩
  go_wp2_with fail
  go_ret
  exact ⟨ret_int hs.out, rfl⟩
end Codec
end Go.Proofs.YtlcenkkfcejnbaaGreatDoor
