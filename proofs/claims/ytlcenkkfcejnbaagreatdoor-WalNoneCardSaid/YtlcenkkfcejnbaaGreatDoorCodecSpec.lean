/- How numbers, texts, cells and frames stand in bytes, as plain data. -/
import Derived.Test.YtlcenkkfcejnbaaGreatDoorBase
namespace Go.Proofs.YtlcenkkfcejnbaaGreatDoor
open Go.RowKit
namespace Codec
abbrev Bytes := List UInt8

def putF : Nat → Nat → Bytes
  | 0, u => [UInt8.ofNat u]
  | k + 1, u => if 127 < u then UInt8.ofNat (u % 128 + 128) :: putF k (u / 128) else [UInt8.ofNat u]
/-- A number's digits to base 128. -/
def put (u : Nat) : Bytes := putF 10 u

def getFrom : Nat → Nat → Bytes → Nat × Nat
  | _, _, [] => (0, 0)
  | i, u, x :: l =>
    if (i = 9 ∧ 1 < x.toNat) ∨ (0 < i ∧ x.toNat = 0) then (0, 0)
    else if x.toNat < 128 then (u + x.toNat % 128 * 128 ^ i, i + 1) else getFrom (i + 1) (u + x.toNat % 128 * 128 ^ i) l
def get (b : Bytes) : Nat × Nat := getFrom 0 0 b

def zig (n : Int) : Nat := if n < 0 then (-2 * n - 1).toNat else (2 * n).toNat
def zag (u : Nat) : Int := if u % 2 = 1 then -((u / 2 : Nat) : Int) - 1 else ((u / 2 : Nat) : Int)

def text (s : Bytes) : Bytes := put s.length ++ s
def getText (b : Bytes) : Bytes × Nat :=
  let r := get b
  if r.2 = 0 ∨ b.length - r.2 < r.1 then ([], 0) else ((b.drop r.2).take r.1, r.2 + r.1)

structure Cell where
  table : Bytes
  part : Bytes
  row : Int
  column : Bytes
  time : Int
  dead : Bool
  loc : Int
  kind : Int
  n : Int
  s : Bytes
  deriving DecidableEq, Repr

def cell (c : Cell) : Bytes :=
  text c.table ++ text c.part ++ put (zig c.row) ++ text c.column ++ put (zig c.time) ++
    if c.dead then 1 :: put (zig c.loc) else 0 :: (put (c.kind % 18446744073709551616).toNat ++ put (zig c.n) ++ text c.s)
def cells (l : List Cell) : Bytes := put l.length ++ l.flatMap cell

def four (n : Nat) : Bytes := [UInt8.ofNat (n / 16777216), UInt8.ofNat (n / 65536), UInt8.ofNat (n / 256), UInt8.ofNat n]
def fourth (b : Bytes) : Nat := (b.take 4).foldl (fun n x => (n * 256 + x.toNat) % 4294967296) 0

def crcBit (c : Nat) : Nat := (c / 2) ^^^ (3988292384 &&& ((4294967296 - c % 2) % 4294967296))
def crcN : Nat → Nat → Nat
  | 0, c => c
  | k + 1, c => crcN k (crcBit c)
def crc (c : Nat) (l : Bytes) : Nat := l.foldl (fun c x => crcN 8 (c ^^^ x.toNat)) c
def sealS (count b : Bytes) : Nat := 4294967295 - crc (crc 4294967295 count) b
def frame (b : Bytes) : Bytes := if 262144 < b.length then [] else four b.length ++ four (sealS (four b.length) b) ++ b
/-- The content, how many bytes, and the error. -/
def unframe (b : Bytes) : Bytes × Nat × Int :=
  if b.length < 8 then ([], 0, 10)
  else if 262144 < fourth b then ([], 0, 6)
  else if b.length - 8 < fourth b then ([], 0, 10)
  else if sealS (b.take 4) ((b.drop 8).take (fourth b)) ≠ fourth (b.drop 4) then ([], 0, 8)
  else ((b.drop 8).take (fourth b), fourth b + 8, 0)

theorem crcBit_lt (c : Nat) (h : c < 4294967296) : crcBit c < 4294967296 := by
  unfold crcBit
  have h1 : c / 2 < 2 ^ 32 := by omega
  have h2 : 3988292384 &&& ((4294967296 - c % 2) % 4294967296) < 2 ^ 32 := Nat.lt_of_le_of_lt Nat.and_le_left (by omega)
  exact Nat.xor_lt_two_pow h1 h2
theorem crcN_lt (k c : Nat) (h : c < 4294967296) : crcN k c < 4294967296 := by
  induction k generalizing c with
  | zero => exact h
  | succ k ih => exact ih _ (crcBit_lt c h)
theorem crc_lt (l : Bytes) (c : Nat) (h : c < 4294967296) : crc c l < 4294967296 := by
  unfold crc
  induction l generalizing c with
  | nil => exact h
  | cons x l ih =>
    simp only [List.foldl_cons]
    exact ih _ (crcN_lt 8 _ (Nat.xor_lt_two_pow (n := 32) (by omega) (by have := x.toNat_lt; omega)))
theorem crc_step (c : Nat) (l : Bytes) (k : Nat) (h : k < l.length) : crc c (l.take (k + 1)) = crcN 8 (crc c (l.take k) ^^^ l[k].toNat) := by
  unfold crc
  rw [List.take_succ_eq_append_getElem h, List.foldl_append]
  rfl
end Codec
end Go.Proofs.YtlcenkkfcejnbaaGreatDoor
