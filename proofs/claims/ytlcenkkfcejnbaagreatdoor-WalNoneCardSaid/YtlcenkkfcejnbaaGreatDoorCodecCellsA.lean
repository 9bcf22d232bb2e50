/- codec's Cells: the plain half. -/
import Derived.Test.YtlcenkkfcejnbaaGreatDoorCodecUnframe
import Derived.Deep.QuietTactic
import Derived.Deep.DeepCutAuto
import Derived.Deep.RegionHeld3
namespace Go.Proofs.YtlcenkkfcejnbaaGreatDoor
open Go.RowKit
namespace Codec

/-- A cell's ten values. -/
def cellV (c : Cell) : List Value := [.string ⟨c.table.toArray⟩, .string ⟨c.part.toArray⟩, .int .i64 c.row, .string ⟨c.column.toArray⟩, .int .i64 c.time, .bool c.dead, .int .i64 c.loc, .int .i64 c.kind, .int .i64 c.n, .string ⟨c.s.toArray⟩]

def I64 (n : Int) : Prop := -9223372036854775808 ≤ n ∧ n ≤ 9223372036854775807
structure Cell.Fits (c : Cell) : Prop where
  row : I64 c.row
  time : I64 c.time
  loc : I64 c.loc
  kind : I64 c.kind
  n : I64 c.n

/-- A slice that reads as the cells l. -/
def CellsAt (w : World) (v : Value) (l : List Cell) : Prop :=
  (∃ a c, v = .slice a 0 c ∧ l = []) ∨ ∃ g off c, v = .slice (some ⟨g, off, none⟩) l.length c ∧ g < w.heap.size ∧ l.length ≤ c ∧
    ∀ i, (h : i < l.length) → ∀ j x, (cellV l[i])[j]? = some x → w.cell? ⟨g, off + i * 10 + j, none⟩ = some x

theorem CellsAt.form {w : World} {v : Value} {l : List Cell} (h : CellsAt w v l) : ∃ a c, v = .slice a l.length c := by
  rcases h with ⟨a, c, rfl, rfl⟩ | ⟨g, off, c, rfl, _⟩
  · exact ⟨a, c, rfl⟩
  · exact ⟨_, c, rfl⟩

def keyV (c : Cell) : List Value := [.string ⟨c.table.toArray⟩, .string ⟨c.part.toArray⟩, .int .i64 c.row, .string ⟨c.column.toArray⟩]
def verV (c : Cell) : List Value := [.int .i64 c.time, .bool c.dead, .int .i64 c.loc, .int .i64 c.kind, .int .i64 c.n, .string ⟨c.s.toArray⟩]

theorem three_new (w : World) (x y z : Obj) : Below w.heap.size w (((w.alloc x).alloc y).alloc z) :=
  (((Below.refl _ _).alloc (Nat.le_refl _) _).alloc (by simp) _).alloc (by simp; omega) _
theorem three_at1 (w : World) (x y z : Obj) : (((w.alloc x).alloc y).alloc z).drew.heap[w.heap.size + 1]? = some y := by
  show (((w.heap.push x).push y).push z)[w.heap.size + 1]? = _
  rw [Array.getElem?_push_lt (by simp), ← Array.getElem?_eq_getElem, Array.getElem?_push, if_pos (by simp)]
theorem three_at2 (w : World) (x y z : Obj) : (((w.alloc x).alloc y).alloc z).drew.heap[w.heap.size + 1 + 1]? = some z := by
  show (((w.heap.push x).push y).push z)[w.heap.size + 1 + 1]? = _
  rw [Array.getElem?_push, if_pos (by simp)]
theorem text_len (s : Bytes) : (text s).length = (put s.length).length + s.length := by simp [text]
theorem row_below {w w' : World} {v : Value} {l : Bytes} (h : w.ownsRow 0 5 1 v l.length (bytesV l)) (hb : Below w.heap.size w w') : w'.ownsRow 0 5 1 v l.length (bytesV l) := by
  refine ⟨h.1, ?_⟩
  rcases h.2 with h | ⟨g, cap, cur, h2, h3, h4, h5⟩
  · exact .inl h
  · have hg : g < w.heap.size := Disk.IsCells.lt ⟨_, _, h4⟩
    exact .inr ⟨g, cap, cur, h2, h3, by rw [hb.block g hg]; exact h4, h5⟩
theorem cells_part (l : List Cell) (k : Nat) (h : k < l.length) : (put l.length ++ (l.take k).flatMap cell).length + (cell l[k]).length ≤ (cells l).length := by
  have h1 : l = l.take k ++ l[k] :: l.drop (k + 1) := by rw [List.getElem_cons_drop, List.take_append_drop]
  have h2 : (l.flatMap cell).length = ((l.take k).flatMap cell).length + ((cell l[k]).length + ((l.drop (k + 1)).flatMap cell).length) := by
    conv => lhs; rw [h1]
    simp only [List.flatMap_append, List.flatMap_cons, List.length_append]
  unfold cells
  simp only [List.length_append]
  omega
theorem cell_bounds (L : Bytes) (c : Cell) (M : Nat) (h : L.length + (cell c).length ≤ M) :
    L.length + (⟨c.table.toArray⟩ : ByteArray).size ≤ M ∧ (L ++ text c.table).length + (⟨c.part.toArray⟩ : ByteArray).size ≤ M ∧ (L ++ text c.table ++ text c.part).length ≤ M ∧
    (L ++ text c.table ++ text c.part ++ put (zig c.row)).length + (⟨c.column.toArray⟩ : ByteArray).size ≤ M ∧ (L ++ text c.table ++ text c.part ++ put (zig c.row) ++ text c.column).length ≤ M ∧
    (c.dead = false → (L ++ text c.table ++ text c.part ++ put (zig c.row) ++ text c.column ++ put (zig c.time) ++ [0] ++ put (c.kind % 18446744073709551616).toNat ++ put (zig c.n)).length + (⟨c.s.toArray⟩ : ByteArray).size ≤ M) := by
  have hs : ∀ x : Bytes, (⟨x.toArray⟩ : ByteArray).size = x.length := fun x => by simp [ByteArray.size]
  simp only [hs]
  unfold cell at h
  simp only [List.length_append, text_len] at h ⊢
  refine ⟨by omega, by omega, by omega, by omega, by omega, fun hd => ?_⟩
  rw [hd] at h
  simp only [List.length_append, List.length_cons, List.length_nil, text_len, Bool.false_eq_true, if_false] at h ⊢
  omega
theorem zig_lt (n : Int) (h : I64 n) : zig n < 18446744073709551616 := by
  unfold I64 at h; unfold zig; split <;> omega
theorem grown_step {w wr wb w' : World} {v v' : Value} {l l' l2 : Bytes} (h : Disk.NewBytes w l v wr) (hb : Below wr.heap.size wr wb) (hg : Grew wb v l' w' v') (he : l' = l2) : Hid (Disk.NewBytes w l2 v' w') := by
  subst he
  have hb2 : Below w.heap.size w wb := h.2.1.trans (hb.mono h.2.1.size)
  refine ⟨hg.row, hb2.trans (hg.chg.below hb2.size fun k hk => h.2.2 k hk), fun k hk => ?_⟩
  rcases hg.lies k hk with h1 | h1
  · exact h.2.2 k h1
  · exact Nat.le_trans hb2.size h1
theorem keep3 {w w' : World} {b : Nat} {x y z : Value} (hx : w.cell? ⟨b, 3, none⟩ = some x) (hy : w.cell? ⟨b, 4, none⟩ = some y) (hz : w.cell? ⟨b, 5, none⟩ = some z) (h : w'.heap[b]? = w.heap[b]?) :
    w'.cell? ⟨b, 3, none⟩ = some x ∧ w'.cell? ⟨b, 4, none⟩ = some y ∧ w'.cell? ⟨b, 5, none⟩ = some z := ⟨Disk.cell_old hx h, Disk.cell_old hy h, Disk.cell_old hz h⟩
theorem kind_wrap (n : Int) (_h : I64 n) : IntKind.u64.wrap n = (((n % 18446744073709551616).toNat : Nat) : Int) := by
  simp [IntKind.wrap, IntKind.signed, IntKind.bits]; omega
theorem cells_live (l : List Cell) (k : Nat) (h : k < l.length) (c : Cell) (hc : l[k] = c) (hd : c.dead = false) :
    put l.length ++ (l.take k).flatMap cell ++ text c.table ++ text c.part ++ put (zig c.row) ++ text c.column ++ put (zig c.time) ++ [0] ++ put (c.kind % 18446744073709551616).toNat ++ put (zig c.n) ++ text c.s = put l.length ++ (l.take (k + 1)).flatMap cell := by
  subst hc
  rw [List.take_succ_eq_append_getElem h, List.flatMap_append]
  simp [cell, hd]
theorem cells_dead (l : List Cell) (k : Nat) (h : k < l.length) (c : Cell) (hc : l[k] = c) (hd : c.dead = true) :
    put l.length ++ (l.take k).flatMap cell ++ text c.table ++ text c.part ++ put (zig c.row) ++ text c.column ++ put (zig c.time) ++ [1] ++ put (zig c.loc) = put l.length ++ (l.take (k + 1)).flatMap cell := by
  subst hc
  rw [List.take_succ_eq_append_getElem h, List.flatMap_append]
  simp [cell, hd]
/-- The two halves of a cell in new blocks. -/
structure Halves (w : World) (c : Cell) (a b : Nat) (w' : World) : Prop where
  below : Below w.heap.size w w'
  olda : w.heap.size ≤ a
  oldb : w.heap.size ≤ b
  ha : w'.heap[a]? = some (.cells (keyV c).toArray 65 (0, 0))
  hb : w'.heap[b]? = some (.cells (verV c).toArray 69 (0, 0))
end Codec
end Go.Proofs.YtlcenkkfcejnbaaGreatDoor
