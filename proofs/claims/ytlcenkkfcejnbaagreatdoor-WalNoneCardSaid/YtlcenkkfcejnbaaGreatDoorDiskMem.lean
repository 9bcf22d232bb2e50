/- How a disk lies in memory, and what the operations on its map of names give. -/
import Derived.Test.YtlcenkkfcejnbaaGreatDoorDiskSpec
import Derived.Test.YtlcenkkfcejnbaaGreatDoorAppend
import Derived.Maps.RangeRun
import Derived.MapKept
namespace Go.Proofs.YtlcenkkfcejnbaaGreatDoor
open Go.RowKit
open Go.ChangeMaps (setBlock)
namespace Disk

def str (l : Bytes) : ByteArray := ⟨l.toArray⟩
theorem str_list (l : Bytes) : (str l).data.toList = l := by simp [str]
theorem str_of (s : ByteArray) : str s.data.toList = s := by simp [str]
theorem str_eq (s : ByteArray) (l : Bytes) : (s == str l) = (l == s.data.toList) := by
  rw [beq_toListBytes, ByteArray.toList_eq, ByteArray.toList_eq, str_list, Bool.eq_iff_iff, beq_iff_eq, beq_iff_eq]
  exact eq_comm

/-- Where a disk's parts lie. -/
structure Lay where
  m : Nat
  line : Value
  blk : Nat → Nat
  arr : Nat → Value

def ptr (b : Nat) : Value := .pointer (some ⟨b, 0, none⟩)
def Lay.page (L : Lay) (f : File) : Value := ptr (L.blk f.id)
def Lay.marks (L : Lay) (l : List (Nat × Nat)) : List Value := l.flatMap fun m => [ptr (L.blk m.1), .int .i64 m.2]
def pair (L : Lay) (f : File) : Value × Value := (.string (str f.name), L.page f)

def Lay.foot (L : Lay) (d : Nat) (l : List File) (k : Nat) : Prop :=
  k = d ∨ k = L.m ∨ L.line.ownBlock = some k ∨ ∃ f ∈ l, k = L.blk f.id ∨ (L.arr f.id).ownBlock = some k

structure PageAt (w : World) (L : Lay) (f : File) : Prop where
  self : w.heap[L.blk f.id]? = some (.cells #[L.arr f.id, .int .i64 f.written] 107 (0, 0))
  arr : w.ownsRow 0 5 1 (L.arr f.id) f.all.length (bytesV f.all)

structure DiskAt (w : World) (d : Nat) (σ : DS) (L : Lay) : Prop where
  wf : σ.Wf
  self : w.heap[d]? = some (.cells #[.int .i64 σ.room, .map (some L.m), L.line, .bool σ.dark, .int .i64 σ.ops, .int .i64 σ.plan, .int .i64 σ.keep] 101 (0, 0))
  map : ∃ es clock, w.heap[L.m]? = some (.map es clock) ∧ es.toList.map (fun e => (e.key, e.val)) = σ.files.map (pair L) ∧ (es.toList.map (·.born)).Nodup ∧ ∀ e ∈ es.toList, e.born < clock
  pages : ∀ f ∈ σ.files, PageAt w L f
  line : w.ownsRow 0 105 2 L.line σ.line.length (L.marks σ.line)
  blks : ∀ f ∈ σ.files, ∀ g ∈ σ.files, L.blk f.id = L.blk g.id → f = g
  arrs : ∀ f ∈ σ.files, ∀ g ∈ σ.files, ∀ k, (L.arr f.id).ownBlock = some k → (L.arr g.id).ownBlock = some k → f = g

def findV (L : Lay) (σ : DS) (s : Bytes) : Value := match σ.find s with | some f => L.page f | none => .pointer none

theorem findNow_files (L : Lay) (s : ByteArray) : ∀ (l : List File) (es : List MapEntry) (i : Nat), es.map (fun e => (e.key, e.val)) = l.map (pair L) →
    Instr.findNow .string (.string s) es i = some ((l.findIdx? fun f => f.name == s.data.toList).bind fun j => (l[j]?).map fun f => (i + j, L.page f)) := by
  intro l
  induction l with
  | nil =>
    intro es i h
    obtain rfl : es = [] := by simpa using h
    simp [Instr.findNow]
  | cons f l ih =>
    intro es i h
    cases es with
    | nil => simp at h
    | cons e es =>
      simp only [List.map_cons, List.cons.injEq, pair, Prod.mk.injEq] at h
      obtain ⟨⟨hk, hv⟩, ht⟩ := h
      simp only [Instr.findNow, hk, Instr.sameNow, str_eq]
      rw [List.findIdx?_cons]
      cases hb : (f.name == s.data.toList)
      · simp only [Bool.false_eq_true, if_false]
        rw [ih es (i + 1) ht]
        congr 1
        cases (l.findIdx? fun f => f.name == s.data.toList) with
        | none => rfl
        | some j => simp [Nat.add_assoc, Nat.add_comm 1 j]
      · simp [hv]

theorem find_idx (σ : DS) (s : Bytes) : σ.find s = (σ.files.findIdx? fun f => f.name == s).bind fun j => σ.files[j]? := by
  unfold DS.find
  induction σ.files with
  | nil => rfl
  | cons f l ih =>
    rw [List.find?_cons, List.findIdx?_cons]
    cases hb : (f.name == s)
    · simp only [Bool.false_eq_true, if_false, ih]
      cases (l.findIdx? fun f => f.name == s) with
      | none => rfl
      | some j => simp
    · simp

theorem run_look (w : World) (d : Nat) (σ : DS) (L : Lay) (h : DiskAt w d σ L) (s : ByteArray) :
    (Instr.lookup 98 (.map (some L.m)) (.string s) false).run Tryz.prog w = .ok (findV L σ s.data.toList) w := by
  obtain ⟨es, clock, hm, hes, _, _⟩ := h.map
  have h1 : Tryz.prog.underlying 98 = some (.map 9 103) := by kernel_rfl
  have h2 : Tryz.prog.underlying 9 = some .string := by kernel_rfl
  have h3 : (zeroValue 103).run Tryz.prog w = .ok (.pointer none) w := by
    have : (Tryz.prog.info? 103).map (·.zero) = some (some (.pointer none)) := by kernel_rfl
    cases hi : Tryz.prog.info? 103 with
    | none => rw [hi] at this; cases this
    | some i => 
      rw [hi] at this
      simp at this
      simp [zeroValue, typeInfo, hi, this]
  have hc : ∀ b w, (Instr.checkKey b 10000 9 (.string s)).run Tryz.prog w = .ok () w := by
    intro b w
    rw [Instr.checkKey]
    simp only [Sem.run_bind, run_underlying h2, Result.andThen]
    rfl
  simp only [Instr.lookup, Sem.run_bind, run_underlying h1, Result.andThen, getObj, Sem.run, hm]
  simp only [Sem.run_bind, Sem.run_pure, Result.andThen, hc, Instr.findKey, run_underlying h2, findNow_files L s σ.files es.toList 0 hes]
  unfold findV
  rw [find_idx]
  cases hj : (σ.files.findIdx? fun f => f.name == s.data.toList) with
  | none => simp [h3]
  | some j =>
    have hlt : j < σ.files.length := (List.findIdx?_eq_some_iff_findIdx_eq.1 hj).1
    simp [List.getElem?_eq_getElem hlt]
end Disk
end Go.Proofs.YtlcenkkfcejnbaaGreatDoor
