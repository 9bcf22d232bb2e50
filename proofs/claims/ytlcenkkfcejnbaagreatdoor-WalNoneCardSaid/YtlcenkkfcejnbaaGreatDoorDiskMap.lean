/- The map of names: what a delete and a store of a new key make of it. -/
import Derived.Test.YtlcenkkfcejnbaaGreatDoorDiskForget
namespace Go.Proofs.YtlcenkkfcejnbaaGreatDoor
open Go.RowKit
open Go.ChangeMaps (setBlock)
namespace Disk

def entry (p : Bytes × Nat) : Value × Value := (.string (str p.1), ptr p.2)
def MapAt (w : World) (m : Nat) (kv : List (Bytes × Nat)) : Prop :=
  ∃ es clock, w.heap[m]? = some (.map es clock) ∧ es.toList.map (fun e => (e.key, e.val)) = kv.map entry ∧ (es.toList.map (·.born)).Nodup ∧ ∀ e ∈ es.toList, e.born < clock

def Lay.kv (L : Lay) (l : List File) : List (Bytes × Nat) := l.map fun f => (f.name, L.blk f.id)
theorem kv_pair (L : Lay) (l : List File) : (L.kv l).map entry = l.map (pair L) := by
  simp [Lay.kv, entry, pair, Lay.page, Function.comp_def]
theorem DiskAt.mapAt {w : World} {d : Nat} {σ : DS} {L : Lay} (h : DiskAt w d σ L) : MapAt w L.m (L.kv σ.files) := by
  obtain ⟨es, c, h1, h2, h3⟩ := h.map
  exact ⟨es, c, h1, by rw [kv_pair]; exact h2, h3⟩

theorem findNow_kv (s : ByteArray) : ∀ (l : List (Bytes × Nat)) (es : List MapEntry) (i : Nat), es.map (fun e => (e.key, e.val)) = l.map entry →
    Instr.findNow .string (.string s) es i = some ((l.findIdx? fun p => p.1 == s.data.toList).bind fun j => (l[j]?).map fun p => (i + j, ptr p.2)) := by
  intro l
  induction l with
  | nil =>
    intro es i h
    obtain rfl : es = [] := by simpa using h
    simp [Instr.findNow]
  | cons f l ih =>
    intro es i h
    cases es with
    | nil => simp at h
    | cons e es =>
      simp only [List.map_cons, List.cons.injEq, entry, Prod.mk.injEq] at h
      obtain ⟨⟨hk, hv⟩, ht⟩ := h
      simp only [Instr.findNow, hk, Instr.sameNow, str_eq]
      rw [List.findIdx?_cons]
      cases hb : (f.1 == s.data.toList)
      · simp only [Bool.false_eq_true, if_false]
        rw [ih es (i + 1) ht]
        congr 1
        cases (l.findIdx? fun p => p.1 == s.data.toList) with
        | none => rfl
        | some j => simp [Nat.add_assoc, Nat.add_comm 1 j]
      · simp [hv]

theorem erase_filter (s : Bytes) : ∀ (l : List (Bytes × Nat)) (j : Nat), (l.map (·.1)).Nodup → (l.findIdx? fun p => p.1 == s) = some j → l.eraseIdx j = l.filter fun p => p.1 != s := by
  intro l
  induction l with
  | nil => intro j _ h; simp at h
  | cons a l ih =>
    intro j hn h
    rw [List.map_cons, List.nodup_cons] at hn
    rw [List.findIdx?_cons] at h
    cases hb : (a.1 == s)
    · rw [hb] at h
      simp only [Bool.false_eq_true, if_false, Option.map_eq_some_iff] at h
      obtain ⟨i, hi, rfl⟩ := h
      have : (a.1 != s) = true := by simp [bne, hb]
      rw [List.eraseIdx_cons_succ, List.filter_cons, if_pos this, ih i hn.2 hi]
    · rw [hb] at h
      simp only [if_true, Option.some.injEq] at h
      subst h
      have : (a.1 != s) = false := by simp [bne, hb]
      have hs : a.1 = s := by simpa using hb
      rw [List.eraseIdx_cons_zero, List.filter_cons, this]
      symm
      simp only [Bool.false_eq_true, if_false]
      rw [List.filter_eq_self]
      intro x hx
      simp only [bne_iff_ne, ne_eq]
      intro e
      exact hn.1 (List.mem_map.2 ⟨x, hx, by rw [e, hs]⟩)

theorem map_erase {α β : Type} (g : α → β) : ∀ (l : List α) (j : Nat), (l.eraseIdx j).map g = (l.map g).eraseIdx j
  | [], _ => rfl
  | _ :: _, 0 => rfl
  | a :: l, j + 1 => by simp only [List.eraseIdx_cons_succ, List.map_cons, map_erase g l j]

theorem setBlock_get {w : World} {m : Nat} {o o' : Obj} (h : w.heap[m]? = some o) : (setBlock w m o').heap[m]? = some o' := by
  have hlt : m < w.heap.size := by
    rcases Nat.lt_or_ge m w.heap.size with h' | h'
    · exact h'
    · simp [Array.getElem?_eq_none h'] at h
  simp [setBlock, hlt]
theorem setBlock_chg (w : World) (m : Nat) (o : Obj) : Chg (· = m) w (setBlock w m o) :=
  ⟨rfl, rfl, rfl, by simp [setBlock], fun k _ hk => by simp [setBlock, Ne.symm hk]⟩

theorem und_map : Tryz.prog.underlying 98 = some (.map 9 103) := by kernel_rfl
theorem und_string : Tryz.prog.underlying 9 = some .string := by kernel_rfl
theorem check_string (b : Bool) (s : ByteArray) (w : World) : (Instr.checkKey b 10000 9 (.string s)).run Tryz.prog w = .ok () w := by
  rw [Instr.checkKey]
  simp only [Sem.run_bind, run_underlying und_string, Result.andThen]
  rfl

theorem MapAt.delete {w : World} {m : Nat} {kv : List (Bytes × Nat)} (h : MapAt w m kv) (hn : (kv.map (·.1)).Nodup) (s : ByteArray) :
    ∃ w', (∀ ty, (Builtin.delete_ #[98, 9] ty #[.map (some m), .string s]).run Tryz.prog w = .ok (.tuple #[]) w') ∧ Chg (· = m) w w' ∧ MapAt w' m (kv.filter fun p => p.1 != s.data.toList) := by
  obtain ⟨es, clock, h1, h2, h3, h4⟩ := h
  have hf := findNow_kv s kv es.toList 0 h2
  cases hj : (kv.findIdx? fun p => p.1 == s.data.toList) with
  | none =>
    rw [hj] at hf
    refine ⟨setBlock w m (.map es clock), fun ty => ?_, setBlock_chg _ _ _, es, clock, setBlock_get h1, ?_, h3, h4⟩
    · simp only [Option.bind_none] at hf
      simp [Builtin.delete_, run_underlying und_map, check_string, MapKept.run_getObj_map h1, MapKept.run_setObj_map _ h1, Instr.findKey, run_underlying und_string, hf, Result.andThen, setBlock]
    · rw [h2]
      congr 1
      symm
      rw [List.filter_eq_self]
      intro p hp
      have := List.findIdx?_eq_none_iff.1 hj p hp
      simp only [bne, this, Bool.not_false]
  | some j =>
    have hlt : j < kv.length := (List.findIdx?_eq_some_iff_findIdx_eq.1 hj).1
    rw [hj] at hf
    refine ⟨setBlock w m (.map (es.eraseIdxIfInBounds j) clock), fun ty => ?_, setBlock_chg _ _ _, _, clock, setBlock_get h1, ?_, ?_, ?_⟩
    · simp only [Option.bind_some, List.getElem?_eq_getElem hlt, Option.map_some, Nat.zero_add] at hf
      simp [Builtin.delete_, run_underlying und_map, check_string, MapKept.run_getObj_map h1, MapKept.run_setObj_map _ h1, Instr.findKey, run_underlying und_string, hf, Result.andThen, setBlock]
    · have : (es.eraseIdxIfInBounds j).toList = es.toList.eraseIdx j := by simp
      rw [this, map_erase, h2, ← map_erase, erase_filter _ kv j hn hj]
    · have : (es.eraseIdxIfInBounds j).toList = es.toList.eraseIdx j := by simp
      rw [this, map_erase]
      exact h3.sublist (List.eraseIdx_sublist _ _)
    · have : (es.eraseIdxIfInBounds j).toList = es.toList.eraseIdx j := by simp
      rw [this]
      intro e he
      exact h4 e (List.mem_of_mem_eraseIdx he)

theorem MapAt.insert {w : World} {m : Nat} {kv : List (Bytes × Nat)} (h : MapAt w m kv) (s : ByteArray) (b : Nat) (hn : ∀ p ∈ kv, p.1 ≠ s.data.toList) :
    ∃ w', (Instr.mapUpdate 98 (.map (some m)) (.string s) (ptr b)).run Tryz.prog w = .ok () w' ∧ Chg (· = m) w w' ∧ MapAt w' m (kv ++ [(s.data.toList, b)]) := by
  obtain ⟨es, clock, h1, h2, h3, h4⟩ := h
  have hf := findNow_kv s kv es.toList 0 h2
  have hj : (kv.findIdx? fun p => p.1 == s.data.toList) = none := by
    rw [List.findIdx?_eq_none_iff]
    intro p hp
    simpa using hn p hp
  rw [hj] at hf
  simp only [Option.bind_none] at hf
  refine ⟨setBlock w m (.map (es.push { key := .string s, val := ptr b, born := clock }) (clock + 1)), ?_, setBlock_chg _ _ _, _, _, setBlock_get h1, ?_, ?_, ?_⟩
  · simp [Instr.mapUpdate, run_underlying und_map, check_string, MapKept.run_getObj_map h1, MapKept.run_setObj_map _ h1, Instr.findKey, run_underlying und_string, hf, Result.andThen, setBlock]
  · simp [h2, entry, str_of]
  · simp only [Array.toList_push, List.map_append, List.map_cons, List.map_nil]
    rw [List.nodup_append]
    refine ⟨h3, by simp, ?_⟩
    intro a ha b hb
    obtain ⟨e, he, rfl⟩ := List.mem_map.1 ha
    have := h4 e he
    simp at hb
    omega
  · intro e he
    simp at he
    rcases he with he | rfl
    · have := h4 e (by simpa using he); omega
    · simp
end Disk
end Go.Proofs.YtlcenkkfcejnbaaGreatDoor
