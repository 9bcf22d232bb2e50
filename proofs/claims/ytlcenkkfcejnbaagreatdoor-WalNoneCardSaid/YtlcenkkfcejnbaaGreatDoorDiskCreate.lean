/- What the closures of Create and Remove make of a disk. -/
import Derived.Test.YtlcenkkfcejnbaaGreatDoorDiskAppend
namespace Go.Proofs.YtlcenkkfcejnbaaGreatDoor
open Go.RowKit
namespace Disk

def Lay.add (L : Lay) (id nb : Nat) : Lay := { L with blk := fun i => if i = id then nb else L.blk i, arr := fun i => if i = id then .slice none 0 0 else L.arr i }
def DS.added (σ : DS) (s : Bytes) : DS := { σ with files := σ.files ++ [{ name := s, id := σ.next, all := [], written := 0 }], next := σ.next + 1 }
def DS.created (σ : DS) (s : Bytes) : DS := (σ.unlink s).added s

theorem flat_congr {α β : Type} {f g : α → List β} : ∀ {l : List α}, (∀ a ∈ l, f a = g a) → l.flatMap f = l.flatMap g
  | [], _ => rfl
  | a :: l, h => by rw [List.flatMap_cons, List.flatMap_cons, h a (List.mem_cons_self ..), flat_congr fun m hm => h m (List.mem_cons_of_mem _ hm)]

theorem DiskAt.add {w w' : World} {d : Nat} {σ : DS} {L : Lay} (h : DiskAt w d σ L) (s : Bytes) (nb : Nat) (hs : ∀ f ∈ σ.files, f.name ≠ s) (hlen : σ.files.length < 48) (hfree : 1 ≤ σ.free)
    (hgood : good s = true) (hnb : w.heap.size ≤ nb) (hp : w'.heap[nb]? = some (.cells #[.slice none 0 0, .int .i64 0] 107 (0, 0))) (hm : MapAt w' L.m (L.kv σ.files ++ [(s, nb)]))
    (ho : ∀ k, L.foot d σ.files k → k ≠ L.m → w'.heap[k]? = w.heap[k]?) : DiskAt w' d (σ.added s) (L.add σ.next nb) := by
  obtain ⟨n1, n2, n3⟩ := h.m_ne
  have hid : ∀ f ∈ σ.files, f.id ≠ σ.next := fun f hf e => by have := h.wf.next f hf; omega
  have hb : ∀ f ∈ σ.files, (L.add σ.next nb).blk f.id = L.blk f.id := fun f hf => by simp [Lay.add, hid f hf]
  have ha : ∀ f ∈ σ.files, (L.add σ.next nb).arr f.id = L.arr f.id := fun f hf => by simp [Lay.add, hid f hf]
  have hlt : ∀ f ∈ σ.files, L.blk f.id < w.heap.size := fun f hf => (h.page hf).lt
  have split : ∀ {x : File}, x ∈ (σ.added s).files → x ∈ σ.files ∨ x = { name := s, id := σ.next, all := [], written := 0 } := fun hx => by
    rcases List.mem_append.1 (show _ ∈ σ.files ++ [_] from hx) with h1 | h1
    · exact .inl h1
    · exact .inr (by simpa using h1)
  have hkv : (L.add σ.next nb).kv (σ.added s).files = L.kv σ.files ++ [(s, nb)] := by
    simp only [Lay.kv, DS.added, List.map_append, List.map_cons, List.map_nil]
    congr 1
    · apply List.map_congr_left
      intro f hf
      rw [hb f hf]
    · simp [Lay.add]
  refine ⟨⟨h.wf.room, ?_, by show (σ.files ++ [_]).length ≤ 48; simp; omega, ?_, ?_, ?_, ?_, h.wf.line, ?_, ?_⟩, ?_, ?_, ?_, ?_, ?_, ?_⟩
  · unfold DS.free at *
    show 0 ≤ σ.room - (used (σ.files ++ [{ name := s, id := σ.next, all := [], written := 0 }]) : Int)
    have : used (σ.files ++ [{ name := s, id := σ.next, all := [], written := 0 }]) = used σ.files + 1 := by simp [used, sectors]
    rw [this]; omega
  · show ((σ.files ++ [_]).map File.name).Nodup
    rw [List.map_append, List.nodup_append]
    refine ⟨h.wf.names, by simp, fun x hx y hy e => ?_⟩
    obtain ⟨f, hf, rfl⟩ := List.mem_map.1 hx
    simp at hy
    exact hs f hf (by rw [e, hy])
  · show ((σ.files ++ [_]).map File.id).Nodup
    rw [List.map_append, List.nodup_append]
    refine ⟨h.wf.ids, by simp, fun x hx y hy e => ?_⟩
    obtain ⟨f, hf, rfl⟩ := List.mem_map.1 hx
    simp at hy
    exact hid f hf (by rw [e, hy])
  · intro f hf
    show f.id < σ.next + 1
    rcases split hf with h1 | rfl
    · have := h.wf.next f h1; omega
    · exact Nat.lt_succ_self _
  · intro f hf
    rcases split hf with h1 | rfl
    · exact h.wf.written f h1
    · exact Nat.le_refl _
  · intro m hm'
    obtain ⟨f, hf, h1, h2⟩ := h.wf.dirty m hm'
    exact ⟨f, List.mem_append_left _ hf, h1, h2⟩
  · intro f hf
    rcases split hf with h1 | rfl
    · exact h.wf.good f h1
    · exact hgood
  · rw [ho d (.inl rfl) (Ne.symm n1)]; exact h.self
  · obtain ⟨es, c, h1, h2, h3⟩ := hm
    refine ⟨es, c, h1, ?_, h3⟩
    rw [h2, ← hkv, kv_pair]
  · intro f hf
    rcases split hf with h1 | rfl
    · have hpf := h.pages f h1
      refine ⟨?_, ?_⟩
      · rw [hb f h1, ha f h1, ho _ (.inr (.inr (.inr ⟨f, h1, .inl rfl⟩))) (n3 f h1).1]; exact hpf.self
      · rw [ha f h1]
        exact ownsRow_keep hpf.arr fun k hk => ho k (.inr (.inr (.inr ⟨f, h1, .inr hk⟩))) fun e => (n3 f h1).2 (e ▸ hk)
    · refine ⟨?_, ?_⟩
      · simp only [Lay.add, if_true]; exact hp
      · simp only [Lay.add, if_true]; exact ⟨rfl, .inl ⟨rfl, rfl⟩⟩
  · have hmk : (L.add σ.next nb).marks σ.line = L.marks σ.line := by
      simp only [Lay.marks]
      have : ∀ m ∈ σ.line, [ptr ((L.add σ.next nb).blk m.1), Value.int .i64 m.2] = [ptr (L.blk m.1), Value.int .i64 m.2] := fun m hm' => by
        obtain ⟨f, hf, h1, _⟩ := h.wf.dirty m hm'
        rw [← h1, hb f hf]
      exact flat_congr this
    show w'.ownsRow 0 _ 2 L.line σ.line.length ((L.add σ.next nb).marks σ.line)
    rw [hmk]
    exact ownsRow_keep h.line fun k hk => ho k (.inr (.inr (.inl hk))) fun e => n2 (e ▸ hk)
  · intro f hf g hg e
    rcases split hf with h1 | rfl <;> rcases split hg with h2 | rfl
    · rw [hb f h1, hb g h2] at e; exact h.blks f h1 g h2 e
    · rw [hb f h1] at e
      have := hlt f h1
      simp only [Lay.add, if_true] at e; omega
    · rw [hb g h2] at e
      have := hlt g h2
      simp only [Lay.add, if_true] at e; omega
    · rfl
  · intro f hf g hg k e1 e2
    rcases split hf with h1 | rfl <;> rcases split hg with h2 | rfl
    · rw [ha f h1] at e1; rw [ha g h2] at e2; exact h.arrs f h1 g h2 k e1 e2
    · simp [Lay.add, Value.ownBlock] at e2
    · simp [Lay.add, Value.ownBlock] at e1
    · rfl

theorem addFoot {w : World} {d : Nat} {σ : DS} {L : Lay} {s : Bytes} (h : DiskAt w d σ L) {k : Nat} (hk : k < w.heap.size) (hf : (L.add σ.next w.heap.size).foot d (σ.added s).files k) : L.foot d σ.files k := by
  rcases hf with h1 | h1 | h1 | ⟨x, hx, h1⟩
  · exact .inl h1
  · exact .inr (.inl h1)
  · exact .inr (.inr (.inl h1))
  · rcases List.mem_append.1 (show x ∈ σ.files ++ [_] from hx) with h2 | h2
    · have hid : x.id ≠ σ.next := fun e => by have := h.wf.next x h2; omega
      refine .inr (.inr (.inr ⟨x, h2, ?_⟩))
      simpa [Lay.add, hid] using h1
    · have h2' : x = { name := s, id := σ.next, all := [], written := 0 } := by simpa using h2
      subst h2'
      simp [Lay.add, Value.ownBlock] at h1
      omega

theorem find_unlink (σ : DS) (s : Bytes) : ∀ f ∈ (σ.unlink s).files, f.name ≠ s := by
  intro f hf
  cases h : σ.find s with
  | none => rw [unlink_none h] at hf; exact find_none h f hf
  | some g =>
    rw [unlink_some h] at hf
    have := (List.mem_filter.1 (show f ∈ σ.files.filter fun g => g.name != s from hf)).2
    simpa using this

set_option maxRecDepth 100000 in
set_option maxHeartbeats 1000000 in
theorem CreateRest_calls (d : Nat) (σ : DS) (L : Lay) (s : ByteArray) (pd ps : Nat) (w : World) (h : DiskAt w d σ L)
    (hpd : w.cell? ⟨pd, 0, none⟩ = some (ptr d)) (hps : w.cell? ⟨ps, 0, none⟩ = some (.string s))
    (hn : (¬ L.foot d σ.files pd ∧ pd < w.heap.size) ∧ (¬ L.foot d σ.files ps ∧ ps < w.heap.size)) (hlen : (σ.unlink s.data.toList).files.length < 48) (hfree : 1 ≤ (σ.unlink s.data.toList).free) (hgood : good s.data.toList = true) :
    Calls Tryz.prog 103 #[.pointer (some ⟨pd, 0, none⟩), .pointer (some ⟨ps, 0, none⟩)] w fun e w' => e = .returned (.tuple #[]) ∧ Reached w d σ L (σ.created s.data.toList) w' := by
  obtain ⟨⟨nd, ld⟩, ns, ls⟩ := hn
  have key := Lib.hid (Unlink_calls d σ L s w h)
  unfold ptr at *
  go_enter Tryz.func103, Tryz.ntmps103
  go_wp2_with fail
  refine key.out.mono ?_
  rintro e w1 ⟨rfl, L1, hst, hbk, har⟩
  have h1 := hst.at_
  have q1 : w1.cell? ⟨pd, 0, none⟩ = some (.pointer (some ⟨d, 0, none⟩)) := by
    rw [World.cell?_of_block (w := w) (a := ⟨pd, 0, none⟩) (hst.chg.block pd ld nd)]; exact hpd
  have q2 : w1.cell? ⟨ps, 0, none⟩ = some (.string s) := by
    rw [World.cell?_of_block (w := w) (a := ⟨ps, 0, none⟩) (hst.chg.block ps ls ns)]; exact hps
  have hc1 := h1.cell 1
  simp only [List.getElem?_toArray, List.getElem?_cons_succ, List.getElem?_cons_zero] at hc1
  have l1 : pd < w1.heap.size := Nat.lt_of_lt_of_le ld hst.chg.size
  have l2 : ps < w1.heap.size := Nat.lt_of_lt_of_le ls hst.chg.size
  have l3 := h1.lt d (.inl rfl)
  have hml := h1.lt L1.m (.inr (.inl rfl))
  have hmap1 : MapAt ((w1.alloc (.cells #[.slice none 0 0, .int .i64 0] 107)).drew) L1.m (L1.kv (σ.unlink s.data.toList).files) := by
    obtain ⟨es, c, m1, m2⟩ := h1.mapAt
    exact ⟨es, c, by show (w1.alloc _).heap[L1.m]? = _; rw [Below.heap_alloc _ _ _ hml]; exact m1, m2⟩
  obtain ⟨w2, hup, hch, hmap2⟩ := hmap1.insert s w1.heap.size (fun p hp => by
    obtain ⟨f, hf, rfl⟩ := List.mem_map.1 hp
    exact find_unlink σ _ f hf)
  have hfin : DiskAt w2 d (σ.created s.data.toList) (L1.add (σ.unlink s.data.toList).next w1.heap.size) := by
    refine h1.add s.data.toList w1.heap.size (find_unlink σ _) hlen hfree hgood (Nat.le_refl _) ?_ hmap2 (fun k hk hkm => ?_)
    · rw [hch.block _ (by show _ < (w1.heap.push _).size; simp) (show ¬ w1.heap.size = L1.m by omega)]
      show (w1.heap.push _)[w1.heap.size]? = _; simp
    · have hkl := h1.lt k hk
      rw [hch.block k (by show k < (w1.heap.push _).size; simp; omega) hkm]
      exact Below.heap_alloc _ _ _ hkl
  have HF := Lib.hid hfin
  have HC := Lib.hid hch
  have HS := Lib.hid hst
  have HB := Lib.hid hbk
  have HR := Lib.hid har
  clear hfin hch hst hbk har hmap1 hmap2 key
  unfold ptr at hup
  go_wp2_with fail
  go_region
  all_goals
    go_wp2_with fail
    go_end0
    exact ⟨rfl, _, HS.out.trans ⟨HF.out, rfl, fun k hk hf => addFoot (L := L1) h1 hk hf, (((Chg.refl _ w1).alloc _).drew).trans (HC.out.mono fun k _ e => (show L1.foot d (σ.unlink s.data.toList).files k from .inr (.inl e)))⟩⟩

set_option maxRecDepth 100000 in
set_option maxHeartbeats 400000 in
theorem RemoveRest_calls (d : Nat) (σ : DS) (L : Lay) (s : ByteArray) (pd ps : Nat) (w : World) (h : DiskAt w d σ L)
    (hpd : w.cell? ⟨pd, 0, none⟩ = some (ptr d)) (hps : w.cell? ⟨ps, 0, none⟩ = some (.string s)) :
    Calls Tryz.prog 79 #[.pointer (some ⟨pd, 0, none⟩), .pointer (some ⟨ps, 0, none⟩)] w fun e w' => e = .returned (.tuple #[]) ∧ Reached w d σ L (σ.unlink s.data.toList) w' := by
  have key := Lib.hid (Unlink_calls d σ L s w h)
  unfold ptr at *
  go_enter Tryz.func79, Tryz.ntmps79
  go_wp2_with fail
  refine key.out.mono ?_
  rintro e w1 ⟨rfl, L1, hst, _, _⟩
  go_wp2
  go_end0
  exact ⟨rfl, L1, hst⟩
end Disk
end Go.Proofs.YtlcenkkfcejnbaaGreatDoor
