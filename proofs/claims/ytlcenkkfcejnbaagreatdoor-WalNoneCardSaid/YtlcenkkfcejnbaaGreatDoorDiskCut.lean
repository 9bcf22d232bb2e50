/- The plain side of a crash: which pages are cut, and how the disk then lies. -/
import Derived.Test.YtlcenkkfcejnbaaGreatDoorDiskSync
namespace Go.Proofs.YtlcenkkfcejnbaaGreatDoor
open Go.RowKit
namespace Disk

def cutV : Value → Nat → Value
  | .slice a _ c, k => .slice a k c
  | v, _ => v
def cutFile (f : File) : File := { f with all := f.all.take f.written }
def DS.cut (σ : DS) : DS := { σ with files := σ.files.map cutFile, line := [], dark := true }
def wOf (l : List File) (i : Nat) : Nat := ((l.find? fun f => f.id == i).map (·.written)).getD 0
def Lay.cut (L : Lay) (l : List File) : Lay := { L with line := .slice none 0 0, arr := fun i => cutV (L.arr i) (wOf l i) }

theorem DS.Wf.wOf {σ : DS} (h : σ.Wf) {f : File} (hf : f ∈ σ.files) : wOf σ.files f.id = f.written := by
  unfold Disk.wOf
  cases hx : σ.files.find? (fun g => g.id == f.id) with
  | none => have := List.find?_eq_none.1 hx f hf; simp at this
  | some g =>
    have h1 := List.mem_of_find?_eq_some hx
    have h2 := List.find?_some hx
    rw [h.same_id h1 hf (by simpa using h2)]; rfl

theorem sectors_mono {a b : Nat} (h : a ≤ b) : sectors a ≤ sectors b := by unfold sectors; omega
theorem used_cut (l : List File) : used (l.map cutFile) ≤ used l := by
  induction l with
  | nil => simp
  | cons a l ih =>
    have := sectors_mono (a := (cutFile a).all.length) (b := a.all.length) (by simp [cutFile]; omega)
    simp [used] at ih ⊢; omega

theorem cut_row {w : World} {v : Value} {n k : Nat} {l : Bytes} (h : w.ownsRow 0 5 1 v l.length (bytesV l)) (hk : k ≤ l.length) (hn : n = k) : w.ownsRow 0 5 1 (cutV v n) (l.take k).length (bytesV (l.take k)) := by
  subst hn
  refine ⟨by simp [bytesV], ?_⟩
  rcases h.2 with ⟨h1, h2⟩ | ⟨g, cap, cur, h1, h2, h3, h4, h5, h6, h7⟩
  · refine .inl ⟨?_, by simp; omega⟩
    subst h1
    simp only [cutV]
    rw [show n = 0 by omega]
  · refine .inr ⟨g, cap, cur, ?_, h2, h3, by simp; omega, h5, h6, ?_⟩
    · subst h1; simp only [cutV]; rw [List.length_take]; congr 1; omega
    · rw [show (l.take n).length * 1 = min n (l.length * 1) by simp, ← List.take_take, h7]
      simp [bytesV]

theorem cutV_own (v : Value) (k : Nat) : (cutV v k).ownBlock = v.ownBlock := by
  cases v <;> try rfl
  rename_i a _ _
  cases a <;> rfl

/-- All pages cut, the line gone, the power off. -/
theorem DiskAt.cut {w w' : World} {d : Nat} {σ : DS} {L : Lay} (h : DiskAt w d σ L)
    (hs : w'.heap[d]? = some (.cells #[.int .i64 σ.room, .map (some L.m), .slice none 0 0, .bool true, .int .i64 σ.ops, .int .i64 σ.plan, .int .i64 σ.keep] 101 (0, 0)))
    (hp : ∀ f ∈ σ.files, w'.heap[L.blk f.id]? = some (.cells #[cutV (L.arr f.id) f.written, .int .i64 f.written] 107 (0, 0)))
    (ho : ∀ k, L.foot d σ.files k → k ≠ d → (∀ f ∈ σ.files, k ≠ L.blk f.id) → w'.heap[k]? = w.heap[k]?) : DiskAt w' d σ.cut (L.cut σ.files) := by
  obtain ⟨n1, n2, n3⟩ := h.m_ne
  refine ⟨⟨h.wf.room, ?_, by show (σ.files.map cutFile).length ≤ 48; rw [List.length_map]; exact h.wf.most, ?_, ?_, ?_, ?_, List.nodup_nil, (fun m hm => by cases hm), ?_⟩, hs, ?_, ?_, ⟨rfl, .inl ⟨rfl, rfl⟩⟩, ?_, ?_⟩
  · have h1 := h.wf.free
    have h2 := used_cut σ.files
    unfold DS.free at *
    show 0 ≤ σ.room - (used (σ.files.map cutFile) : Int)
    omega
  · show ((σ.files.map cutFile).map _).Nodup
    rw [List.map_map]; exact h.wf.names
  · show ((σ.files.map cutFile).map _).Nodup
    rw [List.map_map]; exact h.wf.ids
  · intro f hf
    obtain ⟨g, hg, rfl⟩ := List.mem_map.1 hf
    exact h.wf.next g hg
  · intro f hf
    obtain ⟨g, hg, rfl⟩ := List.mem_map.1 hf
    have := h.wf.written g hg
    simp [cutFile]; omega
  · intro f hf
    obtain ⟨g, hg, rfl⟩ := List.mem_map.1 hf
    exact h.wf.good g hg
  · obtain ⟨es, c, h1, h2, h3⟩ := h.map
    refine ⟨es, c, ?_, ?_, h3⟩
    · show w'.heap[L.m]? = _
      rw [ho L.m (.inr (.inl rfl)) n1 (fun f hf => (n3 f hf).1.symm)]; exact h1
    · rw [h2]
      show _ = (σ.files.map cutFile).map (pair _)
      rw [List.map_map]; rfl
  · intro f hf
    obtain ⟨g, hg, rfl⟩ := List.mem_map.1 hf
    have hpg := h.pages g hg
    have hw := h.wf.wOf hg
    refine ⟨?_, ?_⟩
    · show w'.heap[L.blk g.id]? = some (.cells #[cutV (L.arr g.id) (wOf σ.files g.id), .int .i64 g.written] _ _)
      rw [hw]; exact hp g hg
    · show w'.ownsRow 0 5 1 (cutV (L.arr g.id) (wOf σ.files g.id)) (g.all.take g.written).length (bytesV (g.all.take g.written))
      refine cut_row (ownsRow_keep hpg.arr fun k hk => ho k (.inr (.inr (.inr ⟨g, hg, .inr hk⟩))) (fun e => ?_) fun f hf e => ?_) (h.wf.written g hg) hw
      · obtain ⟨cur, hc⟩ := h.arr_block hg hk
        rw [e, h.self] at hc; simp at hc
      · obtain ⟨cur, hc⟩ := h.arr_block hg hk
        rw [e, (h.pages f hf).self] at hc; simp at hc
  · intro f hf g hg e
    obtain ⟨f', hf', rfl⟩ := List.mem_map.1 hf
    obtain ⟨g', hg', rfl⟩ := List.mem_map.1 hg
    rw [h.blks f' hf' g' hg' e]
  · intro f hf g hg k e1 e2
    obtain ⟨f', hf', rfl⟩ := List.mem_map.1 hf
    obtain ⟨g', hg', rfl⟩ := List.mem_map.1 hg
    simp only [Lay.cut, cutV_own] at e1 e2
    rw [h.arrs f' hf' g' hg' k e1 e2]

/-- The first k sectors of the line are written. -/
def DS.wrotes (σ : DS) (k : Nat) : DS := { σ with files := σ.files.map fun f => { f with written := wrote (σ.line.take k) f.id f.all.length f.written } }
def wroteG (n : Nat) (f : File) : File := { f with written := min ((n + 1) * 16) f.all.length }
theorem wrotes_zero (σ : DS) : σ.wrotes 0 = σ := by
  unfold DS.wrotes
  simp [wrote]
theorem wrotes_succ (σ : DS) (k : Nat) (h : k < σ.line.length) : σ.wrotes (k + 1) = (σ.wrotes k).set σ.line[k].1 (wroteG σ.line[k].2) := by
  unfold DS.wrotes DS.set upd
  simp only [List.map_map]
  congr 1
  apply List.map_congr_left
  intro f _
  simp only [Function.comp_def, wroteG]
  rw [List.take_succ_eq_append_getElem h]
  unfold wrote
  rw [List.foldl_append]
  simp only [List.foldl_cons, List.foldl_nil]
  by_cases e : f.id = σ.line[k].1
  · rw [if_pos e.symm, if_pos e]
  · rw [if_neg (Ne.symm e), if_neg e]
theorem crash_eq (σ : DS) (keep : Int) (hd : σ.dark = false) : σ.crash keep = (σ.wrotes (min (max keep 0).toNat σ.line.length)).cut := by
  unfold DS.crash DS.cut DS.wrotes
  rw [hd]
  simp [List.map_map, Function.comp_def, cutFile]
end Disk
end Go.Proofs.YtlcenkkfcejnbaaGreatDoor
