/- append onto a row of the program's own: where the result lies. -/
import Derived.Test.YtlcenkkfcejnbaaGreatDoorBase
import Derived.Laws.AppendOwnNone
import Derived.Deep.RegionLaw
namespace Go.Proofs.YtlcenkkfcejnbaaGreatDoor
open Go.RowKit

/-- The result of an append lies where the slice lay, or in a new block. -/
def SameOrNew (w : World) (v v' : Value) : Prop := ∀ k, v'.ownBlock = some k → v.ownBlock = some k ∨ w.heap.size ≤ k

theorem run_append_lies {P : Program} (w : World) (t ty e : TypeId) (size bytes : Nat) (ht : P.underlying t = some (.slice e)) (hinfo : ∃ i z, P.info? e = some i ∧ i.zero = some z ∧ i.size = size ∧ i.bytes = bytes ∧ z.cells.size = size) (hsz : 0 < size)
    (v : Value) (n : Nat) (xs : List Value) (hown : w.ownsRow 0 e size v n xs)
    (a : Addr) (m c : Nat) (news : List Value) (hl : news.length = m * size) (hnews : ∀ j u, news[j]? = some u → w.cell? (a.add j) = some u) (h1 : ∀ u ∈ news, u.oneCell' = true)
    (h63 : n + m ≤ maxLen) (hbytes : (n + m) * bytes ≤ 140737488355328) :
    ∃ v' w', (Builtin.append_ #[t, t] ty #[v, .slice (some a) m c]).run P w = .ok v' w' ∧ w'.ownsRow 0 e size v' (n + m) (xs ++ news) ∧ Chg (fun k => v.ownBlock = some k) w w' ∧ SameOrNew w v v' := by
  obtain ⟨i, z, hi, hz, hs1, hs2, hs3⟩ := hinfo
  have conv : ∀ {w' : World}, w.grownBy w' v.ownBlock → Chg (fun k => v.ownBlock = some k) w w' := fun hg => ⟨hg.os, hg.tape, hg.output, hg.size, fun k hk hn => hg.block k hk (fun e => hn e.symm)⟩
  rcases hown.2 with ⟨rfl, rfl⟩ | ⟨g, cap, cur, rfl, hbg, hg, hnc, hcm, hcs, htake⟩
  · have hown' : w.ownsRow w.heap.size e size (.slice none 0 0) 0 xs := ⟨hown.1, .inl ⟨rfl, rfl⟩⟩
    obtain ⟨v', w', hr, ho, hgr, _⟩ := run_append_own (P := P) w w.heap.size t ty e i z size bytes ht hi hz hs1 hs2 hs3 hsz _ _ _ hown' a m c news hl hnews h1 h63 hbytes (Nat.le_refl _)
    refine ⟨v', w', hr, ⟨ho.1, ?_⟩, conv hgr, fun k hk => .inr (ho.lt k hk).1⟩
    rcases ho.2 with h | ⟨g, cap, cur, h2, h3, h4⟩
    · exact .inl h
    · exact .inr ⟨g, cap, cur, h2, Nat.zero_le _, h4⟩
  · by_cases hroom : n + m ≤ cap
    · obtain ⟨v', w', hr, ho, hgr, _⟩ := run_append_own (P := P) w 0 t ty e i z size bytes ht hi hz hs1 hs2 hs3 hsz _ _ _ hown a m c news hl hnews h1 h63 hbytes (Nat.zero_le _)
      refine ⟨v', w', hr, ho, conv hgr, ?_⟩
      have hfit : n * i.size + news.length ≤ cur.size := by rw [hl, hcs, hs1, ← Nat.add_mul]; exact Nat.mul_le_mul_right _ hroom
      have hr2 := run_append_room (P := P) w t ty e i ht hi g n cap cur hg a m c news (by rw [hs1]; exact hl) hnews h1 hroom hfit
      rw [hr] at hr2
      simp only [Result.ok.injEq] at hr2
      intro k hk
      rw [hr2.1] at hk
      exact .inl hk
    · have holds : ∀ j u, xs[j]? = some u → w.cell? ((⟨g, 0, none⟩ : Addr).add j) = some u := hown.cells (g := g) rfl
      obtain ⟨v', w', hr, ho, hgr⟩ := run_append_arg_grows (P := P) w t ty e i z size bytes ht hi hz hs1 hs2 hs3 hsz ⟨g, 0, none⟩ n cap xs hown.1 holds a m c news hl hnews (by omega) h63 hbytes
      refine ⟨v', w', hr, ⟨ho.1, ?_⟩, ⟨hgr.os, hgr.tape, hgr.output, hgr.size, fun k hk _ => hgr.block k hk (by simp)⟩, fun k hk => .inr (ho.lt k hk).1⟩
      rcases ho.2 with h | ⟨g, cap, cur, h2, h3, h4⟩
      · exact .inl h
      · exact .inr ⟨g, cap, cur, h2, Nat.zero_le _, h4⟩

/-- append whose run is known, as one step of a region that draws. -/
theorem step_append_run {P : Program} {ops : Array Oper} {o : Oper} {a : Act} {w : World} {K : Act → World → Prop} {Q : Exit → Act → World → Prop} {E : Prop}
    (hg : o.guard = none) (s x : Operand) (t : TypeId) (hop : o.op = Op.call { callee := Callee.builtin Builtin.append, args := #[s, x], argTypes := #[t, t] })
    (v u v' : Value) (w' : World) (hs : a.eval s = v) (hx : a.eval x = u) (hrun : (Builtin.append_ #[t, t] o.type #[v, u]).run P w = .ok v' w')
    (hK : K (a.put o.dst v') w') : if Region.wanted o (yielded ops a.tmps) = true then Oper.wp P o a w K Q else E := by
  have hw : Region.wanted o (yielded ops a.tmps) = true := by simp [Region.wanted, hg]
  rw [if_pos hw]
  unfold Oper.wp
  simp [execOp, hop, resolve, invoke, builtin, hs, hx, hrun, Result.andThen]
  exact hK

/-- The same outside such a region. -/
theorem wpList_append_run {P : Program} {w : World} {ops : Array Oper} {rest : List Oper} {o : Oper} {a : Act} {Q : Exit → Act → World → Prop} (hgd : o.guard = none) (s x : Operand) (t : TypeId)
    (ho : o.op = .call { callee := .builtin .append, args := #[s, x], argTypes := #[t, t] })
    (v u v' : Value) (w' : World) (hs : a.eval s = v) (hx : a.eval x = u) (hrun : (Builtin.append_ #[t, t] o.type #[v, u]).run P w = .ok v' w')
    (h : wpList P ops Q rest (a.put o.dst v') w') : wpList P ops Q (o :: rest) a w := by
  refine wpList_plain hgd fun K hK => ?_
  unfold Oper.wp
  simp [execOp, ho, resolve, invoke, builtin, hs, hx, hrun, Result.andThen]
  exact hK _ _ h

theorem info_of {P : Program} {e : TypeId} {z : Value} {size bytes : Nat} (h : (P.info? e).map (fun i => (i.zero, i.size, i.bytes)) = some (some z, size, bytes)) (hz : z.cells.size = size) :
    ∃ i z, P.info? e = some i ∧ i.zero = some z ∧ i.size = size ∧ i.bytes = bytes ∧ z.cells.size = size := by
  cases hi : P.info? e with
  | none => rw [hi] at h; cases h
  | some i =>
    rw [hi] at h
    simp only [Option.map_some, Option.some.injEq, Prod.mk.injEq] at h
    exact ⟨i, z, rfl, h.1, h.2.1, h.2.2, hz⟩

theorem info_u8 : ∃ i z, Tryz.prog.info? 5 = some i ∧ i.zero = some z ∧ i.size = 1 ∧ i.bytes = 1 ∧ z.cells.size = 1 := info_of (z := .int .u8 0) (by kernel_rfl) rfl
theorem und_bytes : Tryz.prog.underlying 24 = some (.slice 5) := by kernel_rfl

/-- Bytes that a slice shows. -/
def BytesAt (w : World) (v : Value) (l : List UInt8) : Prop :=
  (v = .slice none 0 0 ∧ l = []) ∨ ∃ g off c, v = .slice (some ⟨g, off, none⟩) l.length c ∧ g < w.heap.size ∧ l.length ≤ c ∧ ∀ i, (h : i < l.length) → w.cell? ⟨g, off + i, none⟩ = some (.int .u8 l[i].toNat)

theorem BytesAt.keep {w w' : World} {v : Value} {l : List UInt8} (h : BytesAt w v l) (hs : w.heap.size ≤ w'.heap.size) (hk : ∀ k, v.ownBlock = some k → w'.heap[k]? = w.heap[k]?) : BytesAt w' v l := by
  rcases h with h | ⟨g, off, c, h1, h2, hcp, h3⟩
  · exact .inl h
  · refine .inr ⟨g, off, c, h1, by omega, hcp, fun i hi => ?_⟩
    rw [World.cell?_of_block (w := w) (a := ⟨g, off + i, none⟩) (hk g (by rw [h1]; rfl))]
    exact h3 i hi

theorem BytesAt.below {w w' : World} {v : Value} {l : List UInt8} (h : BytesAt w v l) (hb : Below w.heap.size w w') : BytesAt w' v l := by
  refine h.keep hb.size fun k hk => hb.block k ?_
  rcases h with ⟨h1, _⟩ | ⟨g, off, c, h1, h2, _⟩
  · rw [h1] at hk; simp [Value.ownBlock] at hk
  · rw [h1] at hk; simp only [Value.ownBlock, Option.some.injEq] at hk; omega

theorem BytesAt.form {w : World} {v : Value} {l : List UInt8} (h : BytesAt w v l) : ∃ a c, v = .slice a l.length c := by
  rcases h with ⟨h1, h2⟩ | ⟨g, off, c, h1, _⟩
  · exact ⟨none, 0, by rw [h1, h2]; rfl⟩
  · exact ⟨_, _, h1⟩

def bytesV (l : List UInt8) : List Value := l.map fun x => .int .u8 x.toNat

theorem run_append_bytes (w : World) (v u : Value) (n : Nat) (xs : List Value) (l : List UInt8) (hown : w.ownsRow 0 5 1 v n xs) (hu : BytesAt w u l) (h63 : n + l.length ≤ 140737488355328) :
    ∃ v' w', (Builtin.append_ #[24, 24] 24 #[v, u]).run Tryz.prog w = .ok v' w' ∧ w'.ownsRow 0 5 1 v' (n + l.length) (xs ++ bytesV l) ∧ Chg (fun k => v.ownBlock = some k) w w' ∧ SameOrNew w v v' := by
  rcases hu with ⟨rfl, rfl⟩ | ⟨g, off, c, rfl, hg, _, hc⟩
  · obtain ⟨i, z, hi, _⟩ := info_u8
    have hr := run_append_owned_none (P := Tryz.prog) (w := w) 0 24 24 5 i 1 und_bytes hi v n xs hown
    exact ⟨v, w, hr, by simpa [bytesV] using hown, Chg.refl _ _, fun k hk => .inl hk⟩
  · refine run_append_lies (P := Tryz.prog) w _ _ _ 1 1 und_bytes info_u8 (by decide) v n xs hown ⟨g, off, none⟩ l.length c (bytesV l) (by simp [bytesV]) ?_ ?_ (by unfold maxLen; omega) (by omega)
    · intro j u hu
      simp only [bytesV, List.getElem?_map, Option.map_eq_some_iff] at hu
      obtain ⟨x, hx, rfl⟩ := hu
      obtain ⟨hj, rfl⟩ := List.getElem?_eq_some_iff.1 hx
      have hadd : (⟨g, off, none⟩ : Addr).add j = ⟨g, off + j, none⟩ := by unfold Addr.add; split <;> simp_all
      rw [hadd]; exact hc j hj
    · intro u hu
      obtain ⟨x, _, rfl⟩ := List.mem_map.1 hu
      rfl
end Go.Proofs.YtlcenkkfcejnbaaGreatDoor
