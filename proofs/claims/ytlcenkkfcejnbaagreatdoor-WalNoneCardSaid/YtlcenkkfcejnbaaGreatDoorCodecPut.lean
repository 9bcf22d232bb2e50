/- codec's small writers. -/
import Derived.Test.YtlcenkkfcejnbaaGreatDoorCodecSpec
import Derived.Test.YtlcenkkfcejnbaaGreatDoorAppend
import Derived.Test.YtlcenkkfcejnbaaGreatDoorDiskSoil
import Derived.Lib.AppendStr
namespace Go.Proofs.YtlcenkkfcejnbaaGreatDoor
open Go.RowKit
namespace Codec

/-- v was a row that the call owns; now v' is one with the bytes l. -/
structure Grew (w : World) (v : Value) (l : Bytes) (w' : World) (v' : Value) : Prop where
  row : w'.ownsRow 0 5 1 v' l.length (bytesV l)
  chg : Chg (fun k => v.ownBlock = some k) w w'
  lies : SameOrNew w v v'

theorem Grew.refl {w : World} {v : Value} {l : Bytes} (h : w.ownsRow 0 5 1 v l.length (bytesV l)) : Grew w v l w v := ⟨h, Chg.refl _ _, fun _ h => .inl h⟩
theorem Grew.trans {w w1 w2 : World} {v v1 v2 : Value} {l l2 : Bytes} (h : Grew w v l w1 v1) (k : Grew w1 v1 l2 w2 v2) : Grew w v l2 w2 v2 := by
  have hs := h.chg.size
  refine ⟨k.row, h.chg.then k.chg fun i hi e => ?_, fun i hi => ?_⟩
  · rcases h.lies i e with h1 | h1
    · exact h1
    · omega
  · rcases k.lies i hi with h1 | h1
    · exact h.lies i h1
    · exact .inr (by omega)
theorem Grew.drewIn {w w' : World} {v v' : Value} {l : Bytes} (h : Grew w.drew v l w' v') : Grew w v l w' v' := ⟨h.row, (Chg.refl _ w).drew.trans h.chg, h.lies⟩

/-- A few bytes at a row's end. -/
theorem run_append_few (w : World) (v : Value) (l xs : Bytes) (cs : List Value) (hcs : cs = bytesV xs) (hown : w.ownsRow 0 5 1 v l.length (bytesV l)) (hl : l.length + xs.length ≤ 140737488355328) (_hx : xs.length ≤ 16) :
    ∃ v' w', (Builtin.append_ #[24, 24] 24 #[v, .slice (some ⟨w.heap.size, 0, none⟩) xs.length xs.length]).run Tryz.prog (w.alloc (.cells cs.toArray 5)) = .ok v' w' ∧ Grew w v (l ++ xs) w' v' := by
  have hr : (w.alloc (.cells cs.toArray 5)).ownsRow 0 5 1 v l.length (bytesV l) := hown.alloc _
  have hb : BytesAt (w.alloc (.cells cs.toArray 5)) (.slice (some ⟨w.heap.size, 0, none⟩) xs.length xs.length) xs := by
    refine .inr ⟨w.heap.size, 0, xs.length, rfl, by simp, Nat.le_refl _, fun i hi => ?_⟩
    have h0 : (w.alloc (.cells cs.toArray 5)).heap[w.heap.size]? = some (.cells cs.toArray 5 (0, 0)) := by show (w.heap.push _)[w.heap.size]? = _; simp
    rw [cell_of h0, hcs]
    simp [bytesV, List.getElem?_eq_getElem hi]
  obtain ⟨v', w', h1, h2, h3, h4⟩ := run_append_bytes _ v _ _ _ xs hr hb (by omega)
  refine ⟨v', w', h1, ⟨?_, (Chg.refl _ w).alloc _ |>.trans h3, fun k hk => ?_⟩⟩
  · simpa [bytesV] using h2
  · rcases h4 k hk with h5 | h5
    · exact .inl h5
    · exact .inr (by simp at h5; omega)

theorem putF_len (k u : Nat) : (putF k u).length ≤ k + 1 := by
  induction k generalizing u with
  | zero => simp [putF]
  | succ k ih => rw [putF]; split
                 · have := ih (u / 128); simp; omega
                 · simp
theorem put_len (u : Nat) : (put u).length ≤ 11 := putF_len 10 u

theorem or128_fin : ∀ a : Fin 256, bits .or .u8 ((a.val : Nat) : Int) 128 = ((a.val % 128 + 128 : Nat) : Int) := by decide +kernel
theorem or128 (u : Nat) : bits .or .u8 ((u : Int) % 256) 128 = (u : Int) % 128 + 128 := by
  have := or128_fin ⟨u % 256, Nat.mod_lt _ (by decide)⟩
  simp only at this
  rw [show ((u % 256 : Nat) : Int) = (u : Int) % 256 by omega] at this
  rw [this]; omega

def Put (w : World) (v : Value) (l : Bytes) (e : Ending) (w' : World) : Prop := ∃ v', e = .returned v' ∧ Grew w v l w' v'

set_option maxRecDepth 100000 in
set_option maxHeartbeats 400000 in
theorem Put_calls (v : Value) (l : Bytes) (u : Nat) (w : World) (h : w.ownsRow 0 5 1 v l.length (bytesV l)) (hl : l.length ≤ 140737488355000) (hu : u < 18446744073709551616) :
    Calls Tryz.prog 57 #[v, .int .u64 u] w (Put w v (l ++ put u)) := by
  obtain ⟨va, vn, vc, rfl⟩ := Disk.row_slice h
  have hk : u < 128 ^ 10 := by omega
  go_enter Tryz.func57, Tryz.ntmps57
  go_wp2_with fail
  go_loopg [0, 1] 10 (fun gk a b wr => ∃ (xa : Option Addr) (xn xc : Nat) (l1 : Bytes) (u1 : Nat), a = .slice xa xn xc ∧ b = .int .u64 u1 ∧ Hid (Grew w (.slice va vn vc) l1 wr (.slice xa xn xc)) ∧ Hid (l1 ++ putF gk u1 = l ++ put u) ∧ Hid (u1 < 128 ^ gk) ∧ u1 < 18446744073709551616 ∧ l1.length + gk ≤ l.length + 10)
  case atStart => exact ⟨va, vn, vc, l, u, rfl, rfl, Grew.refl h, rfl, hk, hu, Nat.le_refl _⟩
  case round =>
    obtain ⟨xa, xn, xc, l1, u1, rfl, rfl, hg, he, hk1, hu1, hlen⟩ := hrel
    obtain ⟨gk, rfl⟩ | rfl : (∃ k, gk = k + 1) ∨ gk = 0 := by cases gk; exact .inr rfl; exact .inl ⟨_, rfl⟩
    · by_cases hlt : 127 < u1
      · have hi : (127 : Int) < u1 := by omega
        have hbit : bits .or .u8 ((u1 : Int) % 256) 128 = (u1 : Int) % 128 + 128 := or128 u1
        obtain ⟨v', w1, hap, hg1⟩ := run_append_few wr (.slice xa xn xc) l1 [UInt8.ofNat (u1 % 128 + 128)] [.int .u8 ((u1 : Int) % 128 + 128)] (by simp [bytesV]; omega) hg.out.row (by simp; omega) (by simp)
        obtain ⟨ya, yn, yc, rfl⟩ := Disk.row_slice hg1.row
        have HG := Lib.hid (hg.out.trans hg1)
        have he' := he.out
        rw [putF, if_pos hlt] at he'
        have HE : Hid ((l1 ++ [UInt8.ofNat (u1 % 128 + 128)]) ++ putF gk (u1 / 128) = l ++ put u) := by show _ = _; rw [List.append_assoc]; exact he'
        have HK : Hid (u1 / 128 < 128 ^ gk) := by
          have := hk1.out
          show _ < _
          rw [Nat.pow_succ] at this
          exact Nat.div_lt_of_lt_mul (by omega)
        clear hg1 he' hlt
        go_wp2_with (at_builtin; refine wpList_append_run rfl (.tmp 9) (.tmp 13) 24 rfl _ _ _ _ rfl rfl hap ?_)
        go_roundg gk
        case measure => omega
        case rel => exact ⟨ya, yn, yc, _, u1 / 128, rfl, by go_num, HG, HE, HK, by omega, by simp; omega⟩
      · have hi : ¬ (127 : Int) < u1 := by omega
        obtain ⟨v', w1, hap, hg1⟩ := run_append_few wr (.slice xa xn xc) l1 [UInt8.ofNat u1] [.int .u8 (u1 : Int)] (by simp [bytesV]; omega) hg.out.row (by simp; omega) (by simp)
        have HG := Lib.hid (hg.out.trans hg1)
        have he' := he.out
        rw [putF, if_neg hlt] at he'
        have HE := Lib.hid he'
        clear hg1 he' hlt
        go_wp2_with (at_builtin; refine wpList_append_run rfl (.tmp 15) (.tmp 18) 24 rfl _ _ _ _ rfl rfl hap ?_)
        go_ret
        exact ⟨v', rfl, by rw [← HE.out]; exact HG.out⟩
    · have h0 : u1 = 0 := by have := hk1.out; simpa using this
      subst h0
      obtain ⟨v', w1, hap, hg1⟩ := run_append_few wr (.slice xa xn xc) l1 [UInt8.ofNat 0] [.int .u8 0] (by simp [bytesV]) hg.out.row (by simp; omega) (by simp)
      have HG := Lib.hid (hg.out.trans hg1)
      have HE : Hid (l1 ++ [UInt8.ofNat 0] = l ++ put u) := he.out
      clear hg1
      go_wp2_with (at_builtin; refine wpList_append_run rfl (.tmp 15) (.tmp 18) 24 rfl _ _ _ _ rfl rfl hap ?_)
      go_ret
      exact ⟨v', rfl, by rw [← HE.out]; exact HG.out⟩

theorem wpList_append_run2 {P : Program} {w : World} {ops : Array Oper} {rest : List Oper} {o : Oper} {a : Act} {Q : Exit → Act → World → Prop} (hgd : o.guard = none) (s x : Operand) (t u : TypeId)
    (ho : o.op = .call { callee := .builtin .append, args := #[s, x], argTypes := #[t, u] })
    (v y v' : Value) (w' : World) (hs : a.eval s = v) (hx : a.eval x = y) (hrun : (Builtin.append_ #[t, u] o.type #[v, y]).run P w = .ok v' w')
    (h : wpList P ops Q rest (a.put o.dst v') w') : wpList P ops Q (o :: rest) a w := by
  refine wpList_plain hgd fun K hK => ?_
  unfold Oper.wp
  simp [execOp, ho, resolve, invoke, builtin, hs, hx, hrun, Result.andThen]
  exact hK _ _ h

theorem strCells_bytes (s : ByteArray) : Lib.strCells s = bytesV s.data.toList := by
  simp [Lib.strCells, bytesV]

theorem run_append_text (w : World) (v : Value) (l : Bytes) (s : ByteArray) (hown : w.ownsRow 0 5 1 v l.length (bytesV l)) (hl : l.length + s.size ≤ 140737488355328) :
    ∃ v' w', (Builtin.append_ #[24, 9] 24 #[v, .string s]).run Tryz.prog w = .ok v' w' ∧ Grew w v (l ++ s.data.toList) w' v' := by
  obtain ⟨i, z, hi, hz, hs1, hs2, hs3⟩ := (info_u8 : _)
  have hz0 : i.zero = some (.int .u8 0) := by
    have : (Tryz.prog.info? 5).map (·.zero) = some (some (.int .u8 0)) := by kernel_rfl
    rw [hi] at this; simpa using this
  have hss : s.data.toList.length = s.size := by simp
  have conv : ∀ {w' : World}, w.grownBy w' v.ownBlock → Chg (fun k => v.ownBlock = some k) w w' := fun hg => ⟨hg.os, hg.tape, hg.output, hg.size, fun k hk hn => hg.block k hk (fun e => hn e.symm)⟩
  have fin : ∀ {v' : Value} {w' : World} {b : Nat}, w'.ownsRow b 5 1 v' (l.length + s.size) (bytesV l ++ Lib.strCells s) → w'.ownsRow 0 5 1 v' (l ++ s.data.toList).length (bytesV (l ++ s.data.toList)) := fun {v' w' b} ho => by
    have h1 : (l ++ s.data.toList).length = l.length + s.size := by simp
    have h2 : bytesV (l ++ s.data.toList) = bytesV l ++ Lib.strCells s := by rw [strCells_bytes]; simp [bytesV]
    rw [h1, h2]
    refine ⟨ho.1, ?_⟩
    rcases ho.2 with h | ⟨g, cap, cur, h2, h3, h4⟩
    · exact .inl h
    · exact .inr ⟨g, cap, cur, h2, Nat.zero_le _, h4⟩
  have hml : l.length + s.size ≤ maxLen := by unfold maxLen; omega
  rcases hown.2 with ⟨rfl, hn0⟩ | ⟨g, cap, cur, rfl, hbg, hg, hnc, hcm, hcs, htake⟩
  · have hown' : w.ownsRow w.heap.size 5 1 (.slice none 0 0) l.length (bytesV l) := ⟨hown.1, .inl ⟨rfl, hn0⟩⟩
    obtain ⟨v', w', hr, ho, hgr, _⟩ := Lib.run_append_own_string (P := Tryz.prog) w w.heap.size 24 9 24 5 i und_bytes Disk.und_string hi hz0 hs1 hs2 _ _ _ hown' s hml hl (Nat.le_refl _)
    exact ⟨v', w', hr, fin ho, conv hgr, fun k hk => .inr (ho.lt k hk).1⟩
  · by_cases hroom : l.length + s.size ≤ cap
    · obtain ⟨v', w', hr, ho, hgr, _⟩ := Lib.run_append_own_string (P := Tryz.prog) w 0 24 9 24 5 i und_bytes Disk.und_string hi hz0 hs1 hs2 _ _ _ hown s hml hl (Nat.zero_le _)
      refine ⟨v', w', hr, fin ho, conv hgr, ?_⟩
      have hr2 := Lib.run_append_room_string (P := Tryz.prog) w 24 9 24 5 i und_bytes Disk.und_string hi hs1 g l.length cap cur hg s hroom (by omega)
      rw [hr] at hr2
      simp only [Result.ok.injEq] at hr2
      intro k hk
      rw [hr2.1] at hk
      exact .inl hk
    · have holds : ∀ j u, (bytesV l)[j]? = some u → w.cell? ((⟨g, 0, none⟩ : Addr).add j) = some u := hown.cells (g := g) rfl
      obtain ⟨v', w', hr, ho, hgr, _⟩ := Lib.run_append_own_string (P := Tryz.prog) w 0 24 9 24 5 i und_bytes Disk.und_string hi hz0 hs1 hs2 _ _ _ hown s hml hl (Nat.zero_le _)
      refine ⟨v', w', hr, fin ho, conv hgr, ?_⟩
      have hr2 := Lib.run_append_grow_string (P := Tryz.prog) w 24 9 24 5 i _ und_bytes Disk.und_string hi hz0 ⟨g, 0, none⟩ l.length cap (bytesV l) (by simp [bytesV, hs1]) holds s (by omega) (by omega) (growslice_fits (by omega) (by rw [hs2]; omega))
      rw [hr] at hr2
      simp only [Result.ok.injEq] at hr2
      intro k hk
      rw [hr2.1] at hk
      simp only [Value.ownBlock, Option.some.injEq] at hk
      exact .inr (by omega)

set_option maxRecDepth 100000 in
set_option maxHeartbeats 400000 in
theorem Text_calls (v : Value) (l : Bytes) (s : ByteArray) (w : World) (h : w.ownsRow 0 5 1 v l.length (bytesV l)) (hl : l.length + s.size ≤ 140737488354000) :
    Calls Tryz.prog 58 #[v, .string s] w (Put w v (l ++ text s.data.toList)) := by
  have hss : s.data.toList.length = s.size := by simp
  have hpl := put_len s.size
  have key := Put_calls v l s.size w h (by omega) (by omega)
  obtain ⟨va, vn, vc, rfl⟩ := Disk.row_slice h
  have KEY := Lib.hid key
  clear key
  go_enter Tryz.func58, Tryz.ntmps58
  go_wp2_with fail
  refine KEY.out.mono ?_
  rintro e w1 ⟨v1, rfl, hg⟩
  obtain ⟨v2, w2, hap, hg2⟩ := run_append_text w1 v1 _ s hg.row (by simp; omega)
  have HG := Lib.hid (hg.trans hg2)
  obtain ⟨xa, xn, xc, rfl⟩ := Disk.row_slice hg.row
  clear hg hg2
  go_wp2_with (at_builtin; refine wpList_append_run2 rfl (.tmp 9) (.tmp 10) 24 9 rfl _ _ _ _ rfl rfl hap ?_)
  go_ret
  refine ⟨v2, rfl, ?_⟩
  have := HG.out
  unfold text
  rw [hss, ← List.append_assoc]
  exact this
end Codec
end Go.Proofs.YtlcenkkfcejnbaaGreatDoor
