/- codec's frames. -/
import Derived.Test.YtlcenkkfcejnbaaGreatDoorCodecZig
import Derived.Test.YtlcenkkfcejnbaaGreatDoorDiskRead
import Derived.Laws.MakeOwn
namespace Go.Proofs.YtlcenkkfcejnbaaGreatDoor
open Go.RowKit
namespace Codec

def Bound (v : Option Value) (n d : Nat) : Prop := (v = none ∧ n = d) ∨ v = some (.int .i64 n)

theorem run_bounds {n c lo hi : Nat} {vlo vhi : Option Value} (hl : Bound vlo lo 0) (hh : Bound vhi hi n) (h1 : lo ≤ hi) (h2 : hi ≤ c) (W : World) :
    (Instr.sliceBounds true n c vlo vhi none).run Tryz.prog W = .ok (lo, hi, c) W := by
  have b1 : ∀ code W, (Instr.sliceBound (.int .i64 (hi : Int)) c code).run Tryz.prog W = .ok hi W := fun code W => by
    have := run_sliceBound (P := Tryz.prog) W .i64 (hi : Int) c code (by omega) (by omega)
    simpa using this
  have b2 : ∀ code W, (Instr.sliceBound (.int .i64 (lo : Int)) hi code).run Tryz.prog W = .ok lo W := fun code W => by
    have := run_sliceBound (P := Tryz.prog) W .i64 (lo : Int) hi code (by omega) (by omega)
    simpa using this
  rcases hl with ⟨rfl, e⟩ | rfl <;> rcases hh with ⟨rfl, e'⟩ | rfl
  · subst e; subst e'
    simp only [Instr.sliceBounds, Sem.run_bind, Sem.run_pure, Result.andThen_ok]
  · subst e
    simp only [Instr.sliceBounds, Sem.run_bind, Sem.run_pure, Result.andThen_ok, b1]
  · subst e'
    simp only [Instr.sliceBounds, Sem.run_bind, Sem.run_pure, Result.andThen_ok, b2]
  · simp only [Instr.sliceBounds, Sem.run_bind, Sem.run_pure, Result.andThen_ok, b1, b2]

/-- A piece of a slice of bytes. -/
theorem slice_piece {w : World} {v : Value} {l : Bytes} (h : BytesAt w v l) (lo hi : Nat) (vlo vhi : Option Value) (hl : Bound vlo lo 0) (hh : Bound vhi hi l.length) (h1 : lo ≤ hi) (h2 : hi ≤ l.length) :
    ∃ a c, (∀ W, (Instr.slice 24 v vlo vhi none).run Tryz.prog W = .ok (.slice a (hi - lo) c) W) ∧ BytesAt w (.slice a (hi - lo) c) ((l.drop lo).take (hi - lo)) := by
  have hlen : ((l.drop lo).take (hi - lo)).length = hi - lo := by simp; omega
  have hu : Tryz.prog.underlying 24 = some (.slice (Tryz.prog.elem 24)) := by kernel_rfl
  have hs : ∀ W, (sizeOf (Tryz.prog.elem 24)).run Tryz.prog W = .ok 1 W := by
    obtain ⟨i, z, hi, _, hz, _⟩ := info_u8
    have he : Tryz.prog.elem 24 = 5 := by kernel_rfl
    intro W
    rw [he]
    simp [sizeOf, typeInfo, hi, hz]
  rcases h with ⟨rfl, rfl⟩ | ⟨g, off, c, rfl, hg, hc, hx⟩
  · have e1 : lo = 0 := by simp at h2; omega
    have e2 : hi = 0 := by simp at h2; omega
    subst e1; subst e2
    refine ⟨none, 0, fun W => ?_, .inl ⟨rfl, rfl⟩⟩
    rw [run_slice_any W 24 none 0 0 hu, run_bounds (n := 0) (c := 0) hl hh h1 (Nat.le_refl _) W, Result.andThen_ok, hs, Result.andThen_ok]
    rfl
  · refine ⟨if c = lo then some ⟨g, off, none⟩ else some ⟨g, off + lo, none⟩, c - lo, fun W => ?_, .inr ?_⟩
    · rw [run_slice_any W 24 (some ⟨g, off, none⟩) l.length c hu, run_bounds hl hh h1 (by omega) W, Result.andThen_ok, hs, Result.andThen_ok]
      unfold sliced
      split
      · rfl
      · have : (some (⟨g, off, none⟩ : Addr)).map (·.add (lo * 1)) = some ⟨g, off + lo, none⟩ := by
          simp only [Option.map_some, Nat.mul_one]
          unfold Addr.add; split <;> simp_all
        rw [this]
    · by_cases e : c = lo
      · refine ⟨g, off, c - lo, by rw [if_pos e, hlen], hg, by omega, fun i hi => ?_⟩
        omega
      · refine ⟨g, off + lo, c - lo, by rw [if_neg e, hlen], hg, by omega, fun i hi' => ?_⟩
        rw [hlen] at hi'
        have := hx (lo + i) (by omega)
        rw [← Nat.add_assoc] at this
        rw [this]
        simp

theorem bytesV_app (a b : Bytes) : bytesV (a ++ b) = bytesV a ++ bytesV b := by simp [bytesV]
theorem BytesAt.of_row' {w : World} {v : Value} {l : Bytes} (h : w.ownsRow 0 5 1 v l.length (bytesV l)) : BytesAt w v l := Disk.BytesAt.of_row h

def Framed (w : World) (l : Bytes) (e : Ending) (w' : World) : Prop := ∃ v, e = .returned v ∧ Disk.NewBytes w l v w'

theorem Grew.new {w w0 w' : World} {v v' : Value} {l : Bytes} (h : Grew w0 v l w' v') (hb : Below w.heap.size w w0) (hv : ∀ k, v.ownBlock = some k → w.heap.size ≤ k) : Disk.NewBytes w l v' w' :=
  ⟨h.row, hb.trans (h.chg.below hb.size hv), fun k hk => by
    rcases h.lies k hk with h1 | h1
    · exact hv k h1
    · exact Nat.le_trans hb.size h1⟩

theorem frame_len (b : Bytes) : (frame b).length ≤ b.length + 8 := by unfold frame; split <;> simp [four] <;> omega
theorem four_len (n : Nat) : (four n).length = 4 := rfl

set_option maxRecDepth 100000 in
set_option maxHeartbeats 400000 in
theorem Frame_calls (v : Value) (b : Bytes) (w : World) (h : BytesAt w v b) (hl : b.length ≤ 140737488354000) :
    Calls Tryz.prog 34 #[v] w (Framed w (frame b)) := by
  obtain ⟨va, vc, rfl⟩ := h.form
  by_cases hbig : 262144 < b.length
  · have hE : Hid (frame b = []) := by show _ = _; unfold frame; rw [if_pos hbig]
    have hi : (262144 : Int) < b.length := by omega
    go_enter Tryz.func34, Tryz.ntmps34
    go_wp2_with fail
    go_ret
    rw [hE.out]
    exact ⟨_, rfl, ⟨rfl, .inl ⟨rfl, rfl⟩⟩, Below.refl _ _, fun k hk => by simp [Value.ownBlock] at hk⟩
  · have hE : Hid (frame b = four b.length ++ four (sealS (four b.length) b) ++ b) := by show _ = _; unfold frame; rw [if_neg hbig]
    have hi : ¬ (262144 : Int) < b.length := by omega
    obtain ⟨i, z, hinf, hz, hs1, hs2, hs3⟩ := info_u8
    have hmk := run_make (P := Tryz.prog) w 24 5 i z und_bytes hinf hz .i64 .i64 0 ((b.length : Int) + 8) (by omega) (by omega) (by rw [hs2]; omega) (by omega)
    rw [show ((0 : Int)).toNat = 0 from rfl, show ((b.length : Int) + 8).toNat = b.length + 8 by omega, hs1] at hmk
    generalize hw0 : w.alloc (.cells (madeCells z.cells ((b.length + 8) * 1)) 5) = w0 at hmk
    have hml : b.length + 8 ≤ maxLen := by unfold maxLen; omega
    have hrow0 : w0.ownsRow 0 5 1 (.slice (some ⟨w.heap.size, 0, none⟩) 0 (b.length + 8)) ([] : Bytes).length (bytesV []) := by
      refine ⟨rfl, .inr ⟨w.heap.size, b.length + 8, madeCells z.cells ((b.length + 8) * 1), rfl, Nat.zero_le _, ?_, Nat.zero_le _, hml, ?_, rfl⟩⟩
      · rw [← hw0]; show (w.heap.push _)[w.heap.size]? = _; simp
      · simp [size_madeCells]
    have hb0 : Below w.heap.size w w0 := by rw [← hw0]; exact (Below.refl _ _).alloc (Nat.le_refl _) _
    have k1 := Four_calls _ [] b.length w0 hrow0 (by simp) (by omega)
    have K1 := Lib.hid k1
    have HB := Lib.hid h
    have HW := Lib.hid hw0
    have hwr : IntKind.u32.wrap (b.length : Int) = b.length := by simp [IntKind.wrap, IntKind.signed, IntKind.bits]; omega
    clear k1 hw0 hrow0 hinf hz hs1 hs2 hs3 hbig
    go_enter Tryz.func34, Tryz.ntmps34
    go_wp2_with fail
    refine K1.out.mono ?_
    rintro e w1 ⟨v1, rfl, hg1⟩
    rw [List.nil_append] at hg1
    have hn1 := hg1.new hb0 (fun k hk => by simp only [Value.ownBlock, Option.some.injEq] at hk; omega)
    have hbt1 := BytesAt.of_row' hg1.row
    have hb1 := HB.out.below hn1.2.1
    have k2 := Seal_calls v1 (.slice va b.length vc) (four b.length) b w1 hbt1 hb1 (by simp [four]) (by omega)
    have k3 := Four_calls v1 (four b.length) (sealS (four b.length) b) w1 hg1.row (by simp [four]) (seal_lt _ _)
    obtain ⟨xa, xn, xc, rfl⟩ := Disk.row_slice hg1.row
    have K2 := Lib.hid k2
    have K3 := Lib.hid k3
    have HG1 := Lib.hid hg1
    have HN1 := Lib.hid hn1
    clear k2 k3 hg1 hn1 hbt1 hb1
    go_wp2_with fail
    refine K2.out.mono ?_
    rintro e w2 ⟨rfl, rfl⟩
    go_wp2_with fail
    refine K3.out.mono ?_
    rintro e w2 ⟨v2, rfl, hg2⟩
    have hn2 := (HG1.out.trans hg2).new hb0 (fun k hk => by simp only [Value.ownBlock, Option.some.injEq] at hk; omega)
    have hb2 := HB.out.below hn2.2.1
    obtain ⟨v3, w3, hap, hr3, hc3, hl3⟩ := run_append_bytes w2 v2 _ _ _ b hg2.row hb2 (by simp [four]; omega)
    have hg3 : Grew w2 v2 (four b.length ++ four (sealS (four b.length) b) ++ b) w3 v3 := ⟨by rw [List.length_append, bytesV_app]; exact hr3, hc3, hl3⟩
    have hfin := ((HG1.out.trans hg2).trans hg3).new hb0 (fun k hk => by simp only [Value.ownBlock, Option.some.injEq] at hk; omega)
    obtain ⟨ya, yn, yc, rfl⟩ := Disk.row_slice hg2.row
    have HFN := Lib.hid hfin
    clear hn2 hb2 hr3 hc3 hl3 hg3 hfin hg2
    go_wp2_with (at_builtin; refine wpList_append_run rfl (.tmp 19) (.tmp 20) 24 rfl _ _ _ _ rfl rfl hap ?_)
    go_ret
    rw [hE.out]
    exact ⟨v3, rfl, HFN.out⟩
end Codec
end Go.Proofs.YtlcenkkfcejnbaaGreatDoor
