/- codec's fourth and Unframe. -/
import Derived.Test.YtlcenkkfcejnbaaGreatDoorCodecFrame
import Derived.Deep.QuietTactic
import Derived.Deep.DeepCutAuto
namespace Go.Proofs.YtlcenkkfcejnbaaGreatDoor
open Go.RowKit
namespace Codec

theorem fourth_or (n x : Nat) (hx : x < 256) (_hn : n < 4294967296) : bits .or .u32 ((n : Int) * 256 % 4294967296) (x : Int) = (((n * 256 + x) % 4294967296 : Nat) : Int) := by
  rw [show (n : Int) * 256 % 4294967296 = ((n % 16777216 * 256 : Nat) : Int) by omega, u32_or_nat _ _ (by omega) (by omega)]
  congr 1
  have h := Nat.shiftLeft_add_eq_or_of_lt (i := 8) (b := x) (by omega) (n % 16777216)
  rw [Nat.shiftLeft_eq] at h
  rw [show (2 : Nat) ^ 8 = 256 from rfl] at h
  rw [← h]; omega

theorem fold4_lt (l : Bytes) (n : Nat) (h : n < 4294967296) : l.foldl (fun n x => (n * 256 + x.toNat) % 4294967296) n < 4294967296 := by
  induction l generalizing n with
  | nil => exact h
  | cons x l ih => exact ih _ (Nat.mod_lt _ (by decide))
theorem fourth_lt (b : Bytes) : fourth b < 4294967296 := fold4_lt _ 0 (by decide)

set_option maxRecDepth 100000 in
set_option maxHeartbeats 400000 in
theorem Fourth_calls (v : Value) (b : Bytes) (w : World) (h : BytesAt w v b) (h4 : 4 ≤ b.length) :
    Calls Tryz.prog 92 #[v] w fun e w' => e = .returned (.int .u32 (fourth b : Nat)) ∧ w = w' := by
  obtain ⟨a, c, hsl, hb4⟩ := slice_piece h 0 4 none (some (.int .i64 4)) (.inl ⟨rfl, rfl⟩) (.inr rfl) (by omega) h4
  obtain ⟨va, vc, rfl⟩ := h.form
  have hl4 : ((b.drop 0).take (4 - 0)).length = 4 := by simp; omega
  generalize hp : (b.drop 0).take (4 - 0) = p at hb4 hl4
  have hfo : Hid (fourth b = p.foldl (fun n x => (n * 256 + x.toNat) % 4294967296) 0) := by show _ = _; rw [← hp]; rfl
  clear hp h
  have HB := Lib.hid hb4
  have HL4 := Lib.hid hl4
  clear hb4 hl4
  go_enter Tryz.func92, Tryz.ntmps92
  go_wp2_with fail
  go_loop [3, 5, 9] (fun n _ i => ∃ k : Nat, i = .int .i64 k ∧ k ≤ 4 ∧ n = .int .u32 (((p.take k).foldl (fun n x => (n * 256 + x.toNat) % 4294967296) 0 : Nat) : Int)) (fun _ _ i => 4 - (intOf i).toNat)
  case atStart => exact ⟨0, rfl, by omega, rfl⟩
  case round =>
    obtain ⟨k, rfl, hk, rfl⟩ := hrel
    by_cases hlt : k < 4
    · have hkp : k < p.length := by rw [HL4.out]; exact hlt
      have hcell : ∃ g off, a = some ⟨g, off, none⟩ ∧ w.cell? ⟨g, off + k, none⟩ = some (.int .u8 (p[k]).toNat) := by
        rcases HB.out with ⟨h1, h2⟩ | ⟨g, off, cc, h1, h2, _, h3⟩
        · rw [h2] at hkp; cases hkp
        · simp only [Value.slice.injEq] at h1
          exact ⟨g, off, h1.1, h3 k hkp⟩
      obtain ⟨g, off, rfl, hc⟩ := hcell
      have hx8 := p[k].toNat_lt
      have hlt1 := fold4_lt (p.take k) 0 (by decide)
      have hst : (p.take (k + 1)).foldl (fun n x => (n * 256 + x.toNat) % 4294967296) 0 = ((p.take k).foldl (fun n x => (n * 256 + x.toNat) % 4294967296) 0 * 256 + p[k].toNat) % 4294967296 := by
        rw [List.take_succ_eq_append_getElem hkp, List.foldl_append]; rfl
      generalize hcc : (p.take k).foldl (fun n x => (n * 256 + x.toNat) % 4294967296) 0 = cc at hlt1 hst
      have hor := fourth_or cc p[k].toNat hx8 hlt1
      have HST := Lib.hid hst
      have HCC := Lib.hid hcc
      clear hst hcc hsl
      go_wp2_with fail
      go_round
      case rel => exact ⟨k + 1, by go_num, by omega, by rw [HST.out]; exact congrArg (Value.int .u32) (by omega)⟩
      case measure => simp [intOf]; omega
    · have hke : k = 4 := by omega
      subst hke
      go_wp2_with fail
      go_ret
      refine ⟨ret_int ?_, rfl⟩
      rw [hfo.out]
      have := HL4.out
      rw [List.take_of_length_le (by omega)]

theorem quiet_same {P : Program} {f : FuncId} {args : Array Value} {w : World} {n : Nat} {v : Value} (h : Calls P f args (w.drewN n) fun e w' => e = .returned v ∧ w.drewN n = w') :
    Calls P f args (w.drewN n) fun e w'' => e = .returned v ∧ ∃ m, w'' = w.drewN m := h.mono fun _ _ ⟨he, hm⟩ => ⟨he, n, hm.symm⟩

def Unframed (w : World) (r : Bytes × Nat × Int) (e : Ending) (w' : World) : Prop := ∃ v, e = .returned (.tuple #[v, .int .i64 r.2.1, .int .i64 r.2.2]) ∧ Disk.NewBytes w r.1 v w'
theorem unframed_none (w : World) (n : Nat) (e : Int) : ∀ w', Below w.heap.size w w' → Unframed w ([], n, e) (.returned (.tuple #[.slice none 0 0, .int .i64 n, .int .i64 e])) w' :=
  fun w' hb => ⟨_, rfl, ⟨rfl, .inl ⟨rfl, rfl⟩⟩, hb, fun k hk => by simp [Value.ownBlock] at hk⟩

set_option maxRecDepth 100000 in
set_option maxHeartbeats 1000000 in
theorem Unframe_calls (v : Value) (b : Bytes) (w : World) (h : BytesAt w v b) (hl : b.length ≤ 140737488355328) :
    Calls Tryz.prog 63 #[v] w (Unframed w (unframe b)) := by
  have hv := h
  obtain ⟨va, vc, rfl⟩ := h.form
  by_cases h8 : b.length < 8
  · have hE : Hid (unframe b = ([], 0, 10)) := by show _ = _; unfold unframe; rw [if_pos h8]
    have h8' : (b.length : Int) < 8 := by omega
    clear h8
    go_enter Tryz.func63, Tryz.ntmps63
    go_wp2_with fail
    go_ret3
    rw [hE.out]
    exact unframed_none w 0 10 w (Below.refl _ _)
  · have h8' : ¬ (b.length : Int) < 8 := by omega
    have k1 := Lib.hid (Fourth_calls _ b w h (by omega))
    have hf := fourth_lt b
    generalize hn : fourth b = n at k1 hf
    have HN := Lib.hid hn
    clear hn
    by_cases hbig : 262144 < n
    · have hE : Hid (unframe b = ([], 0, 6)) := by show _ = _; unfold unframe; rw [if_neg h8, HN.out, if_pos hbig]
      have hbig' : (262144 : Int) < n := by omega
      clear hbig
      go_enter Tryz.func63, Tryz.ntmps63
      go_wp2_with fail
      refine k1.out.mono ?_
      rintro e w1 ⟨rfl, rfl⟩
      go_wp2_with fail
      go_ret3
      rw [hE.out]
      exact unframed_none w 0 6 w (Below.refl _ _)
    · have hbig' : ¬ (262144 : Int) < n := by omega
      by_cases hsh : b.length - 8 < n
      · have hE : Hid (unframe b = ([], 0, 10)) := by show _ = _; unfold unframe; rw [if_neg h8, HN.out, if_neg hbig, if_pos hsh]
        have hsh' : (b.length : Int) - 8 < n := by omega
        clear hsh hbig
        go_enter Tryz.func63, Tryz.ntmps63
        go_wp2_with fail
        refine k1.out.mono ?_
        rintro e w1 ⟨rfl, rfl⟩
        go_wp2_with fail
        go_ret3
        rw [hE.out]
        exact unframed_none w 0 10 w (Below.refl _ _)
      · have hsh' : ¬ (b.length : Int) - 8 < n := by omega
        obtain ⟨a1, c1, s1, b1⟩ := slice_piece hv 0 4 none (some (.int .i64 4)) (.inl ⟨rfl, rfl⟩) (.inr rfl) (by omega) (by omega)
        obtain ⟨a2, c2, s2, b2⟩ := slice_piece hv 8 (8 + n) (some (.int .i64 8)) (some (.int .i64 ((8 : Int) + n))) (.inr rfl) (.inr (by rfl)) (by omega) (by omega)
        obtain ⟨a3, c3, s3, b3⟩ := slice_piece hv 4 b.length (some (.int .i64 4)) none (.inr rfl) (.inl ⟨rfl, rfl⟩) (by omega) (Nat.le_refl _)
        have e1 : (b.drop 0).take (4 - 0) = b.take 4 := rfl
        have e2 : (b.drop 8).take (8 + n - 8) = (b.drop 8).take n := by rw [Nat.add_sub_cancel_left]
        have e3 : (b.drop 4).take (b.length - 4) = b.drop 4 := List.take_of_length_le (by simp)
        rw [e1] at b1
        rw [e2] at b2
        rw [e3] at b3
        rw [Nat.add_sub_cancel_left] at s2 b2
        rw [Nat.sub_zero] at s1 b1
        have k2 := Lib.hid (fun W hb => Seal_calls _ _ (b.take 4) ((b.drop 8).take n) W (b1.below hb) (b2.below hb) (by simp; omega) (by simp; omega))
        have k3 := Lib.hid (fun W hb => Fourth_calls _ (b.drop 4) W (b3.below hb) (by simp; omega))
        have hsl := seal_lt (b.take 4) ((b.drop 8).take n)
        have hfl := fourth_lt (b.drop 4)
        generalize hs : sealS (b.take 4) ((b.drop 8).take n) = sv at k2 hsl
        generalize hfv : fourth (b.drop 4) = fv at k3 hfl
        have hwr : IntKind.i64.wrap ((8 : Int) + n) = 8 + n := IntWalk.i64_in _ (by omega)
        have HS := Lib.hid hs
        have HF := Lib.hid hfv
        have B2 := Lib.hid b2
        clear hs hfv e1 e2 e3 b1 b2 b3
        go_enter Tryz.func63, Tryz.ntmps63
        go_wp2_with fail
        refine k1.out.mono ?_
        rintro e w1 ⟨rfl, rfl⟩
        go_wp2_with fail
        go_cut [21] (fun s wx => s = .bool (((sv : Int)) != fv) ∧ ∃ q, wx = w.drewN q)
        case first =>
          go_quiet ((first
            | (go_at_call 61; exact quiet_same (k2.out _ (bdrewN _ (Below.refl _ _))))
            | (go_at_call 92; exact quiet_same (k3.out _ (bdrewN _ (Below.refl _ _))))))
          go_wp2_with fail
          go_meet
          exact ⟨rfl, _, rfl⟩
        case rest =>
          obtain ⟨rfl, q, rfl⟩ := hcut
          have hsum2 : unframe b = if sv ≠ fv then ([], 0, 8) else ((b.drop 8).take n, n + 8, 0) := by
            unfold unframe; rw [if_neg h8, HN.out, if_neg hbig, if_neg hsh, HS.out, HF.out]
          by_cases hne : sv = fv
          · have hE : Hid (unframe b = ((b.drop 8).take n, n + 8, 0)) := by show _ = _; rw [hsum2, if_neg (by simpa using hne)]
            rw [show (((sv : Int)) != fv) = false by simp [hne]]
            obtain ⟨v', w', hap, hr, hch, hlie⟩ := run_append_bytes (w.drewN q) (.slice none 0 0) (.slice a2 n c2) 0 [] ((b.drop 8).take n) ⟨rfl, .inl ⟨rfl, rfl⟩⟩ (B2.out.below (bdrewN q (Below.refl _ _))) (by simp; omega)
            have hlen : ((b.drop 8).take n).length = n := by simp; omega
            have hnew : Disk.NewBytes w ((b.drop 8).take n) v' w' := ⟨by simpa using hr, (bdrewN q (Below.refl _ _)).trans (hch.below (Nat.le_refl _) fun k hk => by simp [Value.ownBlock] at hk), fun k hk => by
              rcases hlie k hk with h1 | h1
              · simp [Value.ownBlock] at h1
              · exact h1⟩
            obtain ⟨xa, xn, xc, rfl⟩ := Disk.row_slice hr
            have HNEW := Lib.hid hnew
            clear hr hch hlie hnew hlen hne hsum2 hbig hsh h8 hwr s3 s1
            have hwr : IntKind.i64.wrap ((8 : Int) + n) = 8 + n := IntWalk.i64_in _ (by omega)
            go_wp2_with (at_builtin; refine wpList_append_run rfl (.const (.slice none 0 0)) (.tmp 36) 24 rfl _ _ _ _ rfl rfl hap ?_)
            go_ret3
            rw [hE.out]
            exact ⟨_, rfl, HNEW.out⟩
          · have hE : Hid (unframe b = ([], 0, 8)) := by show _ = _; rw [hsum2, if_pos hne]
            rw [show (((sv : Int)) != fv) = true by rw [bne_iff_ne]; omega]
            clear hne hsum2 hbig hsh h8 hwr s3 s1 s2
            go_wp2_with fail
            go_ret3
            rw [hE.out]
            exact unframed_none w 0 8 _ (bdrewN q (Below.refl _ _))
end Codec
end Go.Proofs.YtlcenkkfcejnbaaGreatDoor
