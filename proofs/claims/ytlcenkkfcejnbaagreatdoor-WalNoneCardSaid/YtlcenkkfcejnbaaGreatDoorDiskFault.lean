/- What disk.fault answers, and On. -/
import Derived.Test.YtlcenkkfcejnbaaGreatDoorDiskMem
import Derived.WalkSpells
import Derived.Deep.QuietTactic
namespace Go.Proofs.YtlcenkkfcejnbaaGreatDoor
open Go.RowKit
namespace Disk

/-- A list of texts that a slice shows. -/
def Texts (w : World) (v : Value) (ss : List ByteArray) : Prop :=
  (v = .slice none 0 0 ∧ ss = []) ∨ ∃ b off cap, v = .slice (some ⟨b, off, none⟩) ss.length cap ∧ b < w.heap.size ∧ ss.length ≤ 1000 ∧ ∀ i, (h : i < ss.length) → w.cell? ⟨b, off + i, none⟩ = some (.string ss[i])

def bad (s : ByteArray) : Bool := !good s.data.toList

theorem anyFrom {ss : List ByteArray} {k : Nat} (h : k < ss.length) : (ss.drop k).findIdx bad = if bad ss[k] then 0 else (ss.drop (k + 1)).findIdx bad + 1 := by
  rw [List.drop_eq_getElem_cons h, List.findIdx_cons]
  cases bad ss[k] <;> rfl

def Found (ss : List ByteArray) (e : Ending) : Prop := ∃ n : Int, e = .returned (.int .i64 n) ∧ (0 ≤ n ↔ ss.any bad = true) ∧ -1 ≤ n ∧ n ≤ 1000

set_option maxHeartbeats 400000 in
theorem Bad_calls (s : ByteArray) (w : World) (hs : s.size ≤ maxLen) :
    Calls Tryz.prog 86 #[.string s] w fun e w' => e = .returned (.bool (bad s)) ∧ Below w.heap.size w w' := by
  go_enter Tryz.func86, Tryz.ntmps86
  go_wp2_with (first | (go_at_call 14; refine (DiskGood_calls _ _ hs).mono ?_; rintro e w1 ⟨rfl, hb1⟩))
  go_ret
  exact ⟨rfl, hb1⟩

set_option maxHeartbeats 400000 in
theorem IndexBad_calls (v : Value) (ss : List ByteArray) (w : World) (hv : Texts w v ss) (hl : ∀ s ∈ ss, s.size ≤ maxLen) :
    Calls Tryz.prog 112 #[v, .func (.func 86) #[] #[]] w fun e w' => Found ss e ∧ Below w.heap.size w w' := by
  rcases hv with ⟨rfl, rfl⟩ | ⟨b, off, cap, rfl, hbs, hsm, hcell⟩
  · go_enter Tryz.func112, Tryz.ntmps112
    go_wp2
    go_loop [5, 8] (fun _ i => i = .int .i64 0) (fun _ i => 0)
    case atStart => rfl
    case round =>
      obtain rfl := hrel
      go_wp2
      go_ret
      exact ⟨⟨-1, rfl, by simp, by omega, by omega⟩, Below.refl _ _⟩
  · go_enter Tryz.func112, Tryz.ntmps112
    go_wp2
    go_loopw [5, 8] (fun _ i wr => ∃ k : Nat, k ≤ ss.length ∧ i = .int .i64 k ∧ Below w.heap.size w wr ∧ Hid ((ss.take k).any bad = false)) (fun _ i _ => ss.length - (intOf i).toNat)
    case atStart => exact ⟨0, Nat.zero_le _, rfl, Below.refl _ _, by show _ = _; simp⟩
    case round =>
      obtain ⟨k, hk, rfl, hb, hn⟩ := hrel
      by_cases hlt : k < ss.length
      · have hc0 := hcell k hlt
        have hc := (bcell hb).1 b (off + k) hbs
        rw [hc0] at hc
        have hsz := hl ss[k] (List.getElem_mem _)
        have hany : (ss.take (k + 1)).any bad = ((ss.take k).any bad || bad ss[k]) := by
          rw [List.take_succ_eq_append_getElem hlt, List.any_append, List.any_cons, List.any_nil, Bool.or_false]
        rw [hn.out, Bool.false_or] at hany
        have HA := Lib.hid hany
        clear hc0 hcell hany hn
        cases hbad : bad ss[k]
        · have HB := Lib.hid hbad
          clear hbad
          go_wp2_with (first | (go_at_call 86; refine (Bad_calls _ _ hsz).mono ?_; rintro e w1 ⟨rfl, hb1⟩; rw [HB.out]))
          go_roundw
          case rel => exact ⟨k + 1, by omega, by go_num, hb.trans (hb1.mono hb.size), by show _ = _; rw [HA.out, HB.out]⟩
          case measure => simp [intOf]; omega
        · have HB := Lib.hid hbad
          clear hbad
          go_wp2_with (first | (go_at_call 86; refine (Bad_calls _ _ hsz).mono ?_; rintro e w1 ⟨rfl, hb1⟩; rw [HB.out]))
          go_ret
          refine ⟨⟨k, rfl, ?_, by omega, by omega⟩, hb.trans (hb1.mono hb.size)⟩
          have : ss.any bad = true := List.any_eq_true.2 ⟨ss[k], List.getElem_mem _, HB.out⟩
          simp [this]
      · have hke : k = ss.length := by omega
        subst hke
        clear hcell
        go_wp2
        go_ret
        refine ⟨⟨-1, rfl, ?_, by omega, by omega⟩, hb⟩
        have := hn.out
        rw [List.take_length] at this
        rw [this]; simp

set_option maxHeartbeats 400000 in
theorem ContainsBad_calls (v : Value) (ss : List ByteArray) (w : World) (hv : Texts w v ss) (hl : ∀ s ∈ ss, s.size ≤ maxLen) :
    Calls Tryz.prog 85 #[v, .func (.func 86) #[] #[]] w fun e w' => e = .returned (.bool (ss.any bad)) ∧ Below w.heap.size w w' := by
  go_enter Tryz.func85, Tryz.ntmps85
  go_wp2_with (first | (go_at_call 112; refine (IndexBad_calls v ss _ hv hl).mono ?_; rintro e w1 ⟨⟨n, rfl, hn0, h1, h2⟩, hb1⟩; have hn := Lib.hid hn0; clear hn0))
  go_ret
  refine ⟨ret_bool ?_, hb1⟩
  rw [Bool.eq_iff_iff, decide_eq_true_eq]
  exact hn.out

theorem Fault_nil (v : Value) (b : Bool) (w : World) :
    Calls Tryz.prog 52 #[.pointer none, v, .bool b] w fun e w' => e = .returned (.int .i64 1) ∧ w = w' := by
  go_enter Tryz.func52, Tryz.ntmps52
  go_wp2
  go_ret
  exact ⟨rfl, rfl⟩

theorem Texts.below {w w' : World} {v : Value} {ss : List ByteArray} (h : Texts w v ss) (hb : Below w.heap.size w w') : Texts w' v ss := by
  rcases h with h | ⟨b, off, cap, h1, h2, h3, h4⟩
  · exact .inl h
  · exact .inr ⟨b, off, cap, h1, Nat.lt_of_lt_of_le h2 hb.size, h3, fun i hi => by rw [(bcell hb).1 b _ h2]; exact h4 i hi⟩

theorem DiskAt.lt {w : World} {d : Nat} {σ : DS} {L : Lay} (h : DiskAt w d σ L) : ∀ k, L.foot d σ.files k → k < w.heap.size := by
  have key : ∀ {k : Nat} {o : Obj}, w.heap[k]? = some o → k < w.heap.size := fun {k o} hk => by
    rcases Nat.lt_or_ge k w.heap.size with h | h
    · exact h
    · simp [Array.getElem?_eq_none h] at hk
  have own : ∀ {v : Value} {e : TypeId} {n m : Nat} {xs : List Value} {k : Nat}, w.ownsRow 0 e n v m xs → v.ownBlock = some k → k < w.heap.size := fun {v e n m xs k} hr hk => by
    rcases hr.2 with ⟨rfl, _⟩ | ⟨g, cap, cur, rfl, _, hg, _⟩
    · simp [Value.ownBlock] at hk
    · simp only [Value.ownBlock, Option.some.injEq] at hk
      subst hk
      exact key hg
  rintro k (rfl | rfl | hk | ⟨f, hf, rfl | hk⟩)
  · exact key h.self
  · obtain ⟨es, c, hm, _⟩ := h.map; exact key hm
  · exact own h.line hk
  · exact key (h.pages f hf).self
  · exact own (h.pages f hf).arr hk

theorem ownsRow_keep {w w' : World} {base : Nat} {e : TypeId} {n : Nat} {v : Value} {m : Nat} {xs : List Value} (h : w.ownsRow base e n v m xs) (hk : ∀ k, v.ownBlock = some k → w'.heap[k]? = w.heap[k]?) : w'.ownsRow base e n v m xs := by
  refine ⟨h.1, ?_⟩
  rcases h.2 with h | ⟨g, cap, cur, rfl, hg, hh, r⟩
  · exact .inl h
  · exact .inr ⟨g, cap, cur, rfl, hg, by rw [hk g rfl]; exact hh, r⟩

theorem PageAt.keep {w w' : World} {L : Lay} {f : File} (h : PageAt w L f) (h1 : w'.heap[L.blk f.id]? = w.heap[L.blk f.id]?) (h2 : ∀ k, (L.arr f.id).ownBlock = some k → w'.heap[k]? = w.heap[k]?) : PageAt w' L f :=
  ⟨by rw [h1]; exact h.self, ownsRow_keep h.arr h2⟩

/-- A disk whose blocks are as they were. -/
theorem DiskAt.keep {w w' : World} {d : Nat} {σ : DS} {L : Lay} (h : DiskAt w d σ L) (hk : ∀ k, L.foot d σ.files k → w'.heap[k]? = w.heap[k]?) : DiskAt w' d σ L where
  wf := h.wf
  self := by rw [hk d (.inl rfl)]; exact h.self
  map := by obtain ⟨es, c, hm, r⟩ := h.map; exact ⟨es, c, by rw [hk L.m (.inr (.inl rfl))]; exact hm, r⟩
  pages := fun f hf => (h.pages f hf).keep (hk _ (.inr (.inr (.inr ⟨f, hf, .inl rfl⟩)))) fun k h2 => hk _ (.inr (.inr (.inr ⟨f, hf, .inr h2⟩)))
  line := ownsRow_keep h.line fun k h2 => hk _ (.inr (.inr (.inl h2)))
  blks := h.blks
  arrs := h.arrs

theorem DiskAt.below {w w' : World} {d : Nat} {σ : DS} {L : Lay} (h : DiskAt w d σ L) (hb : Below w.heap.size w w') : DiskAt w' d σ L :=
  h.keep fun k hk => hb.block k (h.lt k hk)

theorem DiskAt.cell {w : World} {d : Nat} {σ : DS} {L : Lay} (h : DiskAt w d σ L) (i : Nat) : w.cell? ⟨d, i, none⟩ = (#[.int .i64 σ.room, .map (some L.m), L.line, .bool σ.dark, .int .i64 σ.ops, .int .i64 σ.plan, .int .i64 σ.keep] : Array Value)[i]? := cell_of h.self i

theorem findV_nil (L : Lay) (σ : DS) (s : Bytes) : (findV L σ s = .pointer none) = ((σ.find s).isNone = true) := by
  unfold findV
  cases σ.find s <;> simp [Lay.page, ptr]

set_option maxRecDepth 100000 in
set_option maxHeartbeats 400000 in
theorem Fault_calls (d : Nat) (σ : DS) (L : Lay) (v : Value) (ss : List ByteArray) (b : Bool) (w : World) (h : DiskAt w d σ L) (hv : Texts w v ss) (hl : ∀ s ∈ ss, s.size ≤ maxLen) (hne : b = true → ss ≠ []) :
    Calls Tryz.prog 52 #[ptr d, v, .bool b] w fun e w' => e = .returned (.int .i64 (σ.fault (ss.map (·.data.toList)) b)) ∧ Below w.heap.size w w' := by
  have hc1 := h.cell 1
  have hc3 := h.cell 3
  simp only [List.getElem?_toArray, List.getElem?_cons_succ, List.getElem?_cons_zero] at hc1 hc3
  have qm : ∀ w, (binOp .eql 98 (.map (some L.m)) (.map none)).run Tryz.prog w = .ok (.bool false) w := fun w => run_eql_map_nil w _ 9 103 (some L.m) (by kernel_rfl)
  have hd := h.lt d (.inl rfl)
  unfold ptr
  cases hdark : σ.dark
  · rw [hdark] at hc3
    have hbad : (List.map (fun s : ByteArray => s.data.toList) ss).any (fun s => !good s) = ss.any bad := by
      rw [List.any_map]; rfl
    cases hany : ss.any bad
    · cases b
      · have HF : Hid (σ.fault (ss.map (·.data.toList)) false = 0) := by
          show _ = _
          unfold DS.fault
          rw [hdark, hbad, hany]; simp
        have HA := Lib.hid hany
        clear hany hbad hdark
        go_enter Tryz.func52, Tryz.ntmps52
        go_wp2_with (first | (go_at_call 85; refine (ContainsBad_calls v ss _ hv hl).mono ?_; rintro e w1 ⟨rfl, hb1⟩; rw [HA.out]))
        go_quiet (fail)
        go_wp2
        go_ret
        exact ⟨ret_int HF.out.symm, bdrewN _ hb1⟩
      · rcases hv with ⟨_, rfl⟩ | ⟨vb, off, cap, rfl, hbs, hsm, hcell⟩
        · exact absurd rfl (hne rfl)
        have hv' : Texts w (.slice (some ⟨vb, off, none⟩) ss.length cap) ss := .inr ⟨vb, off, cap, rfl, hbs, hsm, hcell⟩
        have h0 : 0 < ss.length := List.length_pos_iff.2 (hne rfl)
        have hc0 := hcell 0 h0
        rw [Nat.add_zero] at hc0
        have hhead : (ss.map (·.data.toList)).headD [] = ss[0].data.toList := by
          cases ss with
          | nil => cases h0
          | cons a l => rfl
        have HH := Lib.hid hhead
        have HA := Lib.hid hany
        clear hcell hhead hne
        cases hfnd : σ.find ss[0].data.toList with
        | none =>
          have HF : Hid (σ.fault (ss.map (·.data.toList)) true = 4) := by
            show _ = _
            unfold DS.fault
            rw [hdark, hbad, hany, HH.out, hfnd]; try rfl
          have hfv : findV L σ ss[0].data.toList = .pointer none := by unfold findV; rw [hfnd]; try rfl
          have hlk := fun w1 (hb1 : Below w.heap.size w w1) => run_look w1 d σ L (h.below hb1) ss[0]
          rw [hfv] at hlk
          clear hany hbad hdark hfnd hfv HH
          go_enter Tryz.func52, Tryz.ntmps52
          go_wp2_with (first | (go_at_call 85; refine (ContainsBad_calls _ ss _ hv' hl).mono ?_; rintro e w1 ⟨rfl, hb1⟩; rw [HA.out]))
          have hx1 := (bcell hb1).1 d 1 hd
          rw [hc1] at hx1
          have hx0 := (bcell hb1).1 vb off hbs
          rw [hc0] at hx0
          have hlk1 := fun n => hlk (w1.drewN n) (bdrewN n hb1)
          clear hlk
          have hi : (0 : Int) < (ss.length : Int) := by omega
          go_quiet (fail)
          go_wp2
          go_ret
          exact ⟨ret_int HF.out.symm, bdrewN _ hb1⟩
        | some f =>
          have HF : Hid (σ.fault (ss.map (·.data.toList)) true = 0) := by
            show _ = _
            unfold DS.fault
            rw [hdark, hbad, hany, HH.out, hfnd]; try rfl
          have hfv : findV L σ ss[0].data.toList = .pointer (some ⟨L.blk f.id, 0, none⟩) := by unfold findV; rw [hfnd]; try rfl
          have hlk := fun w1 (hb1 : Below w.heap.size w w1) => run_look w1 d σ L (h.below hb1) ss[0]
          rw [hfv] at hlk
          clear hany hbad hdark hfnd hfv HH
          go_enter Tryz.func52, Tryz.ntmps52
          go_wp2_with (first | (go_at_call 85; refine (ContainsBad_calls _ ss _ hv' hl).mono ?_; rintro e w1 ⟨rfl, hb1⟩; rw [HA.out]))
          have hx1 := (bcell hb1).1 d 1 hd
          rw [hc1] at hx1
          have hx0 := (bcell hb1).1 vb off hbs
          rw [hc0] at hx0
          have hlk1 := fun n => hlk (w1.drewN n) (bdrewN n hb1)
          clear hlk
          have hi : (0 : Int) < (ss.length : Int) := by omega
          go_quiet (fail)
          go_wp2
          go_ret
          exact ⟨ret_int HF.out.symm, bdrewN _ hb1⟩
    · have HF : Hid (σ.fault (ss.map (·.data.toList)) b = 3) := by
        show _ = _
        unfold DS.fault
        rw [hdark, hbad, hany]; simp
      have HA := Lib.hid hany
      clear hany hbad hdark
      go_enter Tryz.func52, Tryz.ntmps52
      go_wp2_with (first | (go_at_call 85; refine (ContainsBad_calls v ss _ hv hl).mono ?_; rintro e w1 ⟨rfl, hb1⟩; rw [HA.out]))
      go_ret
      exact ⟨ret_int HF.out.symm, hb1⟩
  · have HF : Hid (σ.fault (ss.map (·.data.toList)) b = 9) := by
      show _ = _
      unfold DS.fault
      rw [hdark]; rfl
    rw [hdark] at hc3
    clear hdark
    go_enter Tryz.func52, Tryz.ntmps52
    go_wp2
    go_ret
    exact ⟨ret_int HF.out.symm, Below.refl _ _⟩

/-- Has a disk power? -/
theorem On_calls (d : Nat) (σ : DS) (L : Lay) (w : World) (h : DiskAt w d σ L) :
    Calls Tryz.prog 24 #[ptr d] w fun e w' => e = .returned (.bool (!σ.dark)) ∧ Below w.heap.size w w' := by
  have hF : Hid (∀ w, DiskAt w d σ L → Calls Tryz.prog 52 #[ptr d, .slice none 0 0, .bool false] w fun e w' => e = .returned (.int .i64 (if σ.dark then 9 else 0)) ∧ Below w.heap.size w w') := by
    intro w h
    refine (Fault_calls d σ L (.slice none 0 0) [] false w h (.inl ⟨rfl, rfl⟩) (fun s hs => by cases hs) (fun hb => by cases hb)).mono ?_
    rintro e w1 ⟨rfl, hb⟩
    refine ⟨ret_int ?_, hb⟩
    unfold DS.fault
    simp
  unfold ptr at hF ⊢
  cases hd : σ.dark
  · have HD := Lib.hid hd
    clear hd
    go_enter Tryz.func24, Tryz.ntmps24
    go_wp2_with (first | (go_at_call 52; refine (hF.out _ h).mono ?_; rintro e w1 ⟨rfl, hb1⟩; simp only [HD.out, Bool.false_eq_true, if_false]))
    go_ret
    exact ⟨rfl, hb1⟩
  · have HD := Lib.hid hd
    clear hd
    go_enter Tryz.func24, Tryz.ntmps24
    go_wp2_with (first | (go_at_call 52; refine (hF.out _ h).mono ?_; rintro e w1 ⟨rfl, hb1⟩; simp only [HD.out, if_true]))
    go_ret
    exact ⟨rfl, hb1⟩
end Disk
end Go.Proofs.YtlcenkkfcejnbaaGreatDoor
