/- The disk's other calls: New, Arm, Start, Crash, On, Read. -/
import Derived.Test.YtlcenkkfcejnbaaGreatDoorDiskOps
namespace Go.Proofs.YtlcenkkfcejnbaaGreatDoor
open Go.RowKit
namespace Disk

theorem DiskAt.fresh {w : World} {d m : Nat} {room : Int} (h0 : 0 ≤ room) (h1 : room ≤ 1073741824) (hm : w.heap[m]? = some (.map #[] 0))
    (hd : w.heap[d]? = some (.cells #[.int .i64 room, .map (some m), .slice none 0 0, .bool false, .int .i64 0, .int .i64 0, .int .i64 0] 101 (0, 0))) :
    DiskAt w d (Disk.mk room) { m := m, line := .slice none 0 0, blk := fun _ => 0, arr := fun _ => .slice none 0 0 } where
  wf := ⟨h1, by simpa [DS.free, Disk.mk, used] using h0, by simp [Disk.mk], List.nodup_nil, List.nodup_nil, (fun f hf => by cases hf), (fun f hf => by cases hf), List.nodup_nil, (fun m hm => by cases hm), (fun f hf => by cases hf)⟩
  self := hd
  map := ⟨#[], 0, hm, rfl, List.nodup_nil, by intro e he; cases he⟩
  pages := by intro f hf; cases hf
  line := ⟨rfl, .inl ⟨rfl, rfl⟩⟩
  blks := by intro f hf; cases hf
  arrs := by intro f hf; cases hf

def Made (room : Int) (w : World) (e : Ending) (w' : World) : Prop := ∃ d F, e = .returned (ptr d) ∧ Owns w' d (Disk.mk room) F ∧ Below w.heap.size w w' ∧ ∀ k, F k → w.heap.size ≤ k

set_option maxHeartbeats 400000 in
theorem New_calls (room : Int) (w : World) (h0 : 0 ≤ room) (h1 : room ≤ 1073741824) : Calls Tryz.prog 22 #[.int .i64 room] w (Made room w) := by
  have hmm := @run_makeMap Tryz.prog
  go_enter Tryz.func22, Tryz.ntmps22
  go_wp2
  go_ret
  have hm : ((w.alloc (.map #[] 0)).alloc (.cells #[.int .i64 room, .map (some w.heap.size), .slice none 0 0, .bool false, .int .i64 0, .int .i64 0, .int .i64 0] 101)).heap[w.heap.size]? = some (.map #[] 0) := by
    rw [Below.heap_alloc _ _ _ (by simp)]; show (w.heap.push _)[w.heap.size]? = _; simp
  have hd : ((w.alloc (.map #[] 0)).alloc (.cells #[.int .i64 room, .map (some w.heap.size), .slice none 0 0, .bool false, .int .i64 0, .int .i64 0, .int .i64 0] 101)).heap[w.heap.size + 1]? = some (.cells #[.int .i64 room, .map (some w.heap.size), .slice none 0 0, .bool false, .int .i64 0, .int .i64 0, .int .i64 0] 101 (0, 0)) := by
    rw [show w.heap.size + 1 = (w.alloc (.map #[] 0)).heap.size by simp]; show (Array.push _ _)[_]? = _; exact Array.getElem?_push_size
  have hA := DiskAt.fresh h0 h1 hm hd
  refine ⟨w.heap.size + 1, _, rfl, ⟨⟨_, hA, fun _ h => h⟩, hA.lt⟩, ((Below.refl _ _).alloc (Nat.le_refl _) _).alloc (by simp) _, ?_⟩
  rintro k (h | h | h | ⟨f, hf, _⟩)
  · omega
  · simp only at h; omega
  · simp [Value.ownBlock] at h
  · cases hf

theorem own_put {w : World} {d : Nat} {σ : DS} {L : Lay} (h : DiskAt w d σ L) (dark : Bool) (plan keep : Int) {w' : World} (hc : Chg (· = d) w w')
    (hs : w'.heap[d]? = some (.cells #[.int .i64 σ.room, .map (some L.m), L.line, .bool dark, .int .i64 σ.ops, .int .i64 plan, .int .i64 keep] 101 (0, 0))) :
    Step w d σ L { σ with dark := dark, plan := plan, keep := keep } L w' :=
  ⟨h.own (σ' := { σ with dark := dark, plan := plan, keep := keep }) rfl rfl rfl rfl hs hc, rfl, fun _ _ h => h, hc.mono fun k _ e => by rw [e]; exact .inl rfl⟩

/-- fault of no names. -/
theorem fault_none (w : World) (d : Nat) (σ : DS) (L : Lay) (h : DiskAt w d σ L) : Calls Tryz.prog 52 #[.pointer (some ⟨d, 0, none⟩), .slice none 0 0, .bool false] w fun e w' => e = .returned (.int .i64 (if σ.dark then 9 else 0)) ∧ Below w.heap.size w w' := by
  refine (Fault_calls d σ L (.slice none 0 0) [] false w h (.inl ⟨rfl, rfl⟩) (fun s hs => by cases hs) (fun hb => by cases hb)).mono ?_
  rintro e w1 ⟨rfl, hb⟩
  refine ⟨ret_int ?_, hb⟩
  unfold DS.fault
  simp

set_option maxRecDepth 100000 in
set_option maxHeartbeats 400000 in
theorem Start_calls (d : Nat) (σ : DS) (F : Nat → Prop) (w : World) (h : Owns w d σ F) :
    Calls Tryz.prog 26 #[ptr d] w fun e w' => e = .returned (.tuple #[]) ∧ Moves w d F σ.start w' := by
  obtain ⟨⟨L, hA, hL⟩, hlt⟩ := h
  have HO : Hid (Owns w d σ F) := ⟨⟨L, hA, hL⟩, hlt⟩
  have HL := Lib.hid hL
  have key := Lib.hid (fault_none w d σ L hA)
  have hz : ∃ z : Int, z = (if σ.dark then 9 else 0) ∧ (z == 1) = false := ⟨_, rfl, by split <;> rfl⟩
  obtain ⟨z, hz, hz1⟩ := hz
  have hz2 : (z != 1) = true := by simp [bne, hz1]
  have HZ := Lib.hid hz
  clear hL hz
  unfold ptr
  go_enter Tryz.func26, Tryz.ntmps26
  go_wp2_with fail
  refine key.out.mono ?_
  rintro e w1 ⟨rfl, hb1⟩
  rw [← HZ.out]
  have h1 := hA.below hb1
  have hs := h1.self
  have c3 := cell_of hs 3
  have c5 := cell_of hs 5
  have f3 := free_of hs 3
  have f5 := free_of hs 5
  simp only [List.getElem?_toArray, List.getElem?_cons_succ, List.getElem?_cons_zero] at c3 c5
  have HS := Lib.hid hs
  clear hs
  go_wp2_with fail
  go_end0
  have hset := set_block (set_block HS.out 3 (.bool false)) 5 (.int .i64 0)
  exact ⟨rfl, HO.out.moves HL.out (reach_from hA hb1 ⟨L, own_put h1 false 0 σ.keep (((Chg.refl (· = d) w1).setCell (p := ⟨d, 3, none⟩) (fun _ => rfl) _).setCell (p := ⟨d, 5, none⟩) (fun _ => rfl) _) hset⟩)⟩

set_option maxRecDepth 100000 in
set_option maxHeartbeats 400000 in
theorem Arm_calls (d : Nat) (σ : DS) (F : Nat → Prop) (n keep : Int) (w : World) (h : Owns w d σ F) :
    Calls Tryz.prog 23 #[ptr d, .int .i64 n, .int .i64 keep] w fun e w' => e = .returned (.int .i64 (σ.arm n keep).1) ∧ Moves w d F (σ.arm n keep).2 w' := by
  obtain ⟨⟨L, hA, hL⟩, hlt⟩ := h
  have HO : Hid (Owns w d σ F) := ⟨⟨L, hA, hL⟩, hlt⟩
  have HL := Lib.hid hL
  have key := Lib.hid (fault_none w d σ L hA)
  clear hL
  unfold ptr
  cases hd : σ.dark
  · have HD := Lib.hid hd
    by_cases hn : n < 0
    · have hE : Hid (σ.arm n keep = (2, σ)) := by show _ = _; unfold DS.arm; simp [hd, hn]
      clear hd
      go_enter Tryz.func23, Tryz.ntmps23
      go_wp2_with fail
      refine key.out.mono ?_
      rintro e w1 ⟨rfl, hb1⟩
      rw [HD.out]
      go_wp2_with fail
      go_ret
      rw [hE.out]
      exact ⟨rfl, Moves.of_below HO.out hb1⟩
    · have hE : Hid (σ.arm n keep = (0, { σ with plan := n, keep := keep })) := by show _ = _; unfold DS.arm; simp [hd, hn]
      clear hd
      go_enter Tryz.func23, Tryz.ntmps23
      go_wp2_with fail
      refine key.out.mono ?_
      rintro e w1 ⟨rfl, hb1⟩
      rw [HD.out]
      have h1 := hA.below hb1
      have hs := h1.self
      have c3 := cell_of hs 5
      have c5 := cell_of hs 6
      have f3 := free_of hs 5
      have f5 := free_of hs 6
      simp only [List.getElem?_toArray, List.getElem?_cons_succ, List.getElem?_cons_zero] at c3 c5
      have HS := Lib.hid hs
      clear hs
      go_wp2_with fail
      go_ret
      have hset := set_block (set_block HS.out 5 (.int .i64 n)) 6 (.int .i64 keep)
      rw [hE.out]
      refine ⟨rfl, HO.out.moves HL.out (reach_from hA hb1 ⟨L, ?_⟩)⟩
      have := own_put h1 σ.dark n keep (((Chg.refl (· = d) w1).setCell (p := ⟨d, 5, none⟩) (fun _ => rfl) _).setCell (p := ⟨d, 6, none⟩) (fun _ => rfl) _) hset
      exact this
  · have HD := Lib.hid hd
    have hE : Hid (σ.arm n keep = (9, σ)) := by show _ = _; unfold DS.arm; simp [hd]
    clear hd
    go_enter Tryz.func23, Tryz.ntmps23
    go_wp2_with fail
    refine key.out.mono ?_
    rintro e w1 ⟨rfl, hb1⟩
    rw [HD.out]
    go_wp2_with fail
    go_ret
    rw [hE.out]
    exact ⟨rfl, Moves.of_below HO.out hb1⟩

theorem CrashO_calls (d : Nat) (σ : DS) (F : Nat → Prop) (keep : Int) (w : World) (h : Owns w d σ F) :
    Calls Tryz.prog 25 #[ptr d, .int .i64 keep] w fun e w' => e = .returned (.tuple #[]) ∧ Moves w d F (σ.crash keep) w' := by
  obtain ⟨⟨L, hA, hL⟩, hlt⟩ := h
  refine (Crash_calls d σ L keep w hA).mono ?_
  rintro e w' ⟨rfl, hr⟩
  exact ⟨rfl, (⟨⟨L, hA, hL⟩, hlt⟩ : Owns w d σ F).moves hL hr⟩

theorem OnO_calls (d : Nat) (σ : DS) (F : Nat → Prop) (w : World) (h : Owns w d σ F) :
    Calls Tryz.prog 24 #[ptr d] w fun e w' => e = .returned (.bool (!σ.dark)) ∧ Below w.heap.size w w' := by
  obtain ⟨⟨L, hA, hL⟩, hlt⟩ := h
  exact On_calls d σ L w hA
end Disk
end Go.Proofs.YtlcenkkfcejnbaaGreatDoor
