/- codec's Cells. -/
import Derived.Test.YtlcenkkfcejnbaaGreatDoorCodecCellsA
namespace Go.Proofs.YtlcenkkfcejnbaaGreatDoor
open Go.RowKit
namespace Codec

set_option maxRecDepth 100000 in
set_option maxHeartbeats 8000000 in
theorem Cells_calls (v : Value) (l : List Cell) (w : World) (h : CellsAt w v l) (hf : ∀ c ∈ l, c.Fits) (hl : (cells l).length ≤ 140737488354000) (hn : l.length ≤ 1000000000) :
    Calls Tryz.prog 33 #[v] w (Framed w (cells l)) := by
  have HC := Lib.hid h
  obtain ⟨va, vc, rfl⟩ := h.form
  have k1 := Put_calls (.slice none 0 0) [] l.length w ⟨rfl, .inl ⟨rfl, rfl⟩⟩ (by simp) (by omega)
  rw [List.nil_append] at k1
  have K1 := Lib.hid k1
  clear k1 h
  go_enter Tryz.func33, Tryz.ntmps33
  go_wp2_with fail
  refine K1.out.mono ?_
  rintro e w1 ⟨v1, rfl, hg1⟩
  obtain ⟨xa, xn, xc, rfl⟩ := Disk.row_slice hg1.row
  have HG1 := Lib.hid hg1
  clear hg1
  go_wp2_with fail
  go_loopw [3, 14] (fun o i wx => ∃ k : Nat, i = .int .i64 k ∧ k ≤ l.length ∧ Hid (Disk.NewBytes w (put l.length ++ (l.take k).flatMap cell) o wx)) (fun _ i _ => l.length - (intOf i).toNat)
  case atStart => exact ⟨0, rfl, by omega, by have := HG1.out.new (Below.refl _ _) (fun k hk => by simp [Value.ownBlock] at hk); simpa using Lib.hid this⟩
  case round =>
    obtain ⟨k, rfl, hk, HN⟩ := hrel
    obtain ⟨ya, yn, yc, rfl⟩ := Disk.row_slice HN.out.1
    by_cases hlt : k < l.length
    · obtain ⟨g, off, hva, hg, hcell⟩ : ∃ g off, va = some ⟨g, off, none⟩ ∧ g < w.heap.size ∧ ∀ j x, (cellV l[k])[j]? = some x → w.cell? ⟨g, off + k * 10 + j, none⟩ = some x := by
        rcases HC.out with ⟨a, c, h1, h2⟩ | ⟨g, off, c, h1, h2, _, h3⟩
        · rw [h2] at hlt; cases hlt
        · simp only [Value.slice.injEq] at h1
          exact ⟨g, off, h1.1, h2, h3 k hlt⟩
      subst hva
      generalize hcc : l[k] = c at hcell
      have hwr : ∀ j x, (cellV c)[j]? = some x → wr.cell? ⟨g, off + k * 10 + j, none⟩ = some x := fun j x hj => by rw [HN.out.2.1.cell (p := ⟨g, off + k * 10 + j, none⟩) hg]; exact hcell j x hj
      have c0 : wr.cell? ⟨g, off + k * 10, none⟩ = _ := hwr 0 _ rfl
      have c1 := hwr 1 _ rfl
      have c2 := hwr 2 _ rfl
      have c3 := hwr 3 _ rfl
      have c4 := hwr 4 _ rfl
      have c5 := hwr 5 _ rfl
      have c6 := hwr 6 _ rfl
      have c7 := hwr 7 _ rfl
      have c8 := hwr 8 _ rfl
      have c9 := hwr 9 _ rfl
      clear hwr hcell
      go_wp2_with fail
      go_cut [6, 7] (fun x y wx => ∃ a b, x = .pointer (some ⟨a, 0, none⟩) ∧ y = .pointer (some ⟨b, 0, none⟩) ∧ Hid (Halves wr c a b wx))
      case first =>
        go_region
        all_goals go_wp2_with fail
        all_goals go_meet
        all_goals refine ⟨_, _, rfl, rfl, ?_, ?_, ?_, ?_, ?_⟩
        all_goals first
          | exact (three_new wr _ _ _).drew
          | omega
          | exact three_at1 wr _ _ _
          | exact three_at2 wr _ _ _
      case rest =>
        obtain ⟨a, b, rfl, rfl, HH⟩ := hcut
        obtain ⟨wb, rfl⟩ : ∃ wb : World, wb = wc := ⟨_, rfl⟩
        have e0 := cell_of HH.out.ha 0
        have e1 := cell_of HH.out.ha 1
        have e2 := cell_of HH.out.ha 2
        have e3 := cell_of HH.out.ha 3
        simp only [keyV, List.getElem?_toArray, List.getElem?_cons_succ, List.getElem?_cons_zero] at e0 e1 e2 e3
        obtain ⟨L, hLe⟩ : ∃ L, put l.length ++ (l.take k).flatMap cell = L := ⟨_, rfl⟩
        have hown : ∀ i, (Value.slice ya yn yc).ownBlock = some i → i < wr.heap.size := fun i hi => (HN.out.1.lt i hi).2
        have row0 : wb.ownsRow 0 5 1 (.slice ya yn yc) L.length (bytesV L) := by
          rw [← hLe]; exact row_below HN.out.1 HH.out.below
        have hbnd : L.length + (cell c).length ≤ 140737488354000 := by
          have := cells_part l k hlt
          rw [← hLe, ← hcc]; omega
        obtain ⟨b1, b2, b3, b4, b5, b6⟩ := cell_bounds L c _ hbnd
        have hfit : c.Fits := hf c (hcc ▸ List.getElem_mem _)
        have alt : a < wb.heap.size := Disk.IsCells.lt ⟨_, _, HH.out.ha⟩
        have blt : b < wb.heap.size := Disk.IsCells.lt ⟨_, _, HH.out.hb⟩
        have hao := HH.out.olda
        have hbo := HH.out.oldb
        have keyk : ∀ W0 x w' v', W0.heap = wb.heap → Grew W0 (.slice ya yn yc) x w' v' → w'.cell? ⟨a, 0, none⟩ = some (.string ⟨c.table.toArray⟩) ∧ w'.cell? ⟨a, 1, none⟩ = some (.string ⟨c.part.toArray⟩) ∧ w'.cell? ⟨a, 2, none⟩ = some (.int .i64 c.row) ∧ w'.cell? ⟨a, 3, none⟩ = some (.string ⟨c.column.toArray⟩) := fun W0 x w' v' hW hg => by
          have hb := hg.chg.block a (by rw [hW]; exact alt) (fun e => by have := hown a e; omega)
          rw [hW] at hb
          exact ⟨Disk.cell_old e0 hb, Disk.cell_old e1 hb, Disk.cell_old e2 hb, Disk.cell_old e3 hb⟩
        have KEYK := Lib.hid keyk
        have ROW0 : Hid (wb.drew.ownsRow 0 5 1 (.slice ya yn yc) L.length (bytesV L)) := row0
        have T1 := Lib.hid (Text_calls (.slice ya yn yc) L ⟨c.table.toArray⟩ wb.drew ROW0.out b1)
        clear keyk row0 c0 c1 c2 c3 c4 c5 c6 c7 c8 c9
        go_wp2_with fail
        go_cut [3] (fun o wx => Hid (Grew wb (.slice ya yn yc) (L ++ text c.table ++ text c.part ++ put (zig c.row) ++ text c.column) wx o))
        case first =>
          go_region_held3 (fun w' => w'.cell? ⟨a, 0, none⟩ = some (.string ⟨c.table.toArray⟩) ∧ w'.cell? ⟨a, 1, none⟩ = some (.string ⟨c.part.toArray⟩) ∧ w'.cell? ⟨a, 2, none⟩ = some (.int .i64 c.row) ∧ w'.cell? ⟨a, 3, none⟩ = some (.string ⟨c.column.toArray⟩))
            (first
              | exact ⟨e0, e1, e2, e3⟩
              | exact KEYK.out wb.drew _ _ _ rfl h4
              | exact KEYK.out wb.drew _ _ _ rfl h3
              | exact KEYK.out wb.drew _ _ _ rfl h2
              | exact KEYK.out wb.drew _ _ _ rfl h1)
            (first
              | (go_at_call 59; have t1 := fun W => Zig_calls c.row W hfit.row.1 hfit.row.2; (with_reducible refine (t1 _).mono ?_); clear t1; rintro e wz ⟨rfl, rfl⟩)
              | (go_at_call 57; have t1 := Put_calls v3 _ (zig c.row) w3 h2.row (Nat.le_trans b3 (by decide)) (zig_lt _ hfit.row); (with_reducible refine t1.mono ?_); clear t1; rintro e w4 ⟨v4, rfl, g3⟩; have h3 := h2.trans g3; clear g3 h2)
              | (go_at_call 58; have t1 := Text_calls v4 _ ⟨c.column.toArray⟩ w4 h3.row b4; (with_reducible refine t1.mono ?_); clear t1; rintro e w5 ⟨v5, rfl, g4⟩; have h4 := h3.trans g4; clear g4 h3)
              | (go_at_call 58; have t1 := Text_calls v2 _ ⟨c.part.toArray⟩ w2 h1.row b2; (with_reducible refine t1.mono ?_); clear t1; rintro e w3 ⟨v3, rfl, g2⟩; have h2 := h1.trans g2; clear g2 h1)
              | (go_at_call 58; (with_reducible refine T1.out.mono ?_); rintro e w2 ⟨v2, rfl, h1⟩)
              )
          all_goals go_wp2_with fail
          all_goals go_meet
          all_goals exact h4.drewIn
        case rest =>
          have HG2 := hcut
          clear hcut T1 ROW0 KEYK e0 e1 e2 e3
          obtain ⟨pa, pn, pc, rfl⟩ := Disk.row_slice HG2.out.row
          have hb2 : wc.heap[b]? = wb.heap[b]? := HG2.out.chg.block b blt (fun e => by have := hown b e; omega)
          have HB2 : Hid (wc.heap[b]? = some (.cells (verV c).toArray 69 (0, 0))) := hb2.trans HH.out.hb
          have f0 := cell_of HB2.out 0
          simp only [verV, List.getElem?_toArray, List.getElem?_cons_zero] at f0
          clear hb2
          generalize hL2 : L ++ text c.table ++ text c.part ++ put (zig c.row) ++ text c.column = L2 at HG2 b5 b6
          obtain ⟨wd, rfl⟩ : ∃ wd : World, wd = wc := ⟨_, rfl⟩
          go_wp2_with fail
          refine (Zig_calls c.time _ hfit.time.1 hfit.time.2).mono ?_
          rintro e w6 ⟨rfl, rfl⟩
          go_wp2_with fail
          refine (Put_calls _ L2 (zig c.time) _ HG2.out.row (by omega) (zig_lt _ hfit.time)).mono ?_
          rintro e w7 ⟨v7, rfl, g7⟩
          have HG3 := Lib.hid (HG2.out.trans g7)
          have hb3 : w7.heap[b]? = wd.heap[b]? := g7.chg.block b (by have := HG2.out.chg.size; omega) (fun e => by
            rcases HG2.out.lies b e with h | h
            · have := hown b h; omega
            · omega)
          have HB3 : Hid (w7.heap[b]? = some (.cells (verV c).toArray 69 (0, 0))) := hb3.trans HB2.out
          obtain ⟨qa, qn, qc, rfl⟩ := Disk.row_slice g7.row
          clear g7 hb3 f0
          have f1 := cell_of HB3.out 1
          have f2 := cell_of HB3.out 2
          have f3 := cell_of HB3.out 3
          have f4 := cell_of HB3.out 4
          have f5 := cell_of HB3.out 5
          simp only [verV, List.getElem?_toArray, List.getElem?_cons_succ, List.getElem?_cons_zero] at f1 f2 f3 f4 f5
          have b7 : b < w7.heap.size := Disk.IsCells.lt ⟨_, _, HB3.out⟩
          have nb7 : ∀ i, (Value.slice qa qn qc).ownBlock = some i → ¬ i = b := fun i hi e => by
            subst e
            rcases HG3.out.lies _ hi with h | h
            · have := hown _ h; omega
            · omega
          have row7 := HG3.out.row
          have ROW7 : Hid (w7.drew.ownsRow 0 5 1 (.slice qa qn qc) (L2 ++ put (zig c.time)).length (bytesV (L2 ++ put (zig c.time)))) := row7
          clear row7
          have hb7 : (L2 ++ put (zig c.time)).length + 200 ≤ 140737488355000 := by
            have := put_len (zig c.time)
            simp only [List.length_append]; omega
          generalize hL3 : L2 ++ put (zig c.time) = L3 at HG3 ROW7 hb7 b6
          have b4L : ∀ (W0 : World) x w' v', W0.heap = w7.heap → Grew W0 (Value.slice qa qn qc) x w' v' → w'.heap[b]? = w7.heap[b]? := fun W0 x w' v' hW hg => by
            have := hg.chg.block b (by rw [hW]; exact b7) (fun e => nb7 b e rfl)
            rw [this, hW]
          have B4L := Lib.hid b4L
          clear b4L
          cases hdead : c.dead
          · rw [hdead] at f1
            obtain ⟨v8, w8, hap, hg8⟩ := run_append_few w7.drew (.slice qa qn qc) L3 [0] [.int .u8 0] rfl ROW7.out (by simp; omega) (by simp)
            clear f2
            have HG8 := Lib.hid hg8
            have hkd := kind_wrap c.kind hfit.kind
            have hkl : (c.kind % 18446744073709551616).toNat < 18446744073709551616 := by omega
            have T2 := Lib.hid (Put_calls v8 _ (c.kind % 18446744073709551616).toNat w8 hg8.row (by simp; omega) hkl)
            rw [← hkd] at T2
            have hp1 := put_len (c.kind % 18446744073709551616).toNat
            have hp2 := put_len (zig c.n)
            generalize hkn : put (c.kind % 18446744073709551616).toNat = kb at T2 hp1 b6
            have ba : (L3 ++ [0] ++ kb).length ≤ 140737488355000 := by simp; omega
            have bb : (L3 ++ [0] ++ kb ++ put (zig c.n)).length + (⟨c.s.toArray⟩ : ByteArray).size ≤ 140737488354000 := b6 hdead
            obtain ⟨ra, rn, rc, rfl⟩ := Disk.row_slice hg8.row
            clear hg8 hkd hkl
            go_wp2_with fail
            go_region_held3 (fun w' => w'.cell? ⟨b, 3, none⟩ = some (.int .i64 c.kind) ∧ w'.cell? ⟨b, 4, none⟩ = some (.int .i64 c.n) ∧ w'.cell? ⟨b, 5, none⟩ = some (.string ⟨c.s.toArray⟩))
              (first
                | exact ⟨f3, f4, f5⟩
                | exact keep3 f3 f4 f5 (Below.heap_alloc w7 _ _ b7)
                | exact keep3 f3 f4 f5 (B4L.out w7.drew _ _ _ rfl HG8.out)
                | exact keep3 f3 f4 f5 (B4L.out w7.drew _ _ _ rfl h9)
                | exact keep3 f3 f4 f5 (B4L.out w7.drew _ _ _ rfl h10)
                | exact keep3 f3 f4 f5 (B4L.out w7.drew _ _ _ rfl h11))
              (first
                | (go_at_call 59; have t1 := fun W => Zig_calls c.n W hfit.n.1 hfit.n.2; (with_reducible refine (t1 _).mono ?_); clear t1; rintro e wz ⟨rfl, rfl⟩)
                | (go_at_call 57; (with_reducible refine T2.out.mono ?_); rintro e w9 ⟨v9, rfl, g9⟩; have h9 := HG8.out.trans g9; clear g9)
                | (go_at_call 57; have t1 := Put_calls v9 _ (zig c.n) w9 h9.row ba (zig_lt _ hfit.n); (with_reducible refine t1.mono ?_); clear t1; rintro e w10 ⟨v10, rfl, g9⟩; have h10 := h9.trans g9; clear g9)
                | (go_at_call 58; have t1 := Text_calls v10 _ ⟨c.s.toArray⟩ w10 h10.row bb; (with_reducible refine t1.mono ?_); clear t1; rintro e w11 ⟨v11, rfl, g9⟩; have h11 := h10.trans g9; clear g9)
                | (refine step_append_run rfl (.tmp 50) (.tmp 51) 24 rfl _ _ _ _ rfl rfl hap ?_))
            all_goals have HG9 := Lib.hid (HG3.out.trans h11.drewIn)
            all_goals clear T2 HG8 hap f1 HB2 HB3 h9 h10 h11
            all_goals go_wp2_with fail
            all_goals go_round
            all_goals try (case' rel => exact ⟨k + 1, by go_num, by omega, grown_step HN.out HH.out.below HG9.out (by rw [← hL3, ← hL2, ← hLe, ← hkn]; exact cells_live l k hlt c hcc hdead)⟩)
            all_goals try (simp [intOf]; omega)
          · rw [hdead] at f1
            obtain ⟨v8, w8, hap, hg8⟩ := run_append_few w7.drew (.slice qa qn qc) L3 [1] [.int .u8 1] rfl ROW7.out (by simp; omega) (by simp)
            clear f3 f4 f5
            have HG8 := Lib.hid hg8
            have T2 := Lib.hid (Put_calls v8 _ (zig c.loc) w8 hg8.row (by simp; omega) (zig_lt _ hfit.loc))
            obtain ⟨ra, rn, rc, rfl⟩ := Disk.row_slice hg8.row
            clear hg8
            go_wp2_with fail
            go_cut [3] (fun o wx => Hid (Grew w7 (.slice qa qn qc) (L3 ++ [1] ++ put (zig c.loc)) wx o))
            case first =>
              go_region_held3 (fun w' => w'.cell? ⟨b, 2, none⟩ = some (.int .i64 c.loc))
                (first
                  | exact f2
                  | exact Disk.cell_old f2 (Below.heap_alloc w7 _ _ b7)
                  | exact Disk.cell_old f2 (B4L.out w7.drew _ _ _ rfl HG8.out)
                  | exact Disk.cell_old f2 (B4L.out w7.drew _ _ _ rfl h9))
                (first
                  | (go_at_call 59; have t1 := fun W => Zig_calls c.loc W hfit.loc.1 hfit.loc.2; (with_reducible refine (t1 _).mono ?_); clear t1; rintro e wz ⟨rfl, rfl⟩)
                  | (go_at_call 57; (with_reducible refine T2.out.mono ?_); rintro e w9 ⟨v9, rfl, g9⟩; have h9 := HG8.out.trans g9; clear g9)
                  | (refine step_append_run rfl (.tmp 43) (.tmp 44) 24 rfl _ _ _ _ rfl rfl hap ?_))
              all_goals go_wp2_with fail
              all_goals go_meet
              all_goals exact h9.drewIn
            case rest =>
              have HG9 := Lib.hid (HG3.out.trans hcut.out)
              clear hcut T2 HG8 hap f1 f2 HB2 HB3
              go_wp2_with fail
              go_round
              case rel => exact ⟨k + 1, by go_num, by omega, grown_step HN.out HH.out.below HG9.out (by rw [← hL3, ← hL2, ← hLe]; exact cells_dead l k hlt c hcc hdead)⟩
              case measure => simp [intOf]; omega
    · have hke : k = l.length := by omega
      subst hke
      clear K1 HG1
      go_wp2_with fail
      go_ret
      have := HN.out
      rw [List.take_length] at this
      exact ⟨_, rfl, this⟩
end Codec
end Go.Proofs.YtlcenkkfcejnbaaGreatDoor
