/- What a crash makes of a disk. -/
import Derived.Test.YtlcenkkfcejnbaaGreatDoorDiskCut
import Derived.Deep.DeepCutAuto
import Derived.Deep.LoopGhost
namespace Go.Proofs.YtlcenkkfcejnbaaGreatDoor
open Go.RowKit
namespace Disk

theorem setArr_same (L : Lay) (id : Nat) : L.setArr id (L.arr id) = L := by
  unfold Lay.setArr
  have : (fun i => if i = id then L.arr id else L.arr i) = L.arr := by
    funext i; split
    · rename_i e; rw [e]
    · rfl
  rw [this]

theorem wrotes_line (σ : DS) (k : Nat) : (σ.wrotes k).line = σ.line := rfl

theorem foot_set {L : Lay} {d : Nat} {σ : DS} {id : Nat} {g : File → File} (hg : ∀ x, (g x).id = x.id) (k : Nat) (h : L.foot d (σ.set id g).files k) : L.foot d σ.files k := by
  rcases h with h1 | h1 | h1 | ⟨x, hx, h1⟩
  · exact .inl h1
  · exact .inr (.inl h1)
  · exact .inr (.inr (.inl h1))
  · obtain ⟨y, hy, rfl⟩ := mem_upd hx
    refine .inr (.inr (.inr ⟨y, hy, ?_⟩))
    split at h1
    · rw [hg] at h1; exact h1
    · exact h1

theorem line_value {w : World} {d : Nat} {σ : DS} {L : Lay} (h : DiskAt w d σ L) : ∃ a c, L.line = .slice a σ.line.length c ∧ σ.line.length ≤ c ∧ (∀ k, k < σ.line.length → ∃ g, a = some ⟨g, 0, none⟩) ∧ c ≤ maxLen := by
  rcases h.line.2 with ⟨h1, h2⟩ | ⟨g, cap, cur, h1, h2, h3, h4, h5, _⟩
  · exact ⟨none, 0, by rw [h1, h2], by omega, fun k hk => by omega, by unfold maxLen; omega⟩
  · exact ⟨_, _, h1, h4, fun _ _ => ⟨g, rfl⟩, h5⟩

theorem line_cells {w : World} {d : Nat} {σ : DS} {L : Lay} (h : DiskAt w d σ L) {g n c : Nat} (he : L.line = .slice (some ⟨g, 0, none⟩) n c) {k : Nat} (hk : k < σ.line.length) :
    w.cell? ⟨g, k * 2, none⟩ = some (ptr (L.blk σ.line[k].1)) ∧ w.cell? ⟨g, k * 2 + 1, none⟩ = some (.int .i64 σ.line[k].2) := by
  rcases h.lineAt.open_ with ⟨h1, h2⟩ | ⟨g', cap, cur, h1, h2, h3, h4, h5, h6⟩
  · rw [he] at h1; cases h1
  · rw [he] at h1
    simp only [Value.slice.injEq, Option.some.injEq, Addr.mk.injEq] at h1
    obtain ⟨⟨rfl, _⟩, _⟩ := h1
    have := Marks.of_row h2 h6 k (by simpa [Lay.blocks] using hk)
    rw [Nat.mul_comm]
    simpa [Lay.blocks] using this

theorem Step.drew {w w1 : World} {d : Nat} {σ σ1 : DS} {L L1 : Lay} (h : Step w d σ L σ1 L1 w1) : Step w d σ L σ1 L1 w1.drew :=
  ⟨h.at_.below ((Below.refl _ _).drew), h.m, h.foot, h.chg.drew⟩

theorem Step.alloc {w w1 : World} {d : Nat} {σ σ1 : DS} {L L1 : Lay} (h : Step w d σ L σ1 L1 w1) (o : Obj) : Step w d σ L σ1 L1 (w1.alloc o) :=
  ⟨h.at_.below ((Below.refl _ _).alloc (Nat.le_refl _) _), h.m, h.foot, h.chg.alloc _⟩

theorem wroteStep {w wr W : World} {d : Nat} {σ : DS} {L : Lay} {k : Nat} (hs : Step w d σ L (σ.wrotes k) L wr) (hk : k < σ.line.length) {f : File} (hf : f ∈ (σ.wrotes k).files) (hid : f.id = σ.line[k].1)
    (hb : Below wr.heap.size wr W) (X : Int) (hX : X = ((wroteG σ.line[k].2 f).written : Nat)) :
    Step w d σ L (σ.wrotes (k + 1)) L (W.setCell ⟨L.blk σ.line[k].1, 1, none⟩ (.int .i64 X)) := by
  have hA := hs.at_.below hb
  have hset := set_block (hA.pages f hf).self 1 (.int .i64 X)
  have hwf : ((σ.wrotes k).set f.id (wroteG σ.line[k].2)).Wf := by
    refine hA.wf.set f.id _ (fun x => ⟨rfl, rfl⟩) (fun g _ _ => by simp [wroteG]; omega) ?_ (fun g _ _ => Nat.le_refl _)
    have := hA.wf.free
    unfold DS.free at *
    show 0 ≤ (σ.wrotes k).room - (used (upd f.id (wroteG σ.line[k].2) (σ.wrotes k).files) : Int)
    rw [used_set f.id (wroteG σ.line[k].2) (fun x => rfl)]
    exact this
  have hD : DiskAt (W.setCell ⟨L.blk f.id, 1, none⟩ (.int .i64 X)) d ((σ.wrotes k).set f.id (wroteG σ.line[k].2)) (L.setArr f.id (L.arr f.id)) := by
    refine hA.setPage hf (wroteG σ.line[k].2) (fun x => ⟨rfl, rfl⟩) (L.arr f.id) hwf ?_ ?_ ?_ ?_
    · rw [hset, hX]; rfl
    · refine ownsRow_keep (hA.pages f hf).arr fun i hi => ?_
      rw [Below.heap_setCell _ _ _ _ (fun e => ?_)]
      obtain ⟨cur, hc⟩ := hA.arr_block hf hi
      have e' : i = L.blk f.id := e
      rw [e', (hA.pages f hf).self] at hc; simp at hc
    · intro i _ hi _
      rw [Below.heap_setCell _ _ _ _ hi]
    · intro i hi; exact .inl hi
  rw [setArr_same] at hD
  rw [wrotes_succ σ k hk, ← hid]
  refine hs.trans ⟨hD, rfl, fun i _ hi => foot_set (g := wroteG σ.line[k].2) (fun x => rfl) i hi, ?_⟩
  exact (Chg.of_below hb).setCell (fun _ => .inr (.inr (.inr ⟨f, hf, .inl rfl⟩))) _

theorem run_range_map (w : World) (m : Nat) (es : Array MapEntry) (clock : Nat) (hm : w.heap[m]? = some (.map es clock)) :
    (Instr.range 98 (.map (some m))).run Tryz.prog w = .ok (.pointer (some ⟨w.heap.size, 0, none⟩)) (w.alloc (.mapIter (some m) clock #[] clock)) := by
  simp only [Instr.range, Sem.run_bind, run_underlying und_map, Result.andThen_ok, MapKept.run_getObj_map hm, Sem.run_pure]
  rfl

/-- Between the rounds of the second loop: the files of rem are still to be cut. -/
structure Cutting (w0 wx : World) (L : Lay) (fs : List File) (es : Array MapEntry) (clock : Nat) (B : File → Nat) (rem : List File) (seen : Array Nat) : Prop where
  iter : wx.heap[w0.heap.size]? = some (.mapIter (some L.m) clock seen clock)
  map : wx.heap[L.m]? = some (.map es clock)
  chg : Chg (fun k => ∃ f ∈ fs, k = L.blk f.id) w0 wx
  nodup : rem.Nodup
  mem : ∀ f, f ∈ rem ↔ f ∈ fs ∧ seen.contains (B f) = false
  pages : ∀ f ∈ fs, wx.heap[L.blk f.id]? = some (.cells #[if seen.contains (B f) then cutV (L.arr f.id) f.written else L.arr f.id, .int .i64 f.written] 107 (0, 0))

theorem DiskAt.page_ne {w : World} {d : Nat} {σ : DS} {L : Lay} (h : DiskAt w d σ L) {f : File} (hf : f ∈ σ.files) : L.blk f.id ≠ d := fun e => by
  have := (h.pages f hf).self
  rw [e, h.self] at this; simp at this

theorem Cutting.self {w0 wx : World} {d : Nat} {σ : DS} {L : Lay} {es : Array MapEntry} {clock : Nat} {B : File → Nat} {rem : List File} {seen : Array Nat} (h : Cutting w0 wx L σ.files es clock B rem seen) (hA : DiskAt w0 d σ L) :
    wx.heap[d]? = w0.heap[d]? := h.chg.block d (hA.lt d (.inl rfl)) fun ⟨_, hf, e⟩ => hA.page_ne hf e.symm

theorem Cutting.start {w0 : World} {d : Nat} {σ : DS} {L : Lay} {es : Array MapEntry} {clock : Nat} {B : File → Nat} (hA : DiskAt w0 d σ L) (hm : w0.heap[L.m]? = some (.map es clock)) (_hv : View L σ.files es clock B) :
    Cutting w0 (w0.alloc (.mapIter (some L.m) clock #[] clock)) L σ.files es clock B σ.files #[] := by
  refine ⟨by show (w0.heap.push _)[w0.heap.size]? = _; simp, ?_, (Chg.refl _ _).alloc _, nodup_files hA.wf.ids, fun f => by simp, fun f hf => ?_⟩
  · rw [Below.heap_alloc _ _ _ (hA.lt L.m (.inr (.inl rfl)))]; exact hm
  · rw [Below.heap_alloc _ _ _ (hA.page hf).lt, (hA.pages f hf).self]; simp

theorem Cutting.finish {w w0 wx : World} {d : Nat} {σ σ1 : DS} {L : Lay} {es : Array MapEntry} {clock : Nat} {B : File → Nat} {rem : List File} {seen : Array Nat} (h : Cutting w0 wx L σ1.files es clock B rem seen)
    (hs : Step w d σ L σ1 L w0) (hc : DiskAt ((wx.setCell ⟨d, 2, none⟩ (.slice none 0 0)).setCell ⟨d, 3, none⟩ (.bool true)) d σ1.cut (L.cut σ1.files)) :
    Step w d σ L σ1.cut (L.cut σ1.files) ((wx.setCell ⟨d, 2, none⟩ (.slice none 0 0)).setCell ⟨d, 3, none⟩ (.bool true)) := by
  refine hs.trans ⟨hc, rfl, ?_, ?_⟩
  · rintro k hk (h1 | h1 | h1 | ⟨f, hf, h1⟩)
    · exact .inl h1
    · exact .inr (.inl h1)
    · simp [Lay.cut, Value.ownBlock] at h1
    · obtain ⟨g, hg, rfl⟩ := List.mem_map.1 hf
      refine .inr (.inr (.inr ⟨g, hg, ?_⟩))
      simpa [Lay.cut, cutV_own, cutFile] using h1
  · exact ((h.chg.mono fun k _ ⟨f, hf, e⟩ => (show L.foot d σ1.files k from .inr (.inr (.inr ⟨f, hf, .inl e⟩)))).setCell (fun _ => .inl rfl) _).setCell (fun _ => .inl rfl) _

theorem Cutting.drew {w0 wx : World} {L : Lay} {fs : List File} {es : Array MapEntry} {clock : Nat} {B : File → Nat} {rem : List File} {seen : Array Nat} (h : Cutting w0 wx L fs es clock B rem seen) : Cutting w0 wx.drew L fs es clock B rem seen :=
  ⟨h.iter, h.map, h.chg.drew, h.nodup, h.mem, h.pages⟩

theorem Cutting.cutOne {w0 wr w2 : World} {d : Nat} {σ : DS} {L : Lay} {es : Array MapEntry} {clock : Nat} {B : File → Nat} {rem : List File} {seen : Array Nat} (h : Cutting w0 wr L σ.files es clock B rem seen) (hA : DiskAt w0 d σ L) (hv : View L σ.files es clock B)
    {f : File} (hf : f ∈ σ.files) (hns : seen.contains (B f) = false) (hch : Chg (· = w0.heap.size) wr w2) (hit : w2.heap[w0.heap.size]? = some (.mapIter (some L.m) clock (seen.push (B f)) clock)) :
    Cutting w0 (w2.setCell ⟨L.blk f.id, 0, none⟩ (cutV (L.arr f.id) f.written)) L σ.files es clock B (rem.erase f) (seen.push (B f)) := by
  have hpl : ∀ g ∈ σ.files, L.blk g.id < w0.heap.size := fun g hg => (hA.page hg).lt
  have hml := hA.lt L.m (.inr (.inl rfl))
  have old : ∀ k, k < w0.heap.size → w2.heap[k]? = wr.heap[k]? := fun k hk => hch.block k (Nat.lt_of_lt_of_le hk h.chg.size) (by omega)
  have hpf := (old _ (hpl f hf)).trans (h.pages f hf)
  rw [hns, if_neg (by simp)] at hpf
  have hcon : ∀ g ∈ σ.files, (seen.push (B f)).contains (B g) = (seen.contains (B g) || (B g == B f)) := fun g _ => by rw [Array.contains_push]
  refine ⟨?_, ?_, ?_, h.nodup.erase _, fun g => ?_, fun g hg => ?_⟩
  · have := hpl f hf
    rw [Below.heap_setCell _ _ _ _ (show w0.heap.size ≠ L.blk f.id by omega)]; exact hit
  · rw [Below.heap_setCell _ _ _ _ (show L.m ≠ L.blk f.id from (hA.m_ne.2.2 f hf).1.symm), old _ hml]; exact h.map
  · exact (h.chg.then (hch.mono (G := fun k => ∃ f ∈ σ.files, k = L.blk f.id ∨ k = w0.heap.size) fun k _ e => ⟨f, hf, .inr e⟩) (fun i hi ⟨g, hg, e⟩ => ⟨g, hg, by omega⟩)).setCell (fun _ => ⟨f, hf, rfl⟩) _
  · rw [h.nodup.mem_erase_iff, h.mem g]
    constructor
    · rintro ⟨h1, h2, h3⟩
      refine ⟨h2, ?_⟩
      rw [hcon g h2, h3, Bool.false_or, beq_eq_false_iff_ne]
      exact fun e => h1 (hv.inj g h2 f hf e)
    · rintro ⟨h1, h2⟩
      rw [hcon g h1, Bool.or_eq_false_iff, beq_eq_false_iff_ne] at h2
      exact ⟨fun e => h2.2 (by rw [e]), h1, h2.1⟩
  · rw [hcon g hg]
    by_cases e : g = f
    · subst e
      have hs := set_block hpf 0 (cutV (L.arr g.id) g.written)
      rw [hs]
      simp
    · have hb : L.blk g.id ≠ L.blk f.id := fun e' => e (hA.blks g hg f hf e')
      have hB : (B g == B f) = false := by rw [beq_eq_false_iff_ne]; exact fun e' => e (hv.inj g hg f hf e')
      rw [Below.heap_setCell _ _ _ _ hb, old _ (hpl g hg), h.pages g hg, hB, Bool.or_false]

set_option maxRecDepth 100000 in
set_option maxHeartbeats 1000000 in
theorem Crash_calls (d : Nat) (σ : DS) (L : Lay) (keep : Int) (w : World) (h : DiskAt w d σ L) :
    Calls Tryz.prog 25 #[ptr d, .int .i64 keep] w fun e w' => e = .returned (.tuple #[]) ∧ Reached w d σ L (σ.crash keep) w' := by
  cases hdk : σ.dark
  · have HK : Hid (σ.crash keep = (σ.wrotes (min (max keep 0).toNat σ.line.length)).cut) := crash_eq σ keep hdk
    have HD := Lib.hid hdk
    have key := Lib.hid (On_calls d σ L w h)
    obtain ⟨a, c, hln, hlc, hla, hcm⟩ := line_value h
    have hlen := h.wf.line_len
    have HL := Lib.hid hln
    clear hdk hln
    unfold ptr at *
    go_enter Tryz.func25, Tryz.ntmps25
    go_wp2_with fail
    refine key.out.mono ?_
    rintro e w1 ⟨rfl, hb1⟩
    rw [HD.out]
    have h1 := h.below hb1
    have hc2 := h1.cell 2
    simp only [List.getElem?_toArray, List.getElem?_cons_succ, List.getElem?_cons_zero] at hc2
    rw [HL.out] at hc2
    generalize hK : min (max keep 0).toNat σ.line.length = K at HK
    have hmx : min (max keep 0) (σ.line.length : Int) = (K : Int) := by omega
    have hKl : K ≤ σ.line.length := by omega
    have HX := Lib.hid hK
    clear hK
    go_upto_region 1 with fail
    go_cut [23, 24, 25] (fun s n i wx => s = .slice a K c ∧ n = .int .i64 K ∧ i = .int .i64 0 ∧ Below w.heap.size w wx)
    case first =>
      go_quiet (fail)
      all_goals (go_wp2_with fail)
      all_goals
        go_meet
        have hx := HX.out
        refine ⟨congrArg (fun n => Value.slice a n c) ?_, congrArg (Value.int .i64) ?_, rfl, bdrewN _ hb1⟩ <;> omega
    case rest =>
      obtain ⟨rfl, rfl, rfl, hbc⟩ := hcut
      clear hc2 hmx
      go_wp2_with fail
      go_loopw [5, 25] (fun _ i wr => ∃ k : Nat, k ≤ K ∧ i = .int .i64 k ∧ Hid (Step w d σ L (σ.wrotes k) L wr)) (fun _ i _ => K - (intOf i).toNat)
      case atStart => exact ⟨0, Nat.zero_le _, rfl, by show Step _ _ _ _ _ _ _; rw [wrotes_zero]; exact Step.below h hbc⟩
      case round =>
        obtain ⟨k, hk, rfl, hst⟩ := hrel
        by_cases hlt : k < K
        · have hkl : k < σ.line.length := by omega
          obtain ⟨g, rfl⟩ := hla k hkl
          have hA := hst.out.at_
          have hAx := Lib.hid hA
          obtain ⟨m1, m2⟩ := line_cells hA HL.out hkl
          obtain ⟨f, hf, hid, hsec⟩ := hA.wf.dirty _ (List.getElem_mem hkl)
          obtain ⟨pa, pc, hl1, hl2, hl3, hpg⟩ := hA.page_cells hf
          simp only [wrotes_line] at m1 m2 hid hsec
          have hpl := hA.lt (L.blk f.id) (.inr (.inr (.inr ⟨f, hf, .inl rfl⟩)))
          have hsz := hA.wf.used_le
          have hsf : sectors f.all.length ≤ used (σ.wrotes k).files := by
            have := used_erase hf; omega
          have hnb : σ.line[k].2 ≤ 1073741824 := by omega
          have hgl : g < wr.heap.size := by
            refine hA.lt g (.inr (.inr (.inl ?_)))
            rw [HL.out]; rfl
          rw [hid] at hpg hpl
          have p0 := cell_of hpg 0
          have p1 := cell_of hpg 1
          have p2 := free_of hpg 1
          simp only [List.getElem?_toArray, List.getElem?_cons_succ, List.getElem?_cons_zero] at p0 p1
          have HP := Lib.hid hpg
          have HI := Lib.hid hid
          have HF := Lib.hid hf
          have HL1 := Lib.hid hl1
          have HS := hst.out
          have HS' := Lib.hid HS
          clear hpg hid hsec hsf hsz hA hf hl1 hst HS
          unfold ptr at m1
          go_wp2_with fail
          go_region
          all_goals
            go_wp2_with fail
            go_roundw
          case rel => exact ⟨k + 1, by omega, by go_num, ((wroteStep HS'.out hkl HF.out HI.out (Below.refl _ _) _ (by simp only [wroteG]; split <;> omega)).alloc _).drew⟩
          case measure => simp [intOf]; omega
        · obtain rfl : K = k := by omega
          obtain ⟨wo, rfl⟩ : ∃ wo : World, wo = wr := ⟨_, rfl⟩
          have HS := hst.out
          have hA := HS.at_
          obtain ⟨es, clock, B, hm, hv⟩ := hA.view
          have hrg := run_range_map wo L.m es clock hm
          have hd1 := hA.cell 1
          simp only [List.getElem?_toArray, List.getElem?_cons_succ, List.getElem?_cons_zero] at hd1
          have hdl := hA.lt d (.inl rfl)
          have hml := hA.lt L.m (.inr (.inl rfl))
          have hAx := Lib.hid hA
          have HSx := Lib.hid HS
          clear hst HS hA hlt
          go_wp2_with fail
          go_loopg [7] (σ.wrotes K).files.length (fun gk _ wx => ∃ (rem : List File) (seen : Array Nat), gk = rem.length ∧ Cutting wo wx L (σ.wrotes K).files es clock B rem seen)
          case atStart =>
            exact ⟨(σ.wrotes K).files, #[], rfl, Cutting.start hAx.out hm hv⟩
          case round =>
            obtain ⟨rem, seen, hgk, hcut⟩ := hrel
            have hsx : wr.heap[d]? = wo.heap[d]? := hcut.self hAx.out
            rw [hAx.out.self] at hsx
            rcases hv.next hcut.iter hcut.map with ⟨hall, hnx⟩ | ⟨f, hf, hns, w2, key2, hnx, hch, hit1, hen⟩
            · have x2 := cell_of hsx 2
              have x3 := cell_of hsx 3
              have y2 := free_of hsx 2
              have y3 := free_of hsx 3
              simp only [List.getElem?_toArray, List.getElem?_cons_succ, List.getElem?_cons_zero] at x2 x3
              have HG := Lib.hid hgk
              have HA := Lib.hid hall
              have HX2 := Lib.hid hsx
              clear hgk hall hsx
              go_wp2_with fail
              go_end0
              have hset := set_block (set_block HX2.out 2 (.slice none 0 0)) 3 (.bool true)
              have hfin := hAx.out.cut (w' := (wr.setCell ⟨d, 2, none⟩ (.slice none 0 0)).setCell ⟨d, 3, none⟩ (.bool true)) hset (fun f hf => ?_) (fun k hk hkd hkp => ?_)
              · refine ⟨rfl, L.cut (σ.wrotes K).files, ?_⟩
                rw [HK.out]
                exact hcut.finish HSx.out hfin
              · rw [Below.heap_setCell _ _ _ _ (hAx.out.page_ne hf), Below.heap_setCell _ _ _ _ (hAx.out.page_ne hf), hcut.pages f hf, if_pos (HA.out f hf)]
              · rw [Below.heap_setCell _ _ _ _ hkd, Below.heap_setCell _ _ _ _ hkd]
                exact hcut.chg.block k (hAx.out.lt k hk) fun ⟨f, hf, e⟩ => hkp f hf e
            · have HG := Lib.hid hgk
              have hfr : f ∈ rem := (hcut.mem f).2 ⟨hf, hns⟩
              have hiL : wo.heap.size ≠ L.m := by have := hAx.out.lt L.m (.inr (.inl rfl)); omega
              have hpl : L.blk f.id < wo.heap.size := (hAx.out.page hf).lt
              have hen1 := hen w2 rfl (hch.block _ (Nat.lt_of_lt_of_le (hAx.out.lt L.m (.inr (.inl rfl))) hcut.chg.size) (Ne.symm hiL))
              have hpg := hcut.pages f hf
              rw [hns, if_neg (by simp)] at hpg
              have hpg2 : w2.heap[L.blk f.id]? = _ := (hch.block _ (Nat.lt_of_lt_of_le hpl hcut.chg.size) (by omega)).trans hpg
              obtain ⟨pa, pc, hl1, hl2, hl3, _⟩ := hAx.out.page_cells hf
              have hwr := hAx.out.wf.written f hf
              rw [hl1] at hpg2
              have x0 := cell_of hpg2 0
              have x1 := cell_of hpg2 1
              have y0 := free_of hpg2 0
              simp only [List.getElem?_toArray, List.getElem?_cons_succ, List.getElem?_cons_zero] at x0 x1
              have HP := Lib.hid hpg2
              have HH := Lib.hid hch
              have HF := Lib.hid hfr
              have HL1 := Lib.hid hl1
              have HS1 := Lib.hid hsx
              have hwpc : f.written ≤ pc := by omega
              clear hgk hpg hpg2 hch hfr hl1 hsx
              have HIT := Lib.hid hit1
              clear hit1
              unfold Lay.page ptr at hnx hen1
              go_wp2_with fail
              go_region
              go_wp2_with fail
              go_roundg (rem.erase f).length
              case measure =>
                have h1 := List.length_erase_of_mem HF.out
                have h2 := List.length_pos_of_mem HF.out
                rw [HG.out]; omega
              case rel =>
                refine ⟨rem.erase f, seen.push (B f), rfl, ?_⟩
                have hc := hcut.cutOne hAx.out hv hf hns HH.out HIT.out
                rw [HL1.out] at hc
                exact hc.drew
  · have HD := Lib.hid hdk
    have HK : Hid (σ.crash keep = σ) := by show _ = _; unfold DS.crash; rw [hdk]; rfl
    have key := Lib.hid (On_calls d σ L w h)
    clear hdk
    unfold ptr at *
    go_enter Tryz.func25, Tryz.ntmps25
    go_wp2_with fail
    refine key.out.mono ?_
    rintro e w1 ⟨rfl, hb1⟩
    rw [HD.out]
    go_wp2
    refine bodyPost_ret (results_none (by kernel_rfl) _ _ _) rfl ⟨rfl, L, ?_⟩
    rw [HK.out]; exact Step.below h hb1
end Disk
end Go.Proofs.YtlcenkkfcejnbaaGreatDoor
