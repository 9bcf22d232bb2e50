/- The disk's call List: the names, rising. -/
import Derived.Test.YtlcenkkfcejnbaaGreatDoorDiskRead
import Derived.Test.YtlcenkkfcejnbaaGreatDoorIter
import Derived.Sort.KeysCollected
namespace Go.Proofs.YtlcenkkfcejnbaaGreatDoor
open Go.RowKit
open Go.WideElems (Fit rd rg)
open Go.WideShapes (sorted_perm)
namespace Disk

def rdAny (_ : Value) : Option (DataW Unit × List MemPlace) := some (.lit (.bool true), [])

theorem keyOf_str (s : ByteArray) (h : s.size ≤ maxLen) : keyOf Tryz.prog 9 (.string s) = some (.string s.data.toList) := by
  simp [keyOf, mapKey, h]

def DS.list (σ : DS) : List Bytes := (σ.files.map (·.name)).mergeSort fun x y => decide (x ≤ y)

theorem good_len {s : Bytes} (h : good s = true) : s.length ≤ 40 := by
  unfold good at h
  simp only [Bool.and_eq_true, decide_eq_true_eq] at h
  exact h.1.2
theorem str_size (l : Bytes) : (str l).size = l.length := by simp [str, ByteArray.size]

theorem names_map {w : World} {d : Nat} {σ : DS} {L : Lay} (h : DiskAt w d σ L) : ∃ D : DataW Unit, w.ownsMap Tryz.prog 9 rdAny L.m σ.files.length D ∧ (strKeys D).Perm (σ.files.map (·.name)) ∧ Maps.size D = σ.files.length := by
  obtain ⟨es, clock, h1, h2, h3, h4⟩ := h.map
  have hkeys : es.toList.map (·.key) = σ.files.map fun f => .string (str f.name) := by
    have := congrArg (List.map Prod.fst) h2
    simpa [List.map_map, Function.comp_def, pair] using this
  have hlen : es.toList.length = σ.files.length := by simpa using congrArg List.length hkeys
  have hkey : ∀ e ∈ es.toList, ∃ f ∈ σ.files, e.key = .string (str f.name) := fun e he => by
    have : e.key ∈ es.toList.map (·.key) := List.mem_map.2 ⟨e, he, rfl⟩
    rw [hkeys] at this
    obtain ⟨f, hf, e⟩ := List.mem_map.1 this
    exact ⟨f, hf, e.symm⟩
  have hsz : ∀ f ∈ σ.files, (str f.name).size ≤ maxLen := fun f hf => by
    rw [str_size]; have := good_len (h.wf.good f hf); unfold maxLen; omega
  have hrd : ∀ e ∈ es.toList, ∃ f ∈ σ.files, e.key = .string (str f.name) ∧ rd Tryz.prog 9 rdAny e = some (.string f.name, .lit (.bool true)) := fun e he => by
    obtain ⟨f, hf, hk⟩ := hkey e he
    refine ⟨f, hf, hk, ?_⟩
    simp only [rd, hk, keyOf_str _ (hsz f hf), rdAny, Option.bind_some, Option.map_some, str_list]
  have hnames : es.toList.map (fun e => strOf (rg Tryz.prog 9 rdAny e).1) = σ.files.map (·.name) := by
    have h5 : ∀ e ∈ es.toList, strOf (rg Tryz.prog 9 rdAny e).1 = (match e.key with | .string s => s.data.toList | _ => []) := fun e he => by
      obtain ⟨f, hf, hk, hr⟩ := hrd e he
      simp only [rg, hr, Option.getD_some, hk, str_list, strOf]
    rw [List.map_congr_left h5]
    have h6 : es.toList.map (fun e => (match e.key with | .string s => s.data.toList | _ => [] : Bytes)) = (es.toList.map (·.key)).map fun v => (match v with | .string s => s.data.toList | _ => [] : Bytes) := by simp [List.map_map, Function.comp_def]
    rw [h6, hkeys, List.map_map]
    apply List.map_congr_left
    intro f _
    simp [str_list]
  refine ⟨.map ((es.toList.map (rg Tryz.prog 9 rdAny)).foldr DataW.insert []), ⟨es, clock, h1, ⟨?_, ⟨h4, h3, ?_⟩, fun e he => ?_⟩, ?_, rfl⟩, ?_, ?_⟩
  · have := h.wf.most
    have : es.size = es.toList.length := by simp
    unfold maxLen; omega
  · rw [hkeys]
    have := h.wf.names
    have h7 : σ.files.map (fun f => Value.string (str f.name)) = (σ.files.map (·.name)).map fun s => Value.string (str s) := by simp [List.map_map, Function.comp_def]
    rw [h7]
    refine List.pairwise_map.2 (this.imp fun {a b} hne hab => hne ?_)
    simp only [Value.string.injEq] at hab
    rw [← str_list a, hab, str_list]
  · obtain ⟨f, _, _, hr⟩ := hrd e he; exact ⟨_, hr⟩
  · have : es.size = es.toList.length := by simp
    omega
  · have h8 : (es.toList.map (rg Tryz.prog 9 rdAny)).map (fun p => strOf p.1) = es.toList.map fun e => strOf (rg Tryz.prog 9 rdAny e).1 := by rw [List.map_map, Function.comp_def]
    have h9 : strKeys (.map ((es.toList.map (rg Tryz.prog 9 rdAny)).foldr DataW.insert [])) = ((es.toList.map (rg Tryz.prog 9 rdAny)).foldr DataW.insert []).map fun p => strOf p.1 := by rw [strKeys]
    rw [h9, ← hnames, ← h8]
    exact (sorted_perm _).map _
  · show List.length _ = _
    rw [length_sorted]; simp; omega

def Listed (w : World) (l : List Bytes) (e : Ending) (w' : World) : Prop := ∃ v, e = .returned v ∧ w'.ownsRow 0 9 1 v l.length (l.map fun s => .string (str s)) ∧ Below w.heap.size w w' ∧ ∀ k, v.ownBlock = some k → w.heap.size ≤ k

set_option maxRecDepth 100000 in
set_option maxHeartbeats 400000 in
theorem List_calls (d : Nat) (σ : DS) (F : Nat → Prop) (w : World) (h : Owns w d σ F) (hd : σ.dark = false) :
    Calls Tryz.prog 29 #[ptr d] w (Listed w σ.list) := by
  have hon := Lib.hid (OnO_calls d σ F w h)
  obtain ⟨⟨L, hA, hL⟩, hlt⟩ := h
  have HD := Lib.hid hd
  have hK := fun W => callsIn_wide.1 (Tryz.maps_Keys_54 (some L.m) W)
  have HK := Lib.hid hK
  clear hd hK
  unfold ptr at *
  go_enter Tryz.func29, Tryz.ntmps29
  go_wp2_with fail
  refine hon.out.mono ?_
  rintro e w1 ⟨rfl, hb1⟩
  rw [HD.out]
  have hA1 := hA.below hb1
  have d1 := hA1.cell 1
  simp only [List.getElem?_toArray, List.getElem?_cons_succ, List.getElem?_cons_zero] at d1
  obtain ⟨D, hown, hperm, hsz⟩ := names_map hA1
  have hmost := hA1.wf.most
  have hS := callsIn_wide.1 (Tryz.slices_Sorted_keys_53_54 L.m σ.files.length D rdAny w1 hown (by rw [hsz]; unfold maxLen; omega) (by rw [hsz]; omega))
  have HS := Lib.hid hS
  have HP := Lib.hid hperm
  clear hS hown hperm hsz
  go_wp2_with fail
  refine (HK.out _).mono ?_
  rintro e w2 ⟨rfl, rfl⟩
  go_wp2_with fail
  refine HS.out.mono ?_
  rintro e w3 ⟨v, ss, rfl, hp, hrow, hnil, hb3⟩
  obtain ⟨va, vn, vc, rfl⟩ := row_slice hrow
  have hl : ss.mergeSort (fun x y => decide (x ≤ y)) = σ.list := mergeSort_of_perm (hp.trans HP.out)
  have hlen : ss.length = σ.list.length := by rw [← hl, List.length_mergeSort]
  rw [hl, hlen] at hrow
  have HR := Lib.hid hrow
  clear hrow hl hlen hnil
  go_wp2_with fail
  go_ret
  refine ⟨_, rfl, ⟨HR.out.1, ?_⟩, hb1.trans (((Below.refl _ w1).alloc (Nat.le_refl _) _).mono hb1.size |>.trans (hb3.mono (by have := hb1.size; simp; omega))), fun k hk => ?_⟩
  · rcases HR.out.2 with h1 | ⟨g, cap, cur, h1, h2, h3⟩
    · exact .inl h1
    · exact .inr ⟨g, cap, cur, h1, Nat.zero_le _, h3⟩
  · have := (HR.out.lt k hk).1
    have h5 := hb1.size
    simp at this; omega
end Disk
end Go.Proofs.YtlcenkkfcejnbaaGreatDoor
