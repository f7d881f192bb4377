/-
  Chapter 6's laws: the chapter's scene.
-/
import Derived.Test.YtackbajbladhhaaDoorScP
namespace Go.Proofs.YtackbajbladhhaaDoor
open Go.RowKit Go.Shelf
set_option linter.unusedVariables false
set_option linter.unusedSimpArgs false
attribute [local go_sem] Oper.semAt_some

/-- The chapter's scene, its object's ID and its blocks at hand. -/
abbrev oneAt (w id : Int) (G V T : Nat) : Scn := oneScn w (.slice (some ⟨G, 0, none⟩) 1 1) [oneObj id (.slice (some ⟨V, 0, none⟩) 3 3) (.slice (some ⟨T, 0, none⟩) 1 1)]
def zeros9 : List Value := [.int .i64 0, .int .i64 0, .int .i64 0, .int .i64 0, .int .i64 0, .int .i64 0, .int .i64 0, .int .i64 0, .int .i64 0]
structure OneB (w : World) (id : Int) (G V T : Nat) : Prop where
  obj : ObjB w G (oneObj id (.slice (some ⟨V, 0, none⟩) 3 3) (.slice (some ⟨T, 0, none⟩) 1 1))
  vs : w.heap[V]? = some (.cells zeros9.toArray 45 (0, 0))
  ts : w.heap[T]? = some (.cells (trow (0, 1, 2, 0)).toArray 39 (0, 0))
theorem OneB.later {w w' : World} {id : Int} {G V T : Nat} (h : OneB w id G V T) (hl : Later w w') : OneB w' id G V T := ⟨hl.row h.obj, hl.row h.vs, hl.row h.ts⟩
theorem OneB.sub {w : World} {id : Int} {G V T : Nat} (h : OneB w id G V T) : (oneObj id (.slice (some ⟨V, 0, none⟩) 3 3) (.slice (some ⟨T, 0, none⟩) 1 1)).Ok w := by
  refine ⟨⟨_, _, rfl, ⟨by simp [oneObj], fun h => by cases h⟩, fun k x hx => ⟨V, 0, rfl, ?_⟩⟩, ⟨_, _, rfl, ⟨by simp [oneObj], fun h => by cases h⟩, fun k x hx => ⟨T, 0, rfl, ?_⟩⟩⟩
  · have hr := row_range h.vs
    have h3 : x = [.int .i64 0, .int .i64 0, .int .i64 0] ∧ k < 3 := by
      match k, hx with
      | 0, hx => exact ⟨(Option.some.inj hx).symm, by omega⟩
      | 1, hx => exact ⟨(Option.some.inj hx).symm, by omega⟩
      | 2, hx => exact ⟨(Option.some.inj hx).symm, by omega⟩
    obtain ⟨rfl, hk⟩ := h3
    intro j v hv
    have h4 := hr (k * 3 + j) v (by
      match k, hk, j, hv with
      | 0, _, 0, hv => exact hv
      | 0, _, 1, hv => exact hv
      | 0, _, 2, hv => exact hv
      | 1, _, 0, hv => exact hv
      | 1, _, 1, hv => exact hv
      | 1, _, 2, hv => exact hv
      | 2, _, 0, hv => exact hv
      | 2, _, 1, hv => exact hv
      | 2, _, 2, hv => exact hv)
    rw [← Nat.add_assoc] at h4
    exact h4
  · have hr := row_range h.ts
    match k, hx with
    | 0, hx =>
      obtain rfl := Option.some.inj hx
      rw [Nat.zero_mul]
      exact hr
theorem OneB.ok {w : World} {W id : Int} {G V T : Nat} (h : OneB w id G V T) : (oneAt W id G V T).Ok w := by
  refine ⟨⟨_, _, rfl, ⟨by simp [oneScn], fun h => by cases h⟩, fun k x hx => ⟨G, 0, rfl, ?_⟩⟩, fun x hx => ?_⟩
  · match k, hx with
    | 0, hx =>
      obtain rfl := Option.some.inj hx
      rw [Nat.zero_mul]
      exact row_range h.obj
  · obtain rfl : x = _ := by simpa [oneScn] using hx
    exact h.sub
theorem Later.setCells {a : World} {g : Nat} (hg : a.heap.size ≤ g) : ∀ (vs : List Value) (o : Nat) (b : World), Later a b → Later a (b.setCells g o vs)
  | [], _, _, h => h
  | v :: r, o, b, h => Later.setCells hg r (o + 1) _ (h.setCell (p := ⟨g, o, none⟩) hg v)
theorem heap_setCells_ne {g i : Nat} (h : i ≠ g) : ∀ (vs : List Value) (o : Nat) (w : World), (w.setCells g o vs).heap[i]? = w.heap[i]?
  | [], _, _ => rfl
  | v :: r, o, w => (heap_setCells_ne h r (o + 1) _).trans (Below.heap_setCell _ _ _ _ h)
theorem fin_one {W Z : World} {R G V T : Nat} (hR : W.heap.size ≤ R) (kt : Z.there R 0 19) (hb : OneB Z 7 G V T) (hG : G ≠ R) (hV : V ≠ R) (hT : T ≠ R) (hl : Later W Z) {L : List Value} (hL : (oneAt 4 7 G V T).row = L) :
    Later W (Z.drew.setCells R 0 L) ∧ OneB (Z.drew.setCells R 0 L) 7 G V T ∧ (loadVar 28 ⟨R, 0, none⟩).run Tryd.prog (Z.drew.setCells R 0 L) = .ok (oneAt 4 7 G V T).V (Z.drew.setCells R 0 L) := by
  have kt2 : Z.drew.there R 0 19 := by simpa using kt
  refine ⟨Later.setCells hR _ _ _ hl.drew, ⟨?_, ?_, ?_⟩, ?_⟩
  · exact (heap_setCells_ne hG _ _ _).trans hb.obj
  · exact (heap_setCells_ne hV _ _ _).trans hb.vs
  · exact (heap_setCells_ne hT _ _ _).trans hb.ts
  · subst hL
    exact run_loadVar_mid _ R 0 _ _ _ (World.rangeAt_setCells_same _ _ _ _ (by rw [Scn.row_length]; exact kt2)) Tryd.underlying28 rfl (size_scn _)
theorem isSome_19 (j : Nat) (hj : j < 19) : (#[.int .i64 0, .int .i64 0, .int .i64 0, .int .i64 0, .int .i64 0, .int .i64 0, .int .i64 0, .int .i64 0, .int .i64 0, .int .i64 0, .int .i64 0, .int .i64 0, .int .i64 0, .int .i64 0, .int .i64 0, .int .i64 0, .int .i64 0, .int .i64 0, .slice none 0 0] : Array Value)[j]?.isSome = true := by
  rw [Array.getElem?_eq_getElem hj]; rfl
/-- The chapter's object's cells; its scene's. -/
def objL (cs : List Value) (a b : Addr) : List Value := .int .i64 7 :: (cs ++ [.slice (some a) 3 3, .slice (some b) 1 1])
def scnL (cs : List Value) (a : Addr) : List Value := .int .i64 4 :: .int .i64 3 :: (cs ++ [.slice (some a) 1 1])
theorem build_scene (q : Nat → Int) (a : Addr) (w : World) : (Instr.build 28 #[(0, .int .i64 4), (1, .int .i64 3), (2, .agg (rowV 16 q).toList.toArray), (3, .slice (some a) 1 1)]).run Tryd.prog w = .ok (.agg (scnL (rowV 16 q).toList a).toArray) w := by kernel_rfl
theorem build_obj (q : Nat → Int) (a b : Addr) (w : World) : (Instr.build 43 #[(0, .int .i64 7), (1, .agg (rowV 16 q).toList.toArray), (2, .slice (some a) 3 3), (3, .slice (some b) 1 1)]).run Tryd.prog w = .ok (.agg (objL (rowV 16 q).toList a b).toArray) w := by kernel_rfl
theorem slice_obj (q : Nat → Int) (a b : Addr) (w : World) : (Instr.buildSlice 26 1 #[(0, .agg (objL (rowV 16 q).toList a b).toArray)]).run Tryd.prog w = .ok (.slice (some ⟨w.heap.size, 0, none⟩) 1 1) (w.alloc (.cells (objL (rowV 16 q).toList a b).toArray 43)) := by kernel_rfl
attribute [-go_sem] Instr.build Instr.buildSlice
attribute [-simp] Tryd.sizeOf25 Tryd.typeInfo25
set_option maxRecDepth 100000 in
set_option maxHeartbeats 4000000 in
theorem some_new (W : World) :
    Calls Tryd.prog 12 #[] W fun e w' => ∃ G V T, e = .returned (oneAt 4 7 G V T).V ∧ Later W w' ∧ (W.heap.size ≤ G ∧ W.heap.size ≤ V ∧ W.heap.size ≤ T) ∧ V ≠ G ∧ T ≠ G ∧ OneB w' 7 G V T := by
  have hI := Lib.hid (fun W => identity_any W)
  obtain ⟨q, hq⟩ : ∃ q, Hid (idQ = q) := ⟨_, rfl⟩
  have hI2 : Hid (∀ W : World, Calls Tryd.prog 24 #[] W fun e w' => e = .returned (matV q) ∧ Later W w') := Lib.hid (fun W => by rw [← hq.out]; exact hI.out W)
  have hzs := heap_alloc_new W (.cells #[.int .i64 0, .int .i64 0, .int .i64 0, .int .i64 0, .int .i64 0, .int .i64 0, .int .i64 0, .int .i64 0, .int .i64 0, .int .i64 0, .int .i64 0, .int .i64 0, .int .i64 0, .int .i64 0, .int .i64 0, .int .i64 0, .int .i64 0, .int .i64 0, .slice none 0 0] 28)
  clear hI
  go_enter Tryd.func12, Tryd.ntmps12
  go_wp2_with fail
  refine (hI2.out _).mono ?_
  rintro e w2 ⟨rfl, hl2⟩
  have hnew := heap_alloc_new w2 (.cells #[.int .i64 0, .int .i64 0, .int .i64 0, .int .i64 0, .int .i64 0, .int .i64 0, .int .i64 0, .int .i64 0, .int .i64 0, .int .i64 0, .int .i64 0, .int .i64 0, .int .i64 0, .int .i64 0, .int .i64 0, .int .i64 0] 25)
  have hz2 : (#[.int .i64 0, .int .i64 0, .int .i64 0, .int .i64 0, .int .i64 0, .int .i64 0, .int .i64 0, .int .i64 0, .int .i64 0, .int .i64 0, .int .i64 0, .int .i64 0, .int .i64 0, .int .i64 0, .int .i64 0, .int .i64 0] : Array Value).size = (rowV 16 q).size := by rw [rowV_size]; rfl
  have hR := hl2.row hzs
  go_wp2_with (refine wpList_store_row rfl 25 _ _ rfl w2.heap.size (rowV 16 q) rfl rfl 25 #[.int .i64 0, .int .i64 0, .int .i64 0, .int .i64 0, .int .i64 0, .int .i64 0, .int .i64 0, .int .i64 0, .int .i64 0, .int .i64 0, .int .i64 0, .int .i64 0, .int .i64 0, .int .i64 0, .int .i64 0, .int .i64 0] hnew (size_mat _) hz2 (rowV_one 16 _) ?_)
  obtain ⟨X, hX⟩ : ∃ X, X = w2.alloc (.cells (rowV 16 q) 25) := ⟨_, rfl⟩
  have hlX : Later w2 X := by rw [hX]; exact (Later.refl w2).alloc _
  have kM : matB X w2.heap.size q := by rw [hX]; exact heap_alloc_new _ _
  replace hR := hlX.row hR
  rw [World.setRow_alloc_new, ← hX]
  obtain ⟨M, hM⟩ : ∃ M, Hid (w2.heap.size = M) := ⟨_, rfl⟩
  obtain ⟨R, hRR⟩ : ∃ R, Hid (W.heap.size = R) := ⟨_, rfl⟩
  rw [hM.out] at kM ⊢
  rw [hRR.out] at hR ⊢
  clear hX hnew hz2 hzs
  have hMR : Hid (M ≠ R) := Lib.hid (by have := hM.out; have := hRR.out; have := hl2.size; simp only [World.size_alloc] at this; omega)
  have hmk : ∀ w, (Instr.makeSlice 40 (.int .i64 3) (.int .i64 3)).run Tryd.prog w = .ok (.slice (some ⟨w.heap.size, 0, none⟩) 3 3) (w.alloc (.cells #[.int .i64 0, .int .i64 0, .int .i64 0, .int .i64 0, .int .i64 0, .int .i64 0, .int .i64 0, .int .i64 0, .int .i64 0] 45)) := fun _ => by kernel_rfl
  have hb0 : ∀ w, (Instr.build 39 #[(0, .int .i64 0), (1, .int .i64 1), (2, .int .i64 2)]).run Tryd.prog w = .ok (.agg #[.int .i64 0, .int .i64 1, .int .i64 2, .int .u32 0]) w := fun w => by kernel_rfl
  have hb4 : ∀ w, (Instr.buildSlice 41 1 #[(0, .agg #[.int .i64 0, .int .i64 1, .int .i64 2, .int .u32 0])]).run Tryd.prog w = .ok (.slice (some ⟨w.heap.size, 0, none⟩) 1 1) (w.alloc (.cells #[.int .i64 0, .int .i64 1, .int .i64 2, .int .u32 0] 39)) := fun w => by kernel_rfl
  have hb1 := build_obj q
  have hb2 := build_scene q
  have hb3 := slice_obj q
  have hsz0 : (Tryd.prog.info? 28).map (·.size) = some 19 := by kernel_rfl
  have hst : ∀ (Z : World) (a : Addr), Z.there R 0 19 → (storeVar 28 ⟨R, 0, none⟩ (.agg (scnL (rowV 16 q).toList a).toArray)).run Tryd.prog Z = .ok () (Z.setCells R 0 (scnL (rowV 16 q).toList a)) := fun Z a h => run_storeVar_mid Z R 0 _ _ (by
    have : (scnL (rowV 16 q).toList a).toArray.size = 19 := rfl
    rw [this]; exact h) (hsz0.trans rfl) (show (scnL (rowV 16 q).toList a).toArray.all (·.oneCell') = true by kernel_rfl)
  have hst2 : ∀ (Z : World) (a : Addr), Z.there R 0 19 → (storeCells ⟨R, 0, none⟩ (scnL (rowV 16 q).toList a)).run Tryd.prog Z = .ok () (Z.setCells R 0 (scnL (rowV 16 q).toList a)) := fun Z a h => by
    have h2 := run_storeCells_cells (P := Tryd.prog) R 0 (scnL (rowV 16 q).toList a) 0 Z (fun j hj => by simpa using (h j hj).1) (fun j hj => by simpa using (h j hj).2)
      (fun v hv => by
        have h1 : (scnL (rowV 16 q).toList a).toArray.all (·.oneCell') = true := by kernel_rfl
        exact (Array.all_eq_true_iff_forall_mem.1 h1) v (by simpa using hv))
    simpa using h2
  have hu : Tryd.prog.underlying 25 = some _ := Tryd.underlying25
  have h16 : (Tryd.prog.info? 25).map (·.size) = some (rowV 16 q).toList.length := by rw [Array.length_toList]; exact size_mat q
  have kr : X.rangeAt M 0 (rowV 16 q).toList := row_range (L := (rowV 16 q).toList) kM
  have kt : X.there R 0 19 := fun j hj => by
    rw [Nat.zero_add]
    refine ⟨?_, frozen_r hR j⟩
    rw [cell_of_row X R j _ _ _ hR]
    exact isSome_19 j hj
  obtain ⟨cs, hcs⟩ : ∃ cs, Hid ((rowV 16 q).toList = cs) := ⟨_, rfl⟩
  obtain ⟨ol, hol⟩ : ∃ ol, Hid (objL cs = ol) := ⟨_, rfl⟩
  obtain ⟨sl, hsl⟩ : ∃ sl, Hid (scnL cs = sl) := ⟨_, rfl⟩
  rw [hcs.out] at hb1 hb2 hb3 hst hst2 kr h16
  rw [hol.out] at hb1 hb3
  rw [hsl.out] at hb2 hst hst2
  clear hsz0
  have hlen : cs.length = 16 := by rw [← hcs.out, Array.length_toList]; exact rowV_size 16 q
  obtain ⟨n16, hn16⟩ : ∃ n, Hid ((16 : Nat) = n) := ⟨_, rfl⟩
  have hsz16 : ∀ w, (sizeOf 25).run Tryd.prog w = .ok n16 w := fun w => by rw [← hn16.out]; kernel_rfl
  have hlc : ∀ w : World, w.rangeAt M 0 cs → (loadCellsFrom ⟨M, 0, none⟩ 0 n16 #[]).run Tryd.prog w = .ok cs.toArray w := fun w h => by
    rw [← hn16.out, ← hlen]
    exact run_loadCells_list (P := Tryd.prog) w ⟨M, 0, none⟩ cs (fun j v hv => by rw [Addr.add_mid]; exact h j v hv)
  clear hlen
  have hln : ∀ a, (sl a).length = 19 := fun a => by rw [← hsl.out, ← hcs.out]; rfl
  clear hu h16
  have k0 : Hid (X.drew.rangeAt M 0 cs ∧ X.drew.there R 0 19) := Lib.hid (by simpa using ⟨kr, kt⟩)
  have k1 : Hid (∀ o, (X.alloc o).drew.rangeAt M 0 cs ∧ (X.alloc o).drew.there R 0 19) := Lib.hid (fun o => by simpa using ⟨World.rangeAt_alloc kr o, World.there_alloc kt o⟩)
  have k2 : Hid (∀ o1 o2, ((X.alloc o1).alloc o2).drew.rangeAt M 0 cs ∧ ((X.alloc o1).alloc o2).drew.there R 0 19) := Lib.hid (fun o o2 => by simpa using ⟨World.rangeAt_alloc (World.rangeAt_alloc kr o) o2, World.there_alloc (World.there_alloc kt o) o2⟩)
  have k3 : Hid (∀ o1 o2 o3, (((X.alloc o1).alloc o2).alloc o3).drew.rangeAt M 0 cs ∧ (((X.alloc o1).alloc o2).alloc o3).drew.there R 0 19) := Lib.hid (fun o o2 o3 => by simpa using ⟨World.rangeAt_alloc (World.rangeAt_alloc (World.rangeAt_alloc kr o) o2) o3, World.there_alloc (World.there_alloc (World.there_alloc kt o) o2) o3⟩)
  have k4 : Hid (∀ (Z : World) vs, Z.rangeAt M 0 cs ∧ Z.there R 0 19 → (Z.setCells R 0 vs).rangeAt M 0 cs ∧ (Z.setCells R 0 vs).there R 0 19) := Lib.hid (fun Z vs h => ⟨World.rangeAt_setCells_apart h.1 R 0 vs (Or.inl hMR.out), World.there_setCells h.2 R 0 vs⟩)
  have hrow : ∀ G V T : Nat, sl ⟨G, 0, none⟩ = (oneAt 4 7 G V T).row := fun G V T => by rw [← hsl.out, ← hcs.out, ← hq.out]; rfl
  have hrow2 : ∀ V T : Nat, ol ⟨V, 0, none⟩ ⟨T, 0, none⟩ = (oneObj 7 (.slice (some ⟨V, 0, none⟩) 3 3) (.slice (some ⟨T, 0, none⟩) 1 1)).row := fun V T => by rw [← hol.out, ← hcs.out, ← hq.out]; rfl
  replace hrow := Lib.hid hrow
  replace hrow2 := Lib.hid hrow2
  have hWR : Hid (W.heap.size ≤ R) := Lib.hid (by rw [hRR.out]; exact Nat.le_refl _)
  have hlWX : Hid (Later W X) := Lib.hid (((Later.refl W).alloc _).trans (hl2.trans hlX))
  have hWX : Hid (W.heap.size ≤ X.heap.size) := Lib.hid hlWX.out.size
  have hRX : Hid (R < X.heap.size) := Lib.hid (Array.getElem?_eq_some_iff.1 hR).1
  replace kt := Lib.hid kt
  clear kr hR kM
  go_region_held3 (fun Z => Z.rangeAt M 0 cs ∧ Z.there R 0 19) ((first | (with_reducible exact k0.out) | (with_reducible exact k1.out _) | (with_reducible exact k2.out _ _) | (with_reducible exact k3.out _ _ _) | (with_reducible exact k4.out _ _ (k3.out _ _ _)))) (fail)
  all_goals clear hst hst2 hlc hb0 hb1 hb2 hb3 hb4 hmk hsz16 hln k0 k1 k2 k3 k4
  · obtain ⟨Z, hZ⟩ : ∃ Z, Z = ((X.alloc (.cells zeros9.toArray 45)).alloc (.cells (trow (0, 1, 2, 0)).toArray 39)).alloc (.cells (ol ⟨X.heap.size, 0, none⟩ ⟨X.heap.size + 1, 0, none⟩).toArray 43) := ⟨_, rfl⟩
    have kZ : Z.there R 0 19 := by rw [hZ]; exact World.there_alloc (World.there_alloc (World.there_alloc kt.out _) _) _
    have hlZ : Later X Z := by rw [hZ]; exact (((Later.refl X).alloc _).alloc _).alloc _
    have hb : OneB Z 7 (X.heap.size + 1 + 1) (X.heap.size) (X.heap.size + 1) := by
      refine ⟨?_, ?_, ?_⟩
      · rw [ObjB, ← hrow2.out, hZ]; exact push_new _ _ (by rw [World.size_alloc, World.size_alloc])
      · rw [hZ]; exact push_one (push_one (heap_alloc_new _ _) _) _
      · rw [hZ]; exact push_one (push_new _ _ (World.size_alloc _ _)) _
    obtain ⟨h1, h2, h3⟩ := fin_one (W := W) hWR.out kZ hb (by have := hRX.out; omega) (by have := hRX.out; omega) (by have := hRX.out; omega) (hlWX.out.trans hlZ) (hrow.out _ _ _).symm
    change Exit.then _ _ _ _ ((((X.alloc (.cells zeros9.toArray 45)).alloc (.cells (trow (0, 1, 2, 0)).toArray 39)).alloc (.cells (ol ⟨X.heap.size, 0, none⟩ ⟨X.heap.size + 1, 0, none⟩).toArray 43)).drew.setCells R 0 (sl ⟨X.heap.size + 1 + 1, 0, none⟩))
    rw [← hZ]
    clear hZ
    go_wp2_with fail
    exact bodyPost_ret (v := (oneAt 4 7 (X.heap.size + 1 + 1) (X.heap.size) (X.heap.size + 1)).V) (results_cell1 (a := 0) (t := 28) (by kernel_rfl) _ rfl h3) rfl ⟨_, _, _, rfl, h1, by have := hWX.out; omega, by omega, by omega, h2⟩
  · obtain ⟨Z, hZ⟩ : ∃ Z, Z = ((X.alloc (.cells (trow (0, 1, 2, 0)).toArray 39)).alloc (.cells zeros9.toArray 45)).alloc (.cells (ol ⟨X.heap.size + 1, 0, none⟩ ⟨X.heap.size, 0, none⟩).toArray 43) := ⟨_, rfl⟩
    have kZ : Z.there R 0 19 := by rw [hZ]; exact World.there_alloc (World.there_alloc (World.there_alloc kt.out _) _) _
    have hlZ : Later X Z := by rw [hZ]; exact (((Later.refl X).alloc _).alloc _).alloc _
    have hb : OneB Z 7 (X.heap.size + 1 + 1) (X.heap.size + 1) (X.heap.size) := by
      refine ⟨?_, ?_, ?_⟩
      · rw [ObjB, ← hrow2.out, hZ]; exact push_new _ _ (by rw [World.size_alloc, World.size_alloc])
      · rw [hZ]; exact push_one (push_new _ _ (World.size_alloc _ _)) _
      · rw [hZ]; exact push_one (push_one (heap_alloc_new _ _) _) _
    obtain ⟨h1, h2, h3⟩ := fin_one (W := W) hWR.out kZ hb (by have := hRX.out; omega) (by have := hRX.out; omega) (by have := hRX.out; omega) (hlWX.out.trans hlZ) (hrow.out _ _ _).symm
    change Exit.then _ _ _ _ ((((X.alloc (.cells (trow (0, 1, 2, 0)).toArray 39)).alloc (.cells zeros9.toArray 45)).alloc (.cells (ol ⟨X.heap.size + 1, 0, none⟩ ⟨X.heap.size, 0, none⟩).toArray 43)).drew.setCells R 0 (sl ⟨X.heap.size + 1 + 1, 0, none⟩))
    rw [← hZ]
    clear hZ
    go_wp2_with fail
    exact bodyPost_ret (v := (oneAt 4 7 (X.heap.size + 1 + 1) (X.heap.size + 1) (X.heap.size)).V) (results_cell1 (a := 0) (t := 28) (by kernel_rfl) _ rfl h3) rfl ⟨_, _, _, rfl, h1, by have := hWX.out; omega, by omega, by omega, h2⟩
theorem some_any (W : World) :
    Calls Tryd.prog 12 #[] W fun e w' => ∃ G V T, e = .returned (oneAt 4 7 G V T).V ∧ Later W w' ∧ W.heap.size ≤ G ∧ V ≠ G ∧ T ≠ G ∧ OneB w' 7 G V T := by
  refine (some_new W).mono ?_
  rintro e w' ⟨G, V, T, h1, h2, ⟨h3, _⟩, h4, h5, h6⟩
  exact ⟨G, V, T, h1, h2, h3, h4, h5, h6⟩
end Go.Proofs.YtackbajbladhhaaDoor
