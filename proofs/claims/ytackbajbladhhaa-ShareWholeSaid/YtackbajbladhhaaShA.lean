/-
  Chapter 8's laws: the chapter's scene.
-/
import Derived.Test.YtackbajbladhhaaScX
namespace Go.Proofs.Ytackbajbladhhaa
open Go.RowKit Go.Shelf
set_option linter.unusedVariables false
set_option linter.unusedSimpArgs false
attribute [local go_sem] Oper.semAt_some

def nObj (i : Int) : SObj := { id := i, m := idQ, uv := .slice none 0 0, vs := [], ut := .slice none 0 0, ts := [] }
abbrev s8 (u : Value) : Scn := { W := 1, H := 1, cam := idQ, uo := u, os := [nObj 9, nObj 4, nObj 7] }
def obj8L (cs : List Value) (i : Int) : List Value := .int .i64 i :: (cs ++ [.slice none 0 0, .slice none 0 0])
def scn8L (cs : List Value) (a : Addr) : List Value := .int .i64 1 :: .int .i64 1 :: (cs ++ [.slice (some a) 3 3])
theorem build_scene8 (q : Nat → Int) (a : Addr) (w : World) : (Instr.build 28 #[(0, .int .i64 1), (1, .int .i64 1), (2, .agg (rowV 16 q).toList.toArray), (3, .slice (some a) 3 3)]).run Try.prog w = .ok (.agg (scn8L (rowV 16 q).toList a).toArray) w := by kernel_rfl
theorem build_obj8 (q : Nat → Int) (i : Int) (w : World) : (Instr.build 37 #[(0, .int .i64 i), (1, .agg (rowV 16 q).toList.toArray)]).run Try.prog w = .ok (.agg (obj8L (rowV 16 q).toList i).toArray) w := by kernel_rfl
theorem slice_obj8 (q : Nat → Int) (w : World) : (Instr.buildSlice 26 3 #[(0, .agg (obj8L (rowV 16 q).toList 9).toArray), (1, .agg (obj8L (rowV 16 q).toList 4).toArray), (2, .agg (obj8L (rowV 16 q).toList 7).toArray)]).run Try.prog w = .ok (.slice (some ⟨w.heap.size, 0, none⟩) 3 3) (w.alloc (.cells (obj8L (rowV 16 q).toList 9 ++ (obj8L (rowV 16 q).toList 4 ++ obj8L (rowV 16 q).toList 7)).toArray 37)) := by kernel_rfl
theorem nObj_ok (i : Int) (w : World) : (nObj i).Ok w :=
  ⟨⟨none, 0, rfl, ⟨Nat.le_refl _, fun _ => rfl⟩, fun k x hx => by simp [nObj] at hx⟩, ⟨none, 0, rfl, ⟨Nat.le_refl _, fun _ => rfl⟩, fun k x hx => by simp [nObj] at hx⟩⟩
theorem s8_ok {w : World} {G : Nat} (h : w.rangeAt G 0 ((nObj 9).row ++ ((nObj 4).row ++ (nObj 7).row))) : (s8 (.slice (some ⟨G, 0, none⟩) 3 3)).Ok w := by
  have h0 : w.rangeAt G 0 (nObj 9).row := by
    have := rangeAt_mid (A := []) (B := (nObj 9).row) (C := (nObj 4).row ++ (nObj 7).row) h
    simpa using this
  have h1 : w.rangeAt G 19 (nObj 4).row := by
    have := rangeAt_mid (A := (nObj 9).row) (B := (nObj 4).row) (C := (nObj 7).row) h
    rw [SObj.row_length, Nat.zero_add] at this
    exact this
  have h2 : w.rangeAt G 38 (nObj 7).row := by
    have := rangeAt_mid (A := (nObj 9).row ++ (nObj 4).row) (B := (nObj 7).row) (C := []) (by rw [List.append_nil, List.append_assoc]; exact h)
    rw [List.length_append, SObj.row_length, SObj.row_length, Nat.zero_add] at this
    exact this
  refine ⟨⟨_, _, rfl, ⟨Nat.le_refl _, fun h => by cases h⟩, fun k y hy => ⟨G, 0, rfl, ?_⟩⟩, fun y hy => ?_⟩
  · match k, hy with
    | 0, hy =>
      obtain rfl := Option.some.inj hy
      exact h0
    | 1, hy =>
      obtain rfl := Option.some.inj hy
      exact h1
    | 2, hy =>
      obtain rfl := Option.some.inj hy
      exact h2
  · simp only [List.mem_cons, List.not_mem_nil, or_false] at hy
    rcases hy with rfl | rfl | rfl <;> exact nObj_ok _ _
attribute [-go_sem] Instr.build Instr.buildSlice
attribute [-simp] Try.sizeOf25 Try.typeInfo25
set_option maxRecDepth 100000 in
set_option maxHeartbeats 4000000 in
theorem some8_any (W : World) :
    Calls Try.prog 29 #[] W fun e w' => ∃ G, e = .returned (s8 (.slice (some ⟨G, 0, none⟩) 3 3)).V ∧ Later W w' ∧ (s8 (.slice (some ⟨G, 0, none⟩) 3 3)).Ok w' := by
  have hI := Lib.hid (fun W => identity_any W)
  obtain ⟨q, hq⟩ : ∃ q, Hid (idQ = q) := ⟨_, rfl⟩
  have hI2 : Hid (∀ W : World, Calls Try.prog 55 #[] W fun e w' => e = .returned (matV q) ∧ Later W w') := Lib.hid (fun W => by rw [← hq.out]; exact hI.out W)
  have hzs := heap_alloc_new W (.cells #[.int .i64 0, .int .i64 0, .int .i64 0, .int .i64 0, .int .i64 0, .int .i64 0, .int .i64 0, .int .i64 0, .int .i64 0, .int .i64 0, .int .i64 0, .int .i64 0, .int .i64 0, .int .i64 0, .int .i64 0, .int .i64 0, .int .i64 0, .int .i64 0, .slice none 0 0] 28)
  clear hI
  go_enter Try.func29, Try.ntmps29
  go_wp2_with fail
  refine (hI2.out _).mono ?_
  rintro e w2 ⟨rfl, hl2⟩
  have hnew := heap_alloc_new w2 (.cells #[.int .i64 0, .int .i64 0, .int .i64 0, .int .i64 0, .int .i64 0, .int .i64 0, .int .i64 0, .int .i64 0, .int .i64 0, .int .i64 0, .int .i64 0, .int .i64 0, .int .i64 0, .int .i64 0, .int .i64 0, .int .i64 0] 25)
  have hz2 : (#[.int .i64 0, .int .i64 0, .int .i64 0, .int .i64 0, .int .i64 0, .int .i64 0, .int .i64 0, .int .i64 0, .int .i64 0, .int .i64 0, .int .i64 0, .int .i64 0, .int .i64 0, .int .i64 0, .int .i64 0, .int .i64 0] : Array Value).size = (rowV 16 q).size := by rw [rowV_size]; rfl
  have hR := hl2.row hzs
  go_upto_region 2 with (refine wpList_store_row rfl 25 _ _ rfl w2.heap.size (rowV 16 q) rfl rfl 25 #[.int .i64 0, .int .i64 0, .int .i64 0, .int .i64 0, .int .i64 0, .int .i64 0, .int .i64 0, .int .i64 0, .int .i64 0, .int .i64 0, .int .i64 0, .int .i64 0, .int .i64 0, .int .i64 0, .int .i64 0, .int .i64 0] hnew (size_mat _) hz2 (rowV_one 16 _) ?_)
  obtain ⟨X, hX⟩ : ∃ X, X = w2.alloc (.cells (rowV 16 q) 25) := ⟨_, rfl⟩
  have hlX : Later w2 X := by rw [hX]; exact (Later.refl w2).alloc _
  have kM : matB X w2.heap.size q := by rw [hX]; exact heap_alloc_new _ _
  replace hR := hlX.row hR
  rw [World.setRow_alloc_new, ← hX]
  obtain ⟨M, hM⟩ : ∃ M, Hid (w2.heap.size = M) := ⟨_, rfl⟩
  obtain ⟨R, hRR⟩ : ∃ R, Hid (W.heap.size = R) := ⟨_, rfl⟩
  rw [hM.out] at kM ⊢
  rw [hRR.out] at hR ⊢
  clear hX hnew hz2 hzs
  have hMR : Hid (M ≠ R) := Lib.hid (by have := hM.out; have := hRR.out; have := hl2.size; simp only [World.size_alloc] at this; omega)
  have hb1 := fun i => build_obj8 q i
  have hb2 := build_scene8 q
  have hb3 := slice_obj8 q
  have hst2 : ∀ (Z : World) (a : Addr), Z.there R 0 19 → (storeCells ⟨R, 0, none⟩ (scn8L (rowV 16 q).toList a)).run Try.prog Z = .ok () (Z.setCells R 0 (scn8L (rowV 16 q).toList a)) := fun Z a h => by
    have h2 := run_storeCells_cells (P := Try.prog) R 0 (scn8L (rowV 16 q).toList a) 0 Z (fun j hj => by simpa using (h j hj).1) (fun j hj => by simpa using (h j hj).2)
      (fun v hv => by
        have h1 : (scn8L (rowV 16 q).toList a).toArray.all (·.oneCell') = true := by kernel_rfl
        exact (Array.all_eq_true_iff_forall_mem.1 h1) v (by simpa using hv))
    simpa using h2
  have kr : X.rangeAt M 0 (rowV 16 q).toList := row_range (L := (rowV 16 q).toList) kM
  have kt : X.there R 0 19 := fun j hj => by
    rw [Nat.zero_add]
    refine ⟨?_, frozen_r hR j⟩
    rw [cell_of_row X R j _ _ _ hR]
    exact isSome_19 j hj
  obtain ⟨cs, hcs⟩ : ∃ cs, Hid ((rowV 16 q).toList = cs) := ⟨_, rfl⟩
  obtain ⟨ol, hol⟩ : ∃ ol, Hid (obj8L cs = ol) := ⟨_, rfl⟩
  obtain ⟨sl, hsl⟩ : ∃ sl, Hid (scn8L cs = sl) := ⟨_, rfl⟩
  obtain ⟨n16, hn16⟩ : ∃ n, Hid ((16 : Nat) = n) := ⟨_, rfl⟩
  rw [hcs.out] at hb1 hb2 hb3 hst2 kr
  rw [hol.out] at hb1 hb3
  rw [hsl.out] at hb2 hst2
  have hlen : cs.length = 16 := by rw [← hcs.out, Array.length_toList]; exact rowV_size 16 q
  have hsz16 : ∀ w, (sizeOf 25).run Try.prog w = .ok n16 w := fun w => by rw [← hn16.out]; kernel_rfl
  have hlc : ∀ w : World, w.rangeAt M 0 cs → (loadCellsFrom ⟨M, 0, none⟩ 0 n16 #[]).run Try.prog w = .ok cs.toArray w := fun w h => by
    rw [← hn16.out, ← hlen]
    exact run_loadCells_list (P := Try.prog) w ⟨M, 0, none⟩ cs (fun j v hv => by rw [Addr.add_mid]; exact h j v hv)
  clear hlen
  have hln : ∀ a, (sl a).length = 19 := fun a => by rw [← hsl.out, ← hcs.out]; rfl
  have b1 := hb1 9
  have b2 := hb1 4
  have b3 := hb1 7
  clear hb1
  have hRX := Lib.hid (Array.getElem?_eq_some_iff.1 hR).1
  have kt1 : ∀ o, (X.alloc o).there R 0 19 := fun o => World.there_alloc kt o
  clear hR kM
  go_wp2_with fail
  have hrow : sl ⟨X.heap.size, 0, none⟩ = (s8 (.slice (some ⟨X.heap.size, 0, none⟩) 3 3)).row := by rw [← hsl.out, ← hcs.out, ← hq.out]; rfl
  have hrow2 : ∀ i, ol i = (nObj i).row := fun i => by rw [← hol.out, ← hcs.out, ← hq.out]; rfl
  have hload : (loadVar 28 ⟨R, 0, none⟩).run Try.prog ((X.alloc (.cells (ol 9 ++ (ol 4 ++ ol 7)).toArray 37)).setCells R 0 (sl ⟨X.heap.size, 0, none⟩)) = .ok (s8 (.slice (some ⟨X.heap.size, 0, none⟩) 3 3)).V ((X.alloc (.cells (ol 9 ++ (ol 4 ++ ol 7)).toArray 37)).setCells R 0 (sl ⟨X.heap.size, 0, none⟩)) := by
    rw [hrow]
    exact run_loadVar_mid _ R 0 _ _ _ (World.rangeAt_setCells_same _ _ _ _ (by rw [Scn.row_length]; exact kt1 _)) Try.underlying28 rfl (size_scn _)
  have hok : (s8 (.slice (some ⟨X.heap.size, 0, none⟩) 3 3)).Ok ((X.alloc (.cells (ol 9 ++ (ol 4 ++ ol 7)).toArray 37)).setCells R 0 (sl ⟨X.heap.size, 0, none⟩)) := by
    refine s8_ok ?_
    rw [← hrow2, ← hrow2, ← hrow2]
    exact row_range ((heap_setCells_ne (by have := hRX.out; omega) _ _ _).trans (heap_alloc_new X _))
  exact bodyPost_ret (v := (s8 (.slice (some ⟨X.heap.size, 0, none⟩) 3 3)).V) (results_cell1 (a := 0) (t := 28) (by kernel_rfl) _ rfl hload) rfl ⟨_, rfl, Later.setCells (by rw [hRR.out]; exact Nat.le_refl _) _ _ _ ((((Later.refl W).alloc _).trans (hl2.trans hlX)).alloc _), hok⟩
end Go.Proofs.Ytackbajbladhhaa
