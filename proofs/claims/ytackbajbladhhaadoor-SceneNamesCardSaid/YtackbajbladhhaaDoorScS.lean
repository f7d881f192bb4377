/-
  Chapter 6's laws: alive.
-/
import Derived.Test.YtackbajbladhhaaDoorScR
namespace Go.Proofs.YtackbajbladhhaaDoor
open Go.RowKit Go.Shelf
set_option linter.unusedVariables false
set_option linter.unusedSimpArgs false
attribute [local go_sem] Oper.semAt_some
attribute [-go_sem] Instr.buildSlice Builtin.append_
attribute [-simp] Tryd.sizeOf43 Tryd.typeInfo43

theorem store_row {R : Nat} {t : TypeId} {arr z : Array Value} {Z : World} (h : Z.heap[R]? = some (.cells z t (0, 0))) (hs : z.size = arr.size) (ho : arr.all (·.oneCell') = true) :
    (storeCells ⟨R, 0, none⟩ arr.toList).run Tryd.prog Z = .ok () (Z.setRow R arr) := by
  have := run_storeCells_from (P := Tryd.prog) R t arr.toList 0 z Z h (by simp [hs]) (fun v hv => (Array.all_eq_true_iff_forall_mem.1 ho) v (by simpa using hv))
  simpa using this
theorem OneB.set {w : World} {id : Int} {G V T g : Nat} (h : OneB w id G V T) (hG : G ≠ g) (hV : V ≠ g) (hT : T ≠ g) (o : Nat) (v : Value) : OneB (w.setCell ⟨g, o, none⟩ v) id G V T :=
  ⟨(Below.heap_setCell _ _ _ _ hG).trans h.obj, (Below.heap_setCell _ _ _ _ hV).trans h.vs, (Below.heap_setCell _ _ _ _ hT).trans h.ts⟩
theorem OneB.setId {w : World} {id : Int} {G V T : Nat} (h : OneB w id G V T) (hV : V ≠ G) (hT : T ≠ G) (n : Int) : OneB (w.setCell ⟨G, 0, none⟩ (.int .i64 n)) n G V T :=
  ⟨heap_setC h.obj, (Below.heap_setCell _ _ _ _ hV).trans h.vs, (Below.heap_setCell _ _ _ _ hT).trans h.ts⟩
theorem cells_ty {w : World} {a b : Nat} {c d : Array Value} {s t : TypeId} {fr gr : Nat × Nat} (h : w.heap[a]? = some (.cells c s fr)) (k : w.heap[b]? = some (.cells d t gr)) (hst : s ≠ t) : a ≠ b := fun e => by
  subst e
  have := h.symm.trans k
  injection this with this
  injection this with _ h2
  exact hst h2
theorem OneB.neV {w : World} {id : Int} {G V T P : Nat} {s : Scn} (h : OneB w id G V T) (k : ScnB w P s) : V ≠ P := cells_ty h.vs k (by decide)
theorem OneB.neT {w : World} {id : Int} {G V T P : Nat} {s : Scn} (h : OneB w id G V T) (k : ScnB w P s) : T ≠ P := cells_ty h.ts k (by decide)
theorem OneB.neVG {w : World} {id jd : Int} {G V T H U S : Nat} (h : OneB w id G V T) (k : OneB w jd H U S) : V ≠ H := cells_ty h.vs k.obj (by decide)
theorem OneB.neTG {w : World} {id jd : Int} {G V T H U S : Nat} (h : OneB w id G V T) (k : OneB w jd H U S) : T ≠ H := cells_ty h.ts k.obj (by decide)
theorem two_ok {w : World} {N cp : Nat} {x : SObj} {z : Array Value} (hx : x.Ok w) (h2 : 2 ≤ cp) (h : w.heap[N]? = some (.cells (x.row.toArray ++ x.row.toArray ++ z) 43 (0, 0))) :
    (oneScn 4 (.slice (some ⟨N, 0, none⟩) 2 cp) [x, x]).Ok w := by
  have hr : w.rangeAt N 0 (x.row ++ (x.row ++ z.toList)) := by
    have h3 : x.row.toArray ++ x.row.toArray ++ z = (x.row ++ (x.row ++ z.toList)).toArray := by
      apply Array.ext'; simp
    rw [h3] at h
    exact row_range h
  have h0 : w.rangeAt N 0 x.row := by
    have := rangeAt_mid (A := []) (B := x.row) (C := x.row ++ z.toList) hr
    simpa using this
  have h1 : w.rangeAt N 19 x.row := by
    have := rangeAt_mid (A := x.row) (B := x.row) (C := z.toList) hr
    rw [SObj.row_length, Nat.zero_add] at this
    exact this
  refine ⟨⟨_, _, rfl, ⟨h2, fun h => by cases h⟩, fun k y hy => ⟨N, 0, rfl, ?_⟩⟩, fun y hy => ?_⟩
  · match k, hy with
    | 0, hy =>
      obtain rfl := Option.some.inj hy
      rw [Nat.zero_mul]; exact h0
    | 1, hy =>
      obtain rfl := Option.some.inj hy
      rw [Nat.one_mul, Nat.zero_add]; exact h1
  · obtain rfl : y = x := by simpa [oneScn] using hy
    exact hx
theorem size_scn' (s : Scn) : (Tryd.prog.info? 28).map (·.size) = some s.row.toArray.size := by rw [List.size_toArray]; exact size_scn s
theorem scn_one (s : Scn) (h : s.uo.oneCell' = true) : s.row.toArray.all (·.oneCell') = true := by
  simp only [Scn.row, List.all_toArray, List.all_cons, List.all_append, List.all_map, List.all_nil, h, Bool.and_true, Bool.true_and]
  rfl
set_option maxRecDepth 100000 in
set_option maxHeartbeats 400000 in
theorem alive_any (W : World) :
    Calls Tryd.prog 18 #[] W fun e w' => e = .returned (.bool true) ∧ Later W w' := by
  have hO := Lib.hid (fun W => some_any W)
  obtain ⟨n19, hn19⟩ : ∃ n, Hid ((19 : Nat) = n) := ⟨_, rfl⟩
  have hsz19 : ∀ w, (sizeOf 43).run Tryd.prog w = .ok n19 w := fun w => by rw [← hn19.out]; kernel_rfl
  go_enter Tryd.func18, Tryd.ntmps18
  go_wp2_with fail
  refine (hO.out _).mono ?_
  rintro e w1 ⟨G1, V1, T1, rfl, hl1, hG1, hV1, hT1, hb1⟩
  obtain ⟨r1, hr1⟩ : ∃ r, Hid ((oneAt 4 7 G1 V1 T1).row.toArray = r) := ⟨_, rfl⟩
  simp only [Scn.V]
  rw [hr1.out]
  go_wp2_with fail
  have hb1' := hb1
  refine (hO.out _).mono ?_
  rintro e w2 ⟨G2, V2, T2, rfl, hl2, hG2, hV2, hT2, hb2⟩
  obtain ⟨r2, hr2⟩ : ∃ r, Hid ((oneAt 4 7 G2 V2 T2).row.toArray = r) := ⟨_, rfl⟩
  simp only [Scn.V]
  rw [hr2.out]
  go_wp2_with fail
  have hb2' := hb2
  refine (hO.out _).mono ?_
  rintro e w3 ⟨G3, V3, T3, rfl, hl3, hG3, hV3, hT3, hb3⟩
  obtain ⟨r3, hr3⟩ : ∃ r, Hid ((oneAt 4 7 G3 V3 T3).row.toArray = r) := ⟨_, rfl⟩
  simp only [Scn.V]
  rw [hr3.out]
  have hs1 := Lib.hid (show (Tryd.prog.info? 28).map (·.size) = some r1.size by rw [← hr1.out, List.size_toArray]; exact size_scn _)
  have hs2 := Lib.hid (show (Tryd.prog.info? 28).map (·.size) = some r2.size by rw [← hr2.out, List.size_toArray]; exact size_scn _)
  have hs3 := Lib.hid (show (Tryd.prog.info? 28).map (·.size) = some r3.size by rw [← hr3.out, List.size_toArray]; exact size_scn _)
  have hz1 := Lib.hid (show (#[.int .i64 0, .int .i64 0, .int .i64 0, .int .i64 0, .int .i64 0, .int .i64 0, .int .i64 0, .int .i64 0, .int .i64 0, .int .i64 0, .int .i64 0, .int .i64 0, .int .i64 0, .int .i64 0, .int .i64 0, .int .i64 0, .int .i64 0, .int .i64 0, .slice none 0 0] : Array Value).size = r1.size by rw [← hr1.out]; rfl)
  have hz2 := Lib.hid (show (#[.int .i64 0, .int .i64 0, .int .i64 0, .int .i64 0, .int .i64 0, .int .i64 0, .int .i64 0, .int .i64 0, .int .i64 0, .int .i64 0, .int .i64 0, .int .i64 0, .int .i64 0, .int .i64 0, .int .i64 0, .int .i64 0, .int .i64 0, .int .i64 0, .slice none 0 0] : Array Value).size = r2.size by rw [← hr2.out]; rfl)
  have hz3 := Lib.hid (show (#[.int .i64 0, .int .i64 0, .int .i64 0, .int .i64 0, .int .i64 0, .int .i64 0, .int .i64 0, .int .i64 0, .int .i64 0, .int .i64 0, .int .i64 0, .int .i64 0, .int .i64 0, .int .i64 0, .int .i64 0, .int .i64 0, .int .i64 0, .int .i64 0, .slice none 0 0] : Array Value).size = r3.size by rw [← hr3.out]; rfl)
  have ho1 := Lib.hid (show r1.all (·.oneCell') = true by rw [← hr1.out]; exact scn_one _ rfl)
  have ho2 := Lib.hid (show r2.all (·.oneCell') = true by rw [← hr2.out]; exact scn_one _ rfl)
  have ho3 := Lib.hid (show r3.all (·.oneCell') = true by rw [← hr3.out]; exact scn_one _ rfl)
  obtain ⟨X, hX⟩ : ∃ X, X = ((w3.alloc (.cells #[.int .i64 0, .int .i64 0, .int .i64 0, .int .i64 0, .int .i64 0, .int .i64 0, .int .i64 0, .int .i64 0, .int .i64 0, .int .i64 0, .int .i64 0, .int .i64 0, .int .i64 0, .int .i64 0, .int .i64 0, .int .i64 0, .int .i64 0, .int .i64 0, .slice none 0 0] 28)).alloc (.cells #[.int .i64 0, .int .i64 0, .int .i64 0, .int .i64 0, .int .i64 0, .int .i64 0, .int .i64 0, .int .i64 0, .int .i64 0, .int .i64 0, .int .i64 0, .int .i64 0, .int .i64 0, .int .i64 0, .int .i64 0, .int .i64 0, .int .i64 0, .int .i64 0, .slice none 0 0] 28)).alloc (.cells #[.int .i64 0, .int .i64 0, .int .i64 0, .int .i64 0, .int .i64 0, .int .i64 0, .int .i64 0, .int .i64 0, .int .i64 0, .int .i64 0, .int .i64 0, .int .i64 0, .int .i64 0, .int .i64 0, .int .i64 0, .int .i64 0, .int .i64 0, .int .i64 0, .slice none 0 0] 28) := ⟨_, rfl⟩
  have n1 : X.heap[w3.heap.size]? = some (.cells #[.int .i64 0, .int .i64 0, .int .i64 0, .int .i64 0, .int .i64 0, .int .i64 0, .int .i64 0, .int .i64 0, .int .i64 0, .int .i64 0, .int .i64 0, .int .i64 0, .int .i64 0, .int .i64 0, .int .i64 0, .int .i64 0, .int .i64 0, .int .i64 0, .slice none 0 0] 28 (0, 0)) := by rw [hX]; exact push_one (push_one (heap_alloc_new _ _) _) _
  have n2 : X.heap[w3.heap.size + 1]? = some (.cells #[.int .i64 0, .int .i64 0, .int .i64 0, .int .i64 0, .int .i64 0, .int .i64 0, .int .i64 0, .int .i64 0, .int .i64 0, .int .i64 0, .int .i64 0, .int .i64 0, .int .i64 0, .int .i64 0, .int .i64 0, .int .i64 0, .int .i64 0, .int .i64 0, .slice none 0 0] 28 (0, 0)) := by rw [hX]; exact push_one (push_new _ _ (World.size_alloc _ _)) _
  have n3 : X.heap[w3.heap.size + 1 + 1]? = some (.cells #[.int .i64 0, .int .i64 0, .int .i64 0, .int .i64 0, .int .i64 0, .int .i64 0, .int .i64 0, .int .i64 0, .int .i64 0, .int .i64 0, .int .i64 0, .int .i64 0, .int .i64 0, .int .i64 0, .int .i64 0, .int .i64 0, .int .i64 0, .int .i64 0, .slice none 0 0] 28 (0, 0)) := by rw [hX]; exact push_new _ _ (by rw [World.size_alloc, World.size_alloc])
  have hlX : Later w3 X := by rw [hX]; exact (((Later.refl w3).alloc _).alloc _).alloc _
  have q1 := store_row n1 hz1.out ho1.out
  have q2 := store_row (Z := X.setRow w3.heap.size r1) ((setRow_other _ _ _ _ (by omega)).trans n2) hz2.out ho2.out
  have q3 := store_row (Z := (X.setRow w3.heap.size r1).setRow (w3.heap.size + 1) r2) ((setRow_other _ _ _ _ (by omega)).trans ((setRow_other _ _ _ _ (by omega)).trans n3)) hz3.out ho3.out
  have e1 : r1.size = 19 := hz1.out.symm
  have e2 : r2.size = 19 := hz2.out.symm
  have e3 : r3.size = 19 := hz3.out.symm
  have kA : ScnB (((X.setRow w3.heap.size r1).setRow (w3.heap.size + 1) r2).setRow (w3.heap.size + 1 + 1) r3) w3.heap.size (oneAt 4 7 G1 V1 T1) := by
    unfold ScnB
    rw [hr1.out, setRow_other _ _ _ _ (by omega), setRow_other _ _ _ _ (by omega)]; exact setRow_heap _ _ _ _ _ _ n1
  have kB : ScnB (((X.setRow w3.heap.size r1).setRow (w3.heap.size + 1) r2).setRow (w3.heap.size + 1 + 1) r3) (w3.heap.size + 1) (oneAt 4 7 G2 V2 T2) := by
    unfold ScnB
    rw [hr2.out, setRow_other _ _ _ _ (by omega)]; exact setRow_heap _ _ _ _ _ _ ((setRow_other _ _ _ _ (by omega)).trans n2)
  have kC : ScnB (((X.setRow w3.heap.size r1).setRow (w3.heap.size + 1) r2).setRow (w3.heap.size + 1 + 1) r3) (w3.heap.size + 1 + 1) (oneAt 4 7 G3 V3 T3) := by
    unfold ScnB
    rw [hr3.out]; exact setRow_heap _ _ _ _ _ _ ((setRow_other _ _ _ _ (by omega)).trans ((setRow_other _ _ _ _ (by omega)).trans n3))
  have hlY : Later w3 (((X.setRow w3.heap.size r1).setRow (w3.heap.size + 1) r2).setRow (w3.heap.size + 1 + 1) r3) := ((hlX.setRow (by omega) _).setRow (by omega) _).setRow (by omega) _
  obtain ⟨Y, hY⟩ : ∃ Y, Y = ((X.setRow w3.heap.size r1).setRow (w3.heap.size + 1) r2).setRow (w3.heap.size + 1 + 1) r3 := ⟨_, rfl⟩
  rw [← hY] at kA kB kC hlY
  rw [hX] at q1 q2 q3 hY
  clear n1 n2 n3 hlX hX
  go_upto_region 2 with fail
  rw [← hY]
  clear hY q1 q2 q3 e1 e2 e3 hs1 hs2 hs3 hz1 hz2 hz3 ho1 ho2 ho3
  obtain ⟨P, hP⟩ : ∃ P, Hid (w3.heap.size = P) := ⟨_, rfl⟩
  have hWP : Hid (W.heap.size ≤ P) := Lib.hid (by rw [← hP.out]; exact ((hl1.trans hl2).trans hl3).size)
  replace hb1 := (hb1.later hl2).later hl3
  replace hb2 := hb2.later hl3
  have hg1 : Hid (G1 < P) := Lib.hid (by rw [← hP.out]; exact (Array.getElem?_eq_some_iff.1 hb1.obj).1)
  have hg2 : Hid (G2 < P) := Lib.hid (by rw [← hP.out]; exact (Array.getElem?_eq_some_iff.1 hb2.obj).1)
  have hg3 : Hid (G3 < P) := Lib.hid (by rw [← hP.out]; exact (Array.getElem?_eq_some_iff.1 hb3.obj).1)
  have hG23 : Hid (G2 < G3) := Lib.hid (Nat.lt_of_lt_of_le (Array.getElem?_eq_some_iff.1 hb2'.obj).1 hG3)
  have hG12 : Hid (G1 < G2) := Lib.hid (Nat.lt_of_lt_of_le (Array.getElem?_eq_some_iff.1 hb1'.obj).1 hG2)
  replace hb1 := hb1.later hlY
  replace hb2 := hb2.later hlY
  replace hb3 := hb3.later hlY
  rw [hP.out] at kA kB kC ⊢
  have kA' := kA
  have cA0 := kA.w
  have fA0 := frozen_r kA 0
  have cB : Y.cell? ⟨P + 1, 18, none⟩ = some (.slice (some ⟨G2, 0, none⟩) 1 1) := kB.uo
  have hbY := hb2.set (g := P) (by have := hg2.out; omega) (hb2.neV kA') (hb2.neT kA') 0 (.int .i64 65)
  have cG := hbY.obj.id
  have fG := frozen_r hbY.obj 0
  have cGb : (Y.setCell ⟨P, 0, none⟩ (.int .i64 65)).cell? ⟨P + 1, 18, none⟩ = some (.slice (some ⟨G2, 0, none⟩) 1 1) := by
    have : ScnB (Y.setCell ⟨P, 0, none⟩ (.int .i64 65)) (P + 1) (oneAt 4 7 G2 V2 T2) := (Below.heap_setCell _ _ _ _ (by show P + 1 ≠ P; omega)).trans kB
    exact this.uo
  go_wp2_with fail
  obtain ⟨Z, hZ⟩ : ∃ Z, Z = (Y.setCell ⟨P, 0, none⟩ (.int .i64 65)).setCell ⟨G2, 0, none⟩ (.int .i64 0) := ⟨_, rfl⟩
  have zA : ScnB Z P (oneAt 65 7 G1 V1 T1) := by
    rw [hZ]
    exact (Below.heap_setCell _ _ _ _ (by have := hg2.out; show P ≠ G2; omega)).trans (heap_setC kA)
  have zB : ScnB Z (P + 1) (oneAt 4 0 G2 V2 T2) := by
    rw [hZ]
    exact (Below.heap_setCell _ _ _ _ (by have := hg2.out; show P + 1 ≠ G2; omega)).trans ((Below.heap_setCell _ _ _ _ (by show P + 1 ≠ P; omega)).trans kB)
  have zC : ScnB Z (P + 1 + 1) (oneAt 4 7 G3 V3 T3) := by
    rw [hZ]
    exact (Below.heap_setCell _ _ _ _ (by have := hg2.out; show P + 1 + 1 ≠ G2; omega)).trans ((Below.heap_setCell _ _ _ _ (by show P + 1 + 1 ≠ P; omega)).trans kC)
  have z1 : OneB Z 7 G1 V1 T1 := by
    rw [hZ]
    exact (hb1.set (by have := hg1.out; omega) (hb1.neV kA') (hb1.neT kA') _ _).set (by have := hG12.out; omega) (hb1.neVG hb2) (hb1.neTG hb2) _ _
  have z3 : OneB Z 7 G3 V3 T3 := by
    rw [hZ]
    exact (hb3.set (by have := hg3.out; omega) (hb3.neV kA') (hb3.neT kA') _ _).set (by have := hG23.out; omega) (hb3.neVG hb2) (hb3.neTG hb2) _ _
  have z2 : OneB Z 0 G2 V2 T2 := by
    rw [hZ]
    exact (hb2.set (by have := hg2.out; omega) (hb2.neV kA') (hb2.neT kA') _ _).setId hV2 hT2 0
  have hlZ : Hid (Later W Z) := Lib.hid (by
    rw [hZ]
    exact ((((hl1.trans hl2).trans hl3).trans hlY).setCell (p := ⟨P, 0, none⟩) hWP.out _).setCell (p := ⟨G2, 0, none⟩) (Nat.le_trans hl1.size hG2) _)
  rw [← hZ]
  have hPZ : Hid (P + 1 + 1 < Z.heap.size) := Lib.hid (Array.getElem?_eq_some_iff.1 zC).1
  clear hZ cA0 fA0 cB cG fG cGb hbY kA kB kC kA' hb1 hb1' hb2 hb2' hb3 hlY hl1 hl2 hl3 hG1 hG2 hG3 hV1 hV2 hV3 hT1 hT2 hT3
  obtain ⟨ol, hol⟩ : ∃ ol, Hid ((oneObj 7 (.slice (some ⟨V3, 0, none⟩) 3 3) (.slice (some ⟨T3, 0, none⟩) 1 1)).row = ol) := ⟨_, rfl⟩
  have hoL : ol.length = 19 := by rw [← hol.out]; exact SObj.row_length _
  have hZr : Z.rangeAt G3 0 ol := by rw [← hol.out]; exact row_range z3.obj
  have hlc : (loadCellsFrom ⟨G3, 0, none⟩ 0 n19 #[]).run Tryd.prog Z.drew = .ok ol.toArray Z.drew := by
    rw [← hn19.out, ← hoL]
    exact run_loadCells_list (P := Tryd.prog) _ ⟨G3, 0, none⟩ ol (fun j v hv => by rw [Addr.add_mid]; exact hZr j v hv)
  have hbs : ∀ w, (Instr.buildSlice 26 1 #[(0, .agg ol.toArray)]).run Tryd.prog w = .ok (.slice (some ⟨w.heap.size, 0, none⟩) 1 1) (w.alloc (.cells ol.toArray 43)) := fun w => by rw [← hol.out]; kernel_rfl
  obtain ⟨V, hV⟩ : ∃ V, V = (Z.alloc (.cells ol.toArray 43)).drew := ⟨_, rfl⟩
  have hVn : V.heap.size = Z.heap.size + 1 := by rw [hV]; exact World.size_alloc _ _
  have hlV : Later Z V := by rw [hV]; exact ((Later.refl Z).alloc _).drew
  have hnew : V.heap[Z.heap.size]? = some (.cells ol.toArray 43 (0, 0)) := by rw [hV]; exact heap_alloc_new _ _
  obtain ⟨i37, hi37, hi1, hi2, z37, hz37, hz19⟩ : ∃ i, Tryd.prog.info? 43 = some i ∧ i.size = 19 ∧ Builtin.nextslicecap 2 1 * i.bytes ≤ 281474976710656 ∧ ∃ z, i.zero = some z ∧ z.cells.size = 19 := ⟨_, rfl, by kernel_rfl, by decide, _, rfl, by kernel_rfl⟩
  have hap := run_append_grow (P := Tryd.prog) V 26 26 43 i37 z37 Tryd.underlying26 hi37 hz37 ⟨G3, 0, none⟩ 1 1 ol (by rw [hi1, hoL]) (fun j v hv => by rw [Addr.add_mid]; exact hlV.cell (hZr j v hv)) ⟨Z.heap.size, 0, none⟩ 1 1 ol (by rw [hi1, hoL])
    (fun j v hv => by rw [Addr.add_mid]; exact row_range hnew j v hv) (by omega) (by omega) hi2
  have hcap := grownCap_ge V (1 + 1) 1 43
  obtain ⟨cp, hcp⟩ : ∃ cp, grownCap V (1 + 1) 1 43 = cp := ⟨_, rfl⟩
  rw [hcp] at hap hcap
  obtain ⟨VV, hVV⟩ : ∃ VV, VV = V.drew.alloc (.cells (ol.toArray ++ ol.toArray ++ Builtin.zeroCells z37.cells (cp - (1 + 1))) 43) := ⟨_, rfl⟩
  rw [← hVV, hVn] at hap
  have hl2 : Later V VV := by rw [hVV]; exact (Later.refl V).drew.alloc _
  have kN : VV.heap[Z.heap.size + 1]? = some (.cells (ol.toArray ++ ol.toArray ++ Builtin.zeroCells z37.cells (cp - (1 + 1))) 43 (0, 0)) := by rw [hVV]; exact push_new _ _ hVn
  have zC2 := hl2.row (hlV.row zC)
  have c18 : Z.cell? ⟨P + 1 + 1, 18, none⟩ = some (.slice (some ⟨G3, 0, none⟩) 1 1) := zC.uo
  have c18b : V.cell? ⟨P + 1 + 1, 18, none⟩ = some (.slice (some ⟨G3, 0, none⟩) 1 1) := hlV.cell c18
  have c18c : VV.cell? ⟨P + 1 + 1, 18, none⟩ = some (.slice (some ⟨G3, 0, none⟩) 1 1) := ScnB.uo zC2
  have f18 := frozen_r zC2 18
  replace hi37 := Lib.hid hi37
  replace hcap := Lib.hid hcap
  clear hcp hVV hVn hnew hi1 hi2 hz37 hz19 hoL
  rw [hV] at hap c18b
  clear hV
  replace kN := Lib.hid kN
  replace zC2 := Lib.hid zC2
  go_region
  obtain ⟨U, hU⟩ : ∃ U, U = VV.setCell ⟨P + 1 + 1, 18, none⟩ (.slice (some ⟨Z.heap.size + 1, 0, none⟩) 2 cp) := ⟨_, rfl⟩
  have hlZ2 := hlV.trans hl2
  have y1 : ScnB U P (oneAt 65 7 G1 V1 T1) := by rw [hU]; exact (Below.heap_setCell _ _ _ _ (by show P ≠ P + 1 + 1; omega)).trans (hlZ2.row zA)
  have y2 : ScnB U (P + 1) (oneAt 4 0 G2 V2 T2) := by rw [hU]; exact (Below.heap_setCell _ _ _ _ (by show P + 1 ≠ P + 1 + 1; omega)).trans (hlZ2.row zB)
  have y3 : ScnB U (P + 1 + 1) (oneScn 4 (.slice (some ⟨Z.heap.size + 1, 0, none⟩) 2 cp) [oneObj 7 (.slice (some ⟨V3, 0, none⟩) 3 3) (.slice (some ⟨T3, 0, none⟩) 1 1), oneObj 7 (.slice (some ⟨V3, 0, none⟩) 3 3) (.slice (some ⟨T3, 0, none⟩) 1 1)]) := by rw [hU]; exact heap_setC zC2.out
  have x1 : OneB U 7 G1 V1 T1 := by rw [hU]; exact (z1.later hlZ2).set (cells_ty (z1.later hlZ2).obj zC2.out (by decide)) ((z1.later hlZ2).neV zC2.out) ((z1.later hlZ2).neT zC2.out) _ _
  have x2 : OneB U 0 G2 V2 T2 := by rw [hU]; exact (z2.later hlZ2).set (cells_ty (z2.later hlZ2).obj zC2.out (by decide)) ((z2.later hlZ2).neV zC2.out) ((z2.later hlZ2).neT zC2.out) _ _
  have x3 : OneB U 7 G3 V3 T3 := by rw [hU]; exact (z3.later hlZ2).set (cells_ty (z3.later hlZ2).obj zC2.out (by decide)) ((z3.later hlZ2).neV zC2.out) ((z3.later hlZ2).neT zC2.out) _ _
  have x4 : (oneScn 4 (.slice (some ⟨Z.heap.size + 1, 0, none⟩) 2 cp) [oneObj 7 (.slice (some ⟨V3, 0, none⟩) 3 3) (.slice (some ⟨T3, 0, none⟩) 1 1), oneObj 7 (.slice (some ⟨V3, 0, none⟩) 3 3) (.slice (some ⟨T3, 0, none⟩) 1 1)]).Ok U := by
    refine two_ok x3.sub hcap.out ?_ (z := Builtin.zeroCells z37.cells (cp - (1 + 1)))
    rw [hol.out, hU]
    exact (Below.heap_setCell _ _ _ _ (by have := hPZ.out; show Z.heap.size + 1 ≠ P + 1 + 1; omega)).trans kN.out
  have hlU : Hid (Later W U) := Lib.hid (by rw [hU]; exact (hlZ.out.trans hlZ2).setCell (p := ⟨P + 1 + 1, 18, none⟩) (by have := hWP.out; show W.heap.size ≤ P + 1 + 1; omega) _)
  rw [← hU]
  clear hU hap c18 c18b c18c f18 zA zB zC zC2 z1 z2 z3 hlZ2 hlV hl2 kN hlc hbs hsz19 hZr
  go_wp2_with fail
  refine (hO.out _).mono ?_
  rintro e u1 ⟨G5, V5, T5, rfl, hl5, -, -, -, hb5⟩
  go_wp2_with fail
  refine (is_yes (oneAt 4 7 G5 V5 T5) (some_right _ _ _) u1 hb5.ok).mono ?_
  rintro e u2 ⟨rfl, hl6⟩
  have q1 := (hl5.trans hl6).row y1
  go_wp2_with (refine wpList_load_row_w rfl _ _ rfl P rfl _ _ (0, 0) _ q1 Tryd.underlying28 rfl (size_scn' _) ?_)
  refine (is_yes (oneAt 65 7 G1 V1 T1) (some_wide _ _) u2 (x1.later (hl5.trans hl6)).ok).mono ?_
  rintro e u3 ⟨rfl, hl7⟩
  have q2 := ((hl5.trans hl6).trans hl7).row y2
  clear q1
  go_wp2_with (refine wpList_load_row_w rfl _ _ rfl (P + 1) rfl _ _ (0, 0) _ q2 Tryd.underlying28 rfl (size_scn' _) ?_)
  refine (is_yes (oneAt 4 0 G2 V2 T2) (some_zero _ _ _) u3 (x2.later ((hl5.trans hl6).trans hl7)).ok).mono ?_
  rintro e u4 ⟨rfl, hl8⟩
  have q3 := (((hl5.trans hl6).trans hl7).trans hl8).row y3
  clear q2
  go_wp2_with (refine wpList_load_row_w rfl _ _ rfl (P + 1 + 1) rfl _ _ (0, 0) _ q3 Tryd.underlying28 rfl (size_scn' _) ?_)
  refine (is_yes _ (some_two _ _ _) u4 (x4.later (((hl5.trans hl6).trans hl7).trans hl8))).mono ?_
  rintro e u5 ⟨rfl, hl9⟩
  go_wp2_with fail
  go_ret
  exact ⟨rfl, hlU.out.trans ((((hl5.trans hl6).trans hl7).trans hl8).trans hl9)⟩
end Go.Proofs.YtackbajbladhhaaDoor
