/-
  Chapter 6's law SceneNames: its walk.
-/
import Derived.Test.YtackbajbladhhaaDoorSdG
import Derived.Test.YtackbajbladhhaaDoorSdE
namespace Go.Proofs.YtackbajbladhhaaDoor
open Go.RowKit Go.Shelf
set_option linter.unusedVariables false
set_option linter.unusedSimpArgs false
attribute [local go_sem] Oper.semAt_some

/-- A scene of one object in memory: its four blocks, and where the three that some() made lie. -/
structure One (w : World) (lo hi P G V T : Nat) (s : Scn) (x : SObj) (vl tl : List Value) : Prop where
  scn : ScnB w P s
  obj : ObjB w G x
  vs : w.heap[V]? = some (.cells vl.toArray 45 (0, 0))
  ts : w.heap[T]? = some (.cells tl.toArray 39 (0, 0))
  g : lo ≤ G ∧ G < hi
  v : lo ≤ V ∧ V < hi
  t : lo ≤ T ∧ T < hi
section
variable {w w' : World} {lo hi P G V T : Nat} {s s' : Scn} {x x' : SObj} {vl tl vl' tl' : List Value}
theorem One.far (h : One w lo hi P G V T s x vl tl) {b : Nat} (hw : ∀ j, j ≠ b → w'.heap[j]? = w.heap[j]?) (hP : P ≠ b) (hb : b < lo ∨ hi ≤ b) : One w' lo hi P G V T s x vl tl :=
  ⟨(hw _ hP).trans h.scn, (hw _ (by have := h.g; omega)).trans h.obj, (hw _ (by have := h.v; omega)).trans h.vs, (hw _ (by have := h.t; omega)).trans h.ts, h.g, h.v, h.t⟩
theorem One.later (h : One w lo hi P G V T s x vl tl) (hl : Later w w') : One w' lo hi P G V T s x vl tl := ⟨hl.row h.scn, hl.row h.obj, hl.row h.vs, hl.row h.ts, h.g, h.v, h.t⟩
theorem One.setT (h : One w lo hi P G V T s x vl tl) {o : Nat} {u : Value} (he : tl.toArray.setIfInBounds o u = tl'.toArray) : One (w.setCell ⟨T, o, none⟩ u) lo hi P G V T s x vl tl' :=
  ⟨(Below.heap_setCell _ _ _ _ (cells_ty h.scn h.ts (by decide))).trans h.scn, (Below.heap_setCell _ _ _ _ (cells_ty h.obj h.ts (by decide))).trans h.obj, (Below.heap_setCell _ _ _ _ (cells_ty h.vs h.ts (by decide))).trans h.vs, by rw [← he]; exact heap_setC h.ts, h.g, h.v, h.t⟩
theorem One.setV (h : One w lo hi P G V T s x vl tl) {o : Nat} {u : Value} (he : vl.toArray.setIfInBounds o u = vl'.toArray) : One (w.setCell ⟨V, o, none⟩ u) lo hi P G V T s x vl' tl :=
  ⟨(Below.heap_setCell _ _ _ _ (cells_ty h.scn h.vs (by decide))).trans h.scn, (Below.heap_setCell _ _ _ _ (cells_ty h.obj h.vs (by decide))).trans h.obj, by rw [← he]; exact heap_setC h.vs, (Below.heap_setCell _ _ _ _ (cells_ty h.ts h.vs (by decide))).trans h.ts, h.g, h.v, h.t⟩
theorem One.setG (h : One w lo hi P G V T s x vl tl) {o : Nat} {us : List Value} (he : setMany x.row.toArray o us = x'.row.toArray) : One (w.setCells G o us) lo hi P G V T s x' vl tl :=
  ⟨(heap_setCells_ne (cells_ty h.scn h.obj (by decide)) _ _ _).trans h.scn, by unfold ObjB; rw [← he]; exact heap_setCells _ _ _ _ h.obj, (heap_setCells_ne (cells_ty h.vs h.obj (by decide)) _ _ _).trans h.vs, (heap_setCells_ne (cells_ty h.ts h.obj (by decide)) _ _ _).trans h.ts, h.g, h.v, h.t⟩
theorem One.setP (h : One w lo hi P G V T s x vl tl) {o : Nat} {us : List Value} (he : setMany s.row.toArray o us = s'.row.toArray) : One (w.setCells P o us) lo hi P G V T s' x vl tl :=
  ⟨by unfold ScnB; rw [← he]; exact heap_setCells _ _ _ _ h.scn, (heap_setCells_ne (cells_ty h.obj h.scn (by decide)) _ _ _).trans h.obj, (heap_setCells_ne (cells_ty h.vs h.scn (by decide)) _ _ _).trans h.vs, (heap_setCells_ne (cells_ty h.ts h.scn (by decide)) _ _ _).trans h.ts, h.g, h.v, h.t⟩
end
def vz : List Value := (z3.map vrow).flatten
def vf : List Value := (([(0, 0, 0), (0, 0, 0), (0, 1073741825, 0)] : List V3).map vrow).flatten
def tz : List Value := (([(0, 1, 2, 0)] : List T4).map trow).flatten
def ta : List Value := (([(0, 1, 3, 0)] : List T4).map trow).flatten
abbrev sl (n b : Nat) : Value := .slice (some ⟨b, 0, none⟩) n n
abbrev obZ (m : Nat → Int) (V T : Nat) : SObj := objX m (sl 3 V) z3 (sl 1 T) [(0, 1, 2, 0)]
abbrev scZ (cam : Nat → Int) (G : Nat) (x : SObj) : Scn := scnX cam (sl 1 G) [x]
/-- An object of zeros. -/
def ob0 : SObj := { id := 0, m := fun _ => 0, uv := .slice none 0 0, vs := [], ut := .slice none 0 0, ts := [] }
theorem rows_nil (n : Nat) (w : World) : RowsV n w (.slice none 0 0) [] := ⟨none, 0, rfl, ⟨by simp, fun _ => rfl⟩, fun k x hx => by simp at hx⟩
theorem ob0_ok (w : World) : ob0.Ok w := ⟨rows_nil 3 w, rows_nil 4 w⟩
def rows17 : List Value := ((List.replicate 17 ob0).map SObj.row).flatten
def rows65 : List Value := ((List.replicate 65 ((0, 0, 0) : V3)).map vrow).flatten
theorem make_17 (w : World) : (Instr.makeSlice 26 (.int .i64 17) (.int .i64 17)).run Tryd.prog w = .ok (.slice (some ⟨w.heap.size, 0, none⟩) 17 17) (w.alloc (.cells rows17.toArray 43)) := by kernel_rfl
theorem make_65 (w : World) : (Instr.makeSlice 40 (.int .i64 65) (.int .i64 65)).run Tryd.prog w = .ok (.slice (some ⟨w.heap.size, 0, none⟩) 65 65) (w.alloc (.cells rows65.toArray 45)) := by kernel_rfl
theorem d_ok {w : World} {D : Nat} (h : w.heap[D]? = some (.cells rows17.toArray 43 (0, 0))) : (scnX idQ (sl 17 D) (List.replicate 17 ob0)).Ok w :=
  ⟨rows_flat (by intro l hl; obtain ⟨v, _, rfl⟩ := List.mem_map.1 hl; exact SObj.row_length v) (by rw [List.length_map]; rfl) h, fun x hx => by
    obtain rfl : x = ob0 := by
      have : x ∈ List.replicate 17 ob0 := hx
      exact List.eq_of_mem_replicate this
    exact ob0_ok w⟩
theorem set_cam (f g : Nat → Int) (uo : Value) (os : List SObj) : setMany (scnX f uo os).row.toArray 2 (rowV 16 g).toList = (scnX g uo os).row.toArray := by kernel_rfl
theorem set_mat (f g : Nat → Int) (uv ut : Value) (vs : List V3) (ts : List T4) : setMany (objX f uv vs ut ts).row.toArray 1 (rowV 16 g).toList = (objX g uv vs ut ts).row.toArray := by kernel_rfl
theorem set_c6 (uo : Value) (os : List SObj) : setMany (scnX idQ uo os).row.toArray 8 [.int .i64 16777217] = (scnX camC uo os).row.toArray := by kernel_rfl
theorem set_e15 (uv ut : Value) (vs : List V3) (ts : List T4) : setMany (objX idQ uv vs ut ts).row.toArray 16 [.int .i64 (-16777217)] = (objX matE uv vs ut ts).row.toArray := by kernel_rfl
theorem set_uo (cam : Nat → Int) (uo uo' : Value) (os os' : List SObj) : (scnX cam uo os).row.toArray.setIfInBounds 18 uo' = (scnX cam uo' os').row.toArray := by kernel_rfl
theorem set_uv (m : Nat → Int) (uv uv' ut : Value) (vs vs' : List V3) (ts : List T4) : (objX m uv vs ut ts).row.toArray.setIfInBounds 17 uv' = (objX m uv' vs' ut ts).row.toArray := by kernel_rfl
theorem set_ta : tz.toArray.setIfInBounds 2 (.int .i64 3) = ta.toArray := by kernel_rfl
theorem set_vf : vz.toArray.setIfInBounds 7 (.int .i64 1073741825) = vf.toArray := by kernel_rfl
theorem setC1 (w : World) (M o : Nat) (u : Value) : w.setCells M o [u] = w.setCell ⟨M, o, none⟩ u := rfl

set_option maxRecDepth 100000 in
set_option maxHeartbeats 4000000 in
theorem names_any (W : World) (hN : NamesAt W) :
    Calls Tryd.prog 4 #[] W fun e w' => e = .returned (.bool true) ∧ Later W w' := by
  have hO := Lib.hid (fun W => some_new W)
  obtain ⟨q, hq⟩ : ∃ q, Hid (greatQ = q) := ⟨_, rfl⟩
  have hI : Hid (∀ W : World, Calls Tryd.prog 13 #[.int .i64 16777216, .int .i64 16777216, .int .i64 16777216] W fun e w' => e = .returned (matV q) ∧ Later W w') := Lib.hid (fun W => by rw [← hq.out]; exact scale_any _ _ _ W)
  go_enter Tryd.func4, Tryd.ntmps4

  go_wp2_with fail
  refine (hO.out _).mono ?_
  rintro e w1 ⟨G1, V1, T1, rfl, hl1, ⟨hG1, hgV1, hgT1⟩, hV1, hT1, hb1⟩
  obtain ⟨r1, hr1⟩ : ∃ r, Hid ((oneAt 4 7 G1 V1 T1).row.toArray = r) := ⟨_, rfl⟩
  simp only [Scn.V]
  rw [hr1.out]
  go_wp2_with fail
  refine (hO.out _).mono ?_
  rintro e w2 ⟨G2, V2, T2, rfl, hl2, ⟨hG2, hgV2, hgT2⟩, hV2, hT2, hb2⟩
  obtain ⟨r2, hr2⟩ : ∃ r, Hid ((oneAt 4 7 G2 V2 T2).row.toArray = r) := ⟨_, rfl⟩
  simp only [Scn.V]
  rw [hr2.out]
  go_wp2_with fail
  refine (hO.out _).mono ?_
  rintro e w3 ⟨G3, V3, T3, rfl, hl3, ⟨hG3, hgV3, hgT3⟩, hV3, hT3, hb3⟩
  obtain ⟨r3, hr3⟩ : ∃ r, Hid ((oneAt 4 7 G3 V3 T3).row.toArray = r) := ⟨_, rfl⟩
  simp only [Scn.V]
  rw [hr3.out]
  go_wp2_with fail
  refine (hO.out _).mono ?_
  rintro e w4 ⟨G4, V4, T4, rfl, hl4, ⟨hG4, hgV4, hgT4⟩, hV4, hT4, hb4⟩
  obtain ⟨r4, hr4⟩ : ∃ r, Hid ((oneAt 4 7 G4 V4 T4).row.toArray = r) := ⟨_, rfl⟩
  simp only [Scn.V]
  rw [hr4.out]
  go_wp2_with fail
  refine (hO.out _).mono ?_
  rintro e w5 ⟨G5, V5, T5, rfl, hl5, ⟨hG5, hgV5, hgT5⟩, hV5, hT5, hb5⟩
  obtain ⟨r5, hr5⟩ : ∃ r, Hid ((oneAt 4 7 G5 V5 T5).row.toArray = r) := ⟨_, rfl⟩
  simp only [Scn.V]
  rw [hr5.out]
  go_wp2_with fail
  refine (hO.out _).mono ?_
  rintro e w6 ⟨G6, V6, T6, rfl, hl6, ⟨hG6, hgV6, hgT6⟩, hV6, hT6, hb6⟩
  obtain ⟨r6, hr6⟩ : ∃ r, Hid ((oneAt 4 7 G6 V6 T6).row.toArray = r) := ⟨_, rfl⟩
  simp only [Scn.V]
  rw [hr6.out]
  go_wp2_with fail
  refine (hO.out _).mono ?_
  rintro e w7 ⟨G7, V7, T7, rfl, hl7, ⟨hG7, hgV7, hgT7⟩, hV7, hT7, hb7⟩
  obtain ⟨r7, hr7⟩ : ∃ r, Hid ((oneAt 4 7 G7 V7 T7).row.toArray = r) := ⟨_, rfl⟩
  simp only [Scn.V]
  rw [hr7.out]
  have hz1 := Lib.hid (show (#[.int .i64 0, .int .i64 0, .int .i64 0, .int .i64 0, .int .i64 0, .int .i64 0, .int .i64 0, .int .i64 0, .int .i64 0, .int .i64 0, .int .i64 0, .int .i64 0, .int .i64 0, .int .i64 0, .int .i64 0, .int .i64 0, .int .i64 0, .int .i64 0, .slice none 0 0] : Array Value).size = r1.size by rw [← hr1.out]; rfl)
  have ho1 := Lib.hid (show r1.all (·.oneCell') = true by rw [← hr1.out]; exact scn_one _ rfl)
  have hz2 := Lib.hid (show (#[.int .i64 0, .int .i64 0, .int .i64 0, .int .i64 0, .int .i64 0, .int .i64 0, .int .i64 0, .int .i64 0, .int .i64 0, .int .i64 0, .int .i64 0, .int .i64 0, .int .i64 0, .int .i64 0, .int .i64 0, .int .i64 0, .int .i64 0, .int .i64 0, .slice none 0 0] : Array Value).size = r2.size by rw [← hr2.out]; rfl)
  have ho2 := Lib.hid (show r2.all (·.oneCell') = true by rw [← hr2.out]; exact scn_one _ rfl)
  have hz3 := Lib.hid (show (#[.int .i64 0, .int .i64 0, .int .i64 0, .int .i64 0, .int .i64 0, .int .i64 0, .int .i64 0, .int .i64 0, .int .i64 0, .int .i64 0, .int .i64 0, .int .i64 0, .int .i64 0, .int .i64 0, .int .i64 0, .int .i64 0, .int .i64 0, .int .i64 0, .slice none 0 0] : Array Value).size = r3.size by rw [← hr3.out]; rfl)
  have ho3 := Lib.hid (show r3.all (·.oneCell') = true by rw [← hr3.out]; exact scn_one _ rfl)
  have hz4 := Lib.hid (show (#[.int .i64 0, .int .i64 0, .int .i64 0, .int .i64 0, .int .i64 0, .int .i64 0, .int .i64 0, .int .i64 0, .int .i64 0, .int .i64 0, .int .i64 0, .int .i64 0, .int .i64 0, .int .i64 0, .int .i64 0, .int .i64 0, .int .i64 0, .int .i64 0, .slice none 0 0] : Array Value).size = r4.size by rw [← hr4.out]; rfl)
  have ho4 := Lib.hid (show r4.all (·.oneCell') = true by rw [← hr4.out]; exact scn_one _ rfl)
  have hz5 := Lib.hid (show (#[.int .i64 0, .int .i64 0, .int .i64 0, .int .i64 0, .int .i64 0, .int .i64 0, .int .i64 0, .int .i64 0, .int .i64 0, .int .i64 0, .int .i64 0, .int .i64 0, .int .i64 0, .int .i64 0, .int .i64 0, .int .i64 0, .int .i64 0, .int .i64 0, .slice none 0 0] : Array Value).size = r5.size by rw [← hr5.out]; rfl)
  have ho5 := Lib.hid (show r5.all (·.oneCell') = true by rw [← hr5.out]; exact scn_one _ rfl)
  have hz6 := Lib.hid (show (#[.int .i64 0, .int .i64 0, .int .i64 0, .int .i64 0, .int .i64 0, .int .i64 0, .int .i64 0, .int .i64 0, .int .i64 0, .int .i64 0, .int .i64 0, .int .i64 0, .int .i64 0, .int .i64 0, .int .i64 0, .int .i64 0, .int .i64 0, .int .i64 0, .slice none 0 0] : Array Value).size = r6.size by rw [← hr6.out]; rfl)
  have ho6 := Lib.hid (show r6.all (·.oneCell') = true by rw [← hr6.out]; exact scn_one _ rfl)
  have hz7 := Lib.hid (show (#[.int .i64 0, .int .i64 0, .int .i64 0, .int .i64 0, .int .i64 0, .int .i64 0, .int .i64 0, .int .i64 0, .int .i64 0, .int .i64 0, .int .i64 0, .int .i64 0, .int .i64 0, .int .i64 0, .int .i64 0, .int .i64 0, .int .i64 0, .int .i64 0, .slice none 0 0] : Array Value).size = r7.size by rw [← hr7.out]; rfl)
  have ho7 := Lib.hid (show r7.all (·.oneCell') = true by rw [← hr7.out]; exact scn_one _ rfl)
  obtain ⟨X, hX⟩ : ∃ X, X = ((((((w7.alloc (.cells #[.int .i64 0, .int .i64 0, .int .i64 0, .int .i64 0, .int .i64 0, .int .i64 0, .int .i64 0, .int .i64 0, .int .i64 0, .int .i64 0, .int .i64 0, .int .i64 0, .int .i64 0, .int .i64 0, .int .i64 0, .int .i64 0, .int .i64 0, .int .i64 0, .slice none 0 0] 28)).alloc (.cells #[.int .i64 0, .int .i64 0, .int .i64 0, .int .i64 0, .int .i64 0, .int .i64 0, .int .i64 0, .int .i64 0, .int .i64 0, .int .i64 0, .int .i64 0, .int .i64 0, .int .i64 0, .int .i64 0, .int .i64 0, .int .i64 0, .int .i64 0, .int .i64 0, .slice none 0 0] 28)).alloc (.cells #[.int .i64 0, .int .i64 0, .int .i64 0, .int .i64 0, .int .i64 0, .int .i64 0, .int .i64 0, .int .i64 0, .int .i64 0, .int .i64 0, .int .i64 0, .int .i64 0, .int .i64 0, .int .i64 0, .int .i64 0, .int .i64 0, .int .i64 0, .int .i64 0, .slice none 0 0] 28)).alloc (.cells #[.int .i64 0, .int .i64 0, .int .i64 0, .int .i64 0, .int .i64 0, .int .i64 0, .int .i64 0, .int .i64 0, .int .i64 0, .int .i64 0, .int .i64 0, .int .i64 0, .int .i64 0, .int .i64 0, .int .i64 0, .int .i64 0, .int .i64 0, .int .i64 0, .slice none 0 0] 28)).alloc (.cells #[.int .i64 0, .int .i64 0, .int .i64 0, .int .i64 0, .int .i64 0, .int .i64 0, .int .i64 0, .int .i64 0, .int .i64 0, .int .i64 0, .int .i64 0, .int .i64 0, .int .i64 0, .int .i64 0, .int .i64 0, .int .i64 0, .int .i64 0, .int .i64 0, .slice none 0 0] 28)).alloc (.cells #[.int .i64 0, .int .i64 0, .int .i64 0, .int .i64 0, .int .i64 0, .int .i64 0, .int .i64 0, .int .i64 0, .int .i64 0, .int .i64 0, .int .i64 0, .int .i64 0, .int .i64 0, .int .i64 0, .int .i64 0, .int .i64 0, .int .i64 0, .int .i64 0, .slice none 0 0] 28)).alloc (.cells #[.int .i64 0, .int .i64 0, .int .i64 0, .int .i64 0, .int .i64 0, .int .i64 0, .int .i64 0, .int .i64 0, .int .i64 0, .int .i64 0, .int .i64 0, .int .i64 0, .int .i64 0, .int .i64 0, .int .i64 0, .int .i64 0, .int .i64 0, .int .i64 0, .slice none 0 0] 28) := ⟨_, rfl⟩
  have n1 : X.heap[w7.heap.size]? = some (.cells #[.int .i64 0, .int .i64 0, .int .i64 0, .int .i64 0, .int .i64 0, .int .i64 0, .int .i64 0, .int .i64 0, .int .i64 0, .int .i64 0, .int .i64 0, .int .i64 0, .int .i64 0, .int .i64 0, .int .i64 0, .int .i64 0, .int .i64 0, .int .i64 0, .slice none 0 0] 28 (0, 0)) := by rw [hX]; exact push_one (push_one (push_one (push_one (push_one (push_one (heap_alloc_new _ _) _) _) _) _) _) _
  have n2 : X.heap[w7.heap.size + 1]? = some (.cells #[.int .i64 0, .int .i64 0, .int .i64 0, .int .i64 0, .int .i64 0, .int .i64 0, .int .i64 0, .int .i64 0, .int .i64 0, .int .i64 0, .int .i64 0, .int .i64 0, .int .i64 0, .int .i64 0, .int .i64 0, .int .i64 0, .int .i64 0, .int .i64 0, .slice none 0 0] 28 (0, 0)) := by rw [hX]; exact push_one (push_one (push_one (push_one (push_one (push_new _ _ (by simp only [World.size_alloc])) _) _) _) _) _
  have n3 : X.heap[w7.heap.size + 1 + 1]? = some (.cells #[.int .i64 0, .int .i64 0, .int .i64 0, .int .i64 0, .int .i64 0, .int .i64 0, .int .i64 0, .int .i64 0, .int .i64 0, .int .i64 0, .int .i64 0, .int .i64 0, .int .i64 0, .int .i64 0, .int .i64 0, .int .i64 0, .int .i64 0, .int .i64 0, .slice none 0 0] 28 (0, 0)) := by rw [hX]; exact push_one (push_one (push_one (push_one (push_new _ _ (by simp only [World.size_alloc])) _) _) _) _
  have n4 : X.heap[w7.heap.size + 1 + 1 + 1]? = some (.cells #[.int .i64 0, .int .i64 0, .int .i64 0, .int .i64 0, .int .i64 0, .int .i64 0, .int .i64 0, .int .i64 0, .int .i64 0, .int .i64 0, .int .i64 0, .int .i64 0, .int .i64 0, .int .i64 0, .int .i64 0, .int .i64 0, .int .i64 0, .int .i64 0, .slice none 0 0] 28 (0, 0)) := by rw [hX]; exact push_one (push_one (push_one (push_new _ _ (by simp only [World.size_alloc])) _) _) _
  have n5 : X.heap[w7.heap.size + 1 + 1 + 1 + 1]? = some (.cells #[.int .i64 0, .int .i64 0, .int .i64 0, .int .i64 0, .int .i64 0, .int .i64 0, .int .i64 0, .int .i64 0, .int .i64 0, .int .i64 0, .int .i64 0, .int .i64 0, .int .i64 0, .int .i64 0, .int .i64 0, .int .i64 0, .int .i64 0, .int .i64 0, .slice none 0 0] 28 (0, 0)) := by rw [hX]; exact push_one (push_one (push_new _ _ (by simp only [World.size_alloc])) _) _
  have n6 : X.heap[w7.heap.size + 1 + 1 + 1 + 1 + 1]? = some (.cells #[.int .i64 0, .int .i64 0, .int .i64 0, .int .i64 0, .int .i64 0, .int .i64 0, .int .i64 0, .int .i64 0, .int .i64 0, .int .i64 0, .int .i64 0, .int .i64 0, .int .i64 0, .int .i64 0, .int .i64 0, .int .i64 0, .int .i64 0, .int .i64 0, .slice none 0 0] 28 (0, 0)) := by rw [hX]; exact push_one (push_new _ _ (by simp only [World.size_alloc])) _
  have n7 : X.heap[w7.heap.size + 1 + 1 + 1 + 1 + 1 + 1]? = some (.cells #[.int .i64 0, .int .i64 0, .int .i64 0, .int .i64 0, .int .i64 0, .int .i64 0, .int .i64 0, .int .i64 0, .int .i64 0, .int .i64 0, .int .i64 0, .int .i64 0, .int .i64 0, .int .i64 0, .int .i64 0, .int .i64 0, .int .i64 0, .int .i64 0, .slice none 0 0] 28 (0, 0)) := by rw [hX]; exact push_new _ _ (by simp only [World.size_alloc])
  have hlX : Later w7 X := by rw [hX]; exact ((((((((Later.refl w7).alloc _).alloc _).alloc _).alloc _).alloc _).alloc _).alloc _)
  have q1 := store_row (Z := X) n1 hz1.out ho1.out
  have q2 := store_row (Z := (X.setRow (w7.heap.size) r1)) ((setRow_other _ _ _ _ (by omega)).trans n2) hz2.out ho2.out
  have q3 := store_row (Z := ((X.setRow (w7.heap.size) r1).setRow (w7.heap.size + 1) r2)) ((setRow_other _ _ _ _ (by omega)).trans ((setRow_other _ _ _ _ (by omega)).trans n3)) hz3.out ho3.out
  have q4 := store_row (Z := (((X.setRow (w7.heap.size) r1).setRow (w7.heap.size + 1) r2).setRow (w7.heap.size + 1 + 1) r3)) ((setRow_other _ _ _ _ (by omega)).trans ((setRow_other _ _ _ _ (by omega)).trans ((setRow_other _ _ _ _ (by omega)).trans n4))) hz4.out ho4.out
  have q5 := store_row (Z := ((((X.setRow (w7.heap.size) r1).setRow (w7.heap.size + 1) r2).setRow (w7.heap.size + 1 + 1) r3).setRow (w7.heap.size + 1 + 1 + 1) r4)) ((setRow_other _ _ _ _ (by omega)).trans ((setRow_other _ _ _ _ (by omega)).trans ((setRow_other _ _ _ _ (by omega)).trans ((setRow_other _ _ _ _ (by omega)).trans n5)))) hz5.out ho5.out
  have q6 := store_row (Z := (((((X.setRow (w7.heap.size) r1).setRow (w7.heap.size + 1) r2).setRow (w7.heap.size + 1 + 1) r3).setRow (w7.heap.size + 1 + 1 + 1) r4).setRow (w7.heap.size + 1 + 1 + 1 + 1) r5)) ((setRow_other _ _ _ _ (by omega)).trans ((setRow_other _ _ _ _ (by omega)).trans ((setRow_other _ _ _ _ (by omega)).trans ((setRow_other _ _ _ _ (by omega)).trans ((setRow_other _ _ _ _ (by omega)).trans n6))))) hz6.out ho6.out
  have q7 := store_row (Z := ((((((X.setRow (w7.heap.size) r1).setRow (w7.heap.size + 1) r2).setRow (w7.heap.size + 1 + 1) r3).setRow (w7.heap.size + 1 + 1 + 1) r4).setRow (w7.heap.size + 1 + 1 + 1 + 1) r5).setRow (w7.heap.size + 1 + 1 + 1 + 1 + 1) r6)) ((setRow_other _ _ _ _ (by omega)).trans ((setRow_other _ _ _ _ (by omega)).trans ((setRow_other _ _ _ _ (by omega)).trans ((setRow_other _ _ _ _ (by omega)).trans ((setRow_other _ _ _ _ (by omega)).trans ((setRow_other _ _ _ _ (by omega)).trans n7)))))) hz7.out ho7.out
  have e1 : r1.size = 19 := hz1.out.symm
  have e2 : r2.size = 19 := hz2.out.symm
  have e3 : r3.size = 19 := hz3.out.symm
  have e4 : r4.size = 19 := hz4.out.symm
  have e5 : r5.size = 19 := hz5.out.symm
  have e6 : r6.size = 19 := hz6.out.symm
  have e7 : r7.size = 19 := hz7.out.symm
  have k1 : ScnB (((((((X.setRow (w7.heap.size) r1).setRow (w7.heap.size + 1) r2).setRow (w7.heap.size + 1 + 1) r3).setRow (w7.heap.size + 1 + 1 + 1) r4).setRow (w7.heap.size + 1 + 1 + 1 + 1) r5).setRow (w7.heap.size + 1 + 1 + 1 + 1 + 1) r6).setRow (w7.heap.size + 1 + 1 + 1 + 1 + 1 + 1) r7) (w7.heap.size) (scZ idQ G1 (obZ idQ V1 T1)) := by
    show _ = some (Obj.cells (oneAt 4 7 G1 V1 T1).row.toArray 28 (0, 0))
    rw [hr1.out, setRow_other _ _ _ _ (by omega), setRow_other _ _ _ _ (by omega), setRow_other _ _ _ _ (by omega), setRow_other _ _ _ _ (by omega), setRow_other _ _ _ _ (by omega), setRow_other _ _ _ _ (by omega)]; exact setRow_heap _ _ _ _ _ _ n1
  have k2 : ScnB (((((((X.setRow (w7.heap.size) r1).setRow (w7.heap.size + 1) r2).setRow (w7.heap.size + 1 + 1) r3).setRow (w7.heap.size + 1 + 1 + 1) r4).setRow (w7.heap.size + 1 + 1 + 1 + 1) r5).setRow (w7.heap.size + 1 + 1 + 1 + 1 + 1) r6).setRow (w7.heap.size + 1 + 1 + 1 + 1 + 1 + 1) r7) (w7.heap.size + 1) (scZ idQ G2 (obZ idQ V2 T2)) := by
    show _ = some (Obj.cells (oneAt 4 7 G2 V2 T2).row.toArray 28 (0, 0))
    rw [hr2.out, setRow_other _ _ _ _ (by omega), setRow_other _ _ _ _ (by omega), setRow_other _ _ _ _ (by omega), setRow_other _ _ _ _ (by omega), setRow_other _ _ _ _ (by omega)]; exact setRow_heap _ _ _ _ _ _ ((setRow_other _ _ _ _ (by omega)).trans n2)
  have k3 : ScnB (((((((X.setRow (w7.heap.size) r1).setRow (w7.heap.size + 1) r2).setRow (w7.heap.size + 1 + 1) r3).setRow (w7.heap.size + 1 + 1 + 1) r4).setRow (w7.heap.size + 1 + 1 + 1 + 1) r5).setRow (w7.heap.size + 1 + 1 + 1 + 1 + 1) r6).setRow (w7.heap.size + 1 + 1 + 1 + 1 + 1 + 1) r7) (w7.heap.size + 1 + 1) (scZ idQ G3 (obZ idQ V3 T3)) := by
    show _ = some (Obj.cells (oneAt 4 7 G3 V3 T3).row.toArray 28 (0, 0))
    rw [hr3.out, setRow_other _ _ _ _ (by omega), setRow_other _ _ _ _ (by omega), setRow_other _ _ _ _ (by omega), setRow_other _ _ _ _ (by omega)]; exact setRow_heap _ _ _ _ _ _ ((setRow_other _ _ _ _ (by omega)).trans ((setRow_other _ _ _ _ (by omega)).trans n3))
  have k4 : ScnB (((((((X.setRow (w7.heap.size) r1).setRow (w7.heap.size + 1) r2).setRow (w7.heap.size + 1 + 1) r3).setRow (w7.heap.size + 1 + 1 + 1) r4).setRow (w7.heap.size + 1 + 1 + 1 + 1) r5).setRow (w7.heap.size + 1 + 1 + 1 + 1 + 1) r6).setRow (w7.heap.size + 1 + 1 + 1 + 1 + 1 + 1) r7) (w7.heap.size + 1 + 1 + 1) (scZ idQ G4 (obZ idQ V4 T4)) := by
    show _ = some (Obj.cells (oneAt 4 7 G4 V4 T4).row.toArray 28 (0, 0))
    rw [hr4.out, setRow_other _ _ _ _ (by omega), setRow_other _ _ _ _ (by omega), setRow_other _ _ _ _ (by omega)]; exact setRow_heap _ _ _ _ _ _ ((setRow_other _ _ _ _ (by omega)).trans ((setRow_other _ _ _ _ (by omega)).trans ((setRow_other _ _ _ _ (by omega)).trans n4)))
  have k5 : ScnB (((((((X.setRow (w7.heap.size) r1).setRow (w7.heap.size + 1) r2).setRow (w7.heap.size + 1 + 1) r3).setRow (w7.heap.size + 1 + 1 + 1) r4).setRow (w7.heap.size + 1 + 1 + 1 + 1) r5).setRow (w7.heap.size + 1 + 1 + 1 + 1 + 1) r6).setRow (w7.heap.size + 1 + 1 + 1 + 1 + 1 + 1) r7) (w7.heap.size + 1 + 1 + 1 + 1) (scZ idQ G5 (obZ idQ V5 T5)) := by
    show _ = some (Obj.cells (oneAt 4 7 G5 V5 T5).row.toArray 28 (0, 0))
    rw [hr5.out, setRow_other _ _ _ _ (by omega), setRow_other _ _ _ _ (by omega)]; exact setRow_heap _ _ _ _ _ _ ((setRow_other _ _ _ _ (by omega)).trans ((setRow_other _ _ _ _ (by omega)).trans ((setRow_other _ _ _ _ (by omega)).trans ((setRow_other _ _ _ _ (by omega)).trans n5))))
  have k6 : ScnB (((((((X.setRow (w7.heap.size) r1).setRow (w7.heap.size + 1) r2).setRow (w7.heap.size + 1 + 1) r3).setRow (w7.heap.size + 1 + 1 + 1) r4).setRow (w7.heap.size + 1 + 1 + 1 + 1) r5).setRow (w7.heap.size + 1 + 1 + 1 + 1 + 1) r6).setRow (w7.heap.size + 1 + 1 + 1 + 1 + 1 + 1) r7) (w7.heap.size + 1 + 1 + 1 + 1 + 1) (scZ idQ G6 (obZ idQ V6 T6)) := by
    show _ = some (Obj.cells (oneAt 4 7 G6 V6 T6).row.toArray 28 (0, 0))
    rw [hr6.out, setRow_other _ _ _ _ (by omega)]; exact setRow_heap _ _ _ _ _ _ ((setRow_other _ _ _ _ (by omega)).trans ((setRow_other _ _ _ _ (by omega)).trans ((setRow_other _ _ _ _ (by omega)).trans ((setRow_other _ _ _ _ (by omega)).trans ((setRow_other _ _ _ _ (by omega)).trans n6)))))
  have k7 : ScnB (((((((X.setRow (w7.heap.size) r1).setRow (w7.heap.size + 1) r2).setRow (w7.heap.size + 1 + 1) r3).setRow (w7.heap.size + 1 + 1 + 1) r4).setRow (w7.heap.size + 1 + 1 + 1 + 1) r5).setRow (w7.heap.size + 1 + 1 + 1 + 1 + 1) r6).setRow (w7.heap.size + 1 + 1 + 1 + 1 + 1 + 1) r7) (w7.heap.size + 1 + 1 + 1 + 1 + 1 + 1) (scZ idQ G7 (obZ idQ V7 T7)) := by
    show _ = some (Obj.cells (oneAt 4 7 G7 V7 T7).row.toArray 28 (0, 0))
    rw [hr7.out]; exact setRow_heap _ _ _ _ _ _ ((setRow_other _ _ _ _ (by omega)).trans ((setRow_other _ _ _ _ (by omega)).trans ((setRow_other _ _ _ _ (by omega)).trans ((setRow_other _ _ _ _ (by omega)).trans ((setRow_other _ _ _ _ (by omega)).trans ((setRow_other _ _ _ _ (by omega)).trans n7))))))
  have hlY : Later w7 (((((((X.setRow (w7.heap.size) r1).setRow (w7.heap.size + 1) r2).setRow (w7.heap.size + 1 + 1) r3).setRow (w7.heap.size + 1 + 1 + 1) r4).setRow (w7.heap.size + 1 + 1 + 1 + 1) r5).setRow (w7.heap.size + 1 + 1 + 1 + 1 + 1) r6).setRow (w7.heap.size + 1 + 1 + 1 + 1 + 1 + 1) r7) := (Later.setRow (Later.setRow (Later.setRow (Later.setRow (Later.setRow (Later.setRow (Later.setRow hlX (by omega) _) (by omega) _) (by omega) _) (by omega) _) (by omega) _) (by omega) _) (by omega) _)
  obtain ⟨Y, hY⟩ : ∃ Y, Y = (((((((X.setRow (w7.heap.size) r1).setRow (w7.heap.size + 1) r2).setRow (w7.heap.size + 1 + 1) r3).setRow (w7.heap.size + 1 + 1 + 1) r4).setRow (w7.heap.size + 1 + 1 + 1 + 1) r5).setRow (w7.heap.size + 1 + 1 + 1 + 1 + 1) r6).setRow (w7.heap.size + 1 + 1 + 1 + 1 + 1 + 1) r7) := ⟨_, rfl⟩
  rw [← hY] at k1 k2 k3 k4 k5 k6 k7 hlY
  rw [hX] at q1 q2 q3 q4 q5 q6 q7 hY
  clear n1 n2 n3 n4 n5 n6 n7 hlX hX
  go_upto_region 2 with fail
  rw [← hY]
  clear hY q1 e1 hz1 ho1 q2 e2 hz2 ho2 q3 e3 hz3 ho3 q4 e4 hz4 ho4 q5 e5 hz5 ho5 q6 e6 hz6 ho6 q7 e7 hz7 ho7
  obtain ⟨S1, hS1⟩ : ∃ S, Hid (w1.heap.size = S) := ⟨_, rfl⟩
  obtain ⟨S2, hS2⟩ : ∃ S, Hid (w2.heap.size = S) := ⟨_, rfl⟩
  obtain ⟨S3, hS3⟩ : ∃ S, Hid (w3.heap.size = S) := ⟨_, rfl⟩
  obtain ⟨S4, hS4⟩ : ∃ S, Hid (w4.heap.size = S) := ⟨_, rfl⟩
  obtain ⟨S5, hS5⟩ : ∃ S, Hid (w5.heap.size = S) := ⟨_, rfl⟩
  obtain ⟨S6, hS6⟩ : ∃ S, Hid (w6.heap.size = S) := ⟨_, rfl⟩
  obtain ⟨S7, hS7⟩ : ∃ S, Hid (w7.heap.size = S) := ⟨_, rfl⟩
  obtain ⟨S0, hS0⟩ : ∃ S, Hid (W.heap.size = S) := ⟨_, rfl⟩
  have hch : Hid (S0 ≤ S1 ∧ S1 ≤ S2 ∧ S2 ≤ S3 ∧ S3 ≤ S4 ∧ S4 ≤ S5 ∧ S5 ≤ S6 ∧ S6 ≤ S7) := Lib.hid ⟨by rw [← hS1.out, ← hS0.out]; exact hl1.size, by rw [← hS2.out, ← hS1.out]; exact hl2.size, by rw [← hS3.out, ← hS2.out]; exact hl3.size, by rw [← hS4.out, ← hS3.out]; exact hl4.size, by rw [← hS5.out, ← hS4.out]; exact hl5.size, by rw [← hS6.out, ← hS5.out]; exact hl6.size, by rw [← hS7.out, ← hS6.out]; exact hl7.size⟩
  have a1 : One Y S0 S1 (w7.heap.size) G1 V1 T1 (scZ idQ G1 (obZ idQ V1 T1)) (obZ idQ V1 T1) vz tz := ⟨k1, (((((((hb1.later hl2).later hl3).later hl4).later hl5).later hl6).later hl7).later hlY).obj, (((((((hb1.later hl2).later hl3).later hl4).later hl5).later hl6).later hl7).later hlY).vs, (((((((hb1.later hl2).later hl3).later hl4).later hl5).later hl6).later hl7).later hlY).ts, ⟨by rw [← hS0.out]; exact hG1, by rw [← hS1.out]; exact (Array.getElem?_eq_some_iff.1 hb1.obj).1⟩, ⟨by rw [← hS0.out]; exact hgV1, by rw [← hS1.out]; exact (Array.getElem?_eq_some_iff.1 hb1.vs).1⟩, ⟨by rw [← hS0.out]; exact hgT1, by rw [← hS1.out]; exact (Array.getElem?_eq_some_iff.1 hb1.ts).1⟩⟩
  have a2 : One Y S1 S2 (w7.heap.size + 1) G2 V2 T2 (scZ idQ G2 (obZ idQ V2 T2)) (obZ idQ V2 T2) vz tz := ⟨k2, ((((((hb2.later hl3).later hl4).later hl5).later hl6).later hl7).later hlY).obj, ((((((hb2.later hl3).later hl4).later hl5).later hl6).later hl7).later hlY).vs, ((((((hb2.later hl3).later hl4).later hl5).later hl6).later hl7).later hlY).ts, ⟨by rw [← hS1.out]; exact hG2, by rw [← hS2.out]; exact (Array.getElem?_eq_some_iff.1 hb2.obj).1⟩, ⟨by rw [← hS1.out]; exact hgV2, by rw [← hS2.out]; exact (Array.getElem?_eq_some_iff.1 hb2.vs).1⟩, ⟨by rw [← hS1.out]; exact hgT2, by rw [← hS2.out]; exact (Array.getElem?_eq_some_iff.1 hb2.ts).1⟩⟩
  have a3 : One Y S2 S3 (w7.heap.size + 1 + 1) G3 V3 T3 (scZ idQ G3 (obZ idQ V3 T3)) (obZ idQ V3 T3) vz tz := ⟨k3, (((((hb3.later hl4).later hl5).later hl6).later hl7).later hlY).obj, (((((hb3.later hl4).later hl5).later hl6).later hl7).later hlY).vs, (((((hb3.later hl4).later hl5).later hl6).later hl7).later hlY).ts, ⟨by rw [← hS2.out]; exact hG3, by rw [← hS3.out]; exact (Array.getElem?_eq_some_iff.1 hb3.obj).1⟩, ⟨by rw [← hS2.out]; exact hgV3, by rw [← hS3.out]; exact (Array.getElem?_eq_some_iff.1 hb3.vs).1⟩, ⟨by rw [← hS2.out]; exact hgT3, by rw [← hS3.out]; exact (Array.getElem?_eq_some_iff.1 hb3.ts).1⟩⟩
  have a4 : One Y S3 S4 (w7.heap.size + 1 + 1 + 1) G4 V4 T4 (scZ idQ G4 (obZ idQ V4 T4)) (obZ idQ V4 T4) vz tz := ⟨k4, ((((hb4.later hl5).later hl6).later hl7).later hlY).obj, ((((hb4.later hl5).later hl6).later hl7).later hlY).vs, ((((hb4.later hl5).later hl6).later hl7).later hlY).ts, ⟨by rw [← hS3.out]; exact hG4, by rw [← hS4.out]; exact (Array.getElem?_eq_some_iff.1 hb4.obj).1⟩, ⟨by rw [← hS3.out]; exact hgV4, by rw [← hS4.out]; exact (Array.getElem?_eq_some_iff.1 hb4.vs).1⟩, ⟨by rw [← hS3.out]; exact hgT4, by rw [← hS4.out]; exact (Array.getElem?_eq_some_iff.1 hb4.ts).1⟩⟩
  have a5 : One Y S4 S5 (w7.heap.size + 1 + 1 + 1 + 1) G5 V5 T5 (scZ idQ G5 (obZ idQ V5 T5)) (obZ idQ V5 T5) vz tz := ⟨k5, (((hb5.later hl6).later hl7).later hlY).obj, (((hb5.later hl6).later hl7).later hlY).vs, (((hb5.later hl6).later hl7).later hlY).ts, ⟨by rw [← hS4.out]; exact hG5, by rw [← hS5.out]; exact (Array.getElem?_eq_some_iff.1 hb5.obj).1⟩, ⟨by rw [← hS4.out]; exact hgV5, by rw [← hS5.out]; exact (Array.getElem?_eq_some_iff.1 hb5.vs).1⟩, ⟨by rw [← hS4.out]; exact hgT5, by rw [← hS5.out]; exact (Array.getElem?_eq_some_iff.1 hb5.ts).1⟩⟩
  have a6 : One Y S5 S6 (w7.heap.size + 1 + 1 + 1 + 1 + 1) G6 V6 T6 (scZ idQ G6 (obZ idQ V6 T6)) (obZ idQ V6 T6) vz tz := ⟨k6, ((hb6.later hl7).later hlY).obj, ((hb6.later hl7).later hlY).vs, ((hb6.later hl7).later hlY).ts, ⟨by rw [← hS5.out]; exact hG6, by rw [← hS6.out]; exact (Array.getElem?_eq_some_iff.1 hb6.obj).1⟩, ⟨by rw [← hS5.out]; exact hgV6, by rw [← hS6.out]; exact (Array.getElem?_eq_some_iff.1 hb6.vs).1⟩, ⟨by rw [← hS5.out]; exact hgT6, by rw [← hS6.out]; exact (Array.getElem?_eq_some_iff.1 hb6.ts).1⟩⟩
  have a7 : One Y S6 S7 (w7.heap.size + 1 + 1 + 1 + 1 + 1 + 1) G7 V7 T7 (scZ idQ G7 (obZ idQ V7 T7)) (obZ idQ V7 T7) vz tz := ⟨k7, (hb7.later hlY).obj, (hb7.later hlY).vs, (hb7.later hlY).ts, ⟨by rw [← hS6.out]; exact hG7, by rw [← hS7.out]; exact (Array.getElem?_eq_some_iff.1 hb7.obj).1⟩, ⟨by rw [← hS6.out]; exact hgV7, by rw [← hS7.out]; exact (Array.getElem?_eq_some_iff.1 hb7.vs).1⟩, ⟨by rw [← hS6.out]; exact hgT7, by rw [← hS7.out]; exact (Array.getElem?_eq_some_iff.1 hb7.ts).1⟩⟩
  have hlW : Later W Y := (((((((hl1.trans hl2).trans hl3).trans hl4).trans hl5).trans hl6).trans hl7).trans hlY)
  rw [hS7.out] at a1 a2 a3 a4 a5 a6 a7 ⊢
  have hWS : Hid (W.heap.size ≤ S0 ∧ S0 ≤ S7) := Lib.hid ⟨Nat.le_of_eq hS0.out, by have := hch.out; omega⟩
  clear hlY k1 hb1 hl1 hG1 hgV1 hgT1 hV1 hT1 hr1 k2 hb2 hl2 hG2 hgV2 hgT2 hV2 hT2 hr2 k3 hb3 hl3 hG3 hgV3 hgT3 hV3 hT3 hr3 k4 hb4 hl4 hG4 hgV4 hgT4 hV4 hT4 hr4 k5 hb5 hl5 hG5 hgV5 hgT5 hV5 hT5 hr5 k6 hb6 hl6 hG6 hgV6 hgT6 hV6 hT6 hr6 k7 hb7 hl7 hG7 hgV7 hgT7 hV7 hT7 hr7 hS1 hS2 hS3 hS4 hS5 hS6 hS7 hS0
  have c1 : Y.cell? ⟨S7, 18, none⟩ = some (sl 1 G1) := a1.scn.uo
  have c2 : Y.cell? ⟨G1, 18, none⟩ = some (sl 1 T1) := a1.obj.ut
  have c3 : Y.cell? ⟨T1, 2, none⟩ = some (.int .i64 2) := row_range a1.ts 2 _ rfl
  have f3 := frozen_r a1.ts 2
  go_upto_region 3 with fail
  obtain ⟨Z1, hZ1⟩ : ∃ Z, Z = Y.setCell ⟨T1, 2, none⟩ (.int .i64 3) := ⟨_, rfl⟩
  have hw1 : ∀ j, j ≠ T1 → Z1.heap[j]? = Y.heap[j]? := fun j hj => by rw [hZ1]; exact Below.heap_setCell _ _ _ _ hj
  have hlZ1 : Later W Z1 := by rw [hZ1]; exact hlW.setCell (p := ⟨T1, 2, none⟩) (by have := hWS.out; have := hch.out; have := a1.t; show W.heap.size ≤ T1; omega) _
  rw [← hZ1]
  replace a2 := a2.far hw1 (by have := hch.out; have := a1.g; have := a1.v; have := a1.t; omega) (by have := hch.out; have := a1.g; have := a1.v; have := a1.t; omega)
  replace a3 := a3.far hw1 (by have := hch.out; have := a1.g; have := a1.v; have := a1.t; omega) (by have := hch.out; have := a1.g; have := a1.v; have := a1.t; omega)
  replace a4 := a4.far hw1 (by have := hch.out; have := a1.g; have := a1.v; have := a1.t; omega) (by have := hch.out; have := a1.g; have := a1.v; have := a1.t; omega)
  replace a5 := a5.far hw1 (by have := hch.out; have := a1.g; have := a1.v; have := a1.t; omega) (by have := hch.out; have := a1.g; have := a1.v; have := a1.t; omega)
  replace a6 := a6.far hw1 (by have := hch.out; have := a1.g; have := a1.v; have := a1.t; omega) (by have := hch.out; have := a1.g; have := a1.v; have := a1.t; omega)
  replace a7 := a7.far hw1 (by have := hch.out; have := a1.g; have := a1.v; have := a1.t; omega) (by have := hch.out; have := a1.g; have := a1.v; have := a1.t; omega)
  replace a1 : One Z1 S0 S1 S7 G1 V1 T1 (scZ idQ G1 (obZ idQ V1 T1)) (obZ idQ V1 T1) vz ta := by rw [hZ1]; exact a1.setT set_ta
  clear hZ1 hw1 c1 c2 c3 f3 hlW
  go_wp2_with fail
  refine (hI.out _).mono ?_
  rintro e u1 ⟨rfl, hlu1⟩
  have hnew := heap_alloc_new u1 (.cells #[.int .i64 0, .int .i64 0, .int .i64 0, .int .i64 0, .int .i64 0, .int .i64 0, .int .i64 0, .int .i64 0, .int .i64 0, .int .i64 0, .int .i64 0, .int .i64 0, .int .i64 0, .int .i64 0, .int .i64 0, .int .i64 0] 25)
  have hz2 : (#[.int .i64 0, .int .i64 0, .int .i64 0, .int .i64 0, .int .i64 0, .int .i64 0, .int .i64 0, .int .i64 0, .int .i64 0, .int .i64 0, .int .i64 0, .int .i64 0, .int .i64 0, .int .i64 0, .int .i64 0, .int .i64 0] : Array Value).size = (rowV 16 q).size := by rw [rowV_size]; rfl
  go_upto_region 4 with (refine wpList_store_row rfl 25 _ _ rfl u1.heap.size (rowV 16 q) rfl rfl 25 #[.int .i64 0, .int .i64 0, .int .i64 0, .int .i64 0, .int .i64 0, .int .i64 0, .int .i64 0, .int .i64 0, .int .i64 0, .int .i64 0, .int .i64 0, .int .i64 0, .int .i64 0, .int .i64 0, .int .i64 0, .int .i64 0] hnew (size_mat _) hz2 (rowV_one 16 _) ?_)
  obtain ⟨Z2, hZ2⟩ : ∃ Z, Z = u1.alloc (.cells (rowV 16 q) 25) := ⟨_, rfl⟩
  have hlu2 : Later u1 Z2 := by rw [hZ2]; exact (Later.refl u1).alloc _
  have kM : matB Z2 u1.heap.size q := by rw [hZ2]; exact heap_alloc_new _ _
  rw [World.setRow_alloc_new, ← hZ2]
  obtain ⟨M, hM⟩ : ∃ M, Hid (u1.heap.size = M) := ⟨_, rfl⟩
  rw [hM.out] at kM ⊢
  clear hZ2 hnew hz2
  replace a1 := a1.later (hlu1.trans hlu2)
  replace a2 := a2.later (hlu1.trans hlu2)
  replace a3 := a3.later (hlu1.trans hlu2)
  replace a4 := a4.later (hlu1.trans hlu2)
  replace a5 := a5.later (hlu1.trans hlu2)
  replace a6 := a6.later (hlu1.trans hlu2)
  replace a7 := a7.later (hlu1.trans hlu2)
  have hlZ2 := hlZ1.trans (hlu1.trans hlu2)
  clear hlu1 hlu2 hlZ1 hI
  have t2 : Z2.there (S7 + 1) 2 (rowV 16 q).size := there_row a2.scn 2 _ (by rw [rowV_size, List.size_toArray, Scn.row_length]; omega)
  go_upto_region 5 with (first | refine wpList_load_row rfl _ _ rfl M rfl _ _ (0, 0) _ kM Tryd.underlying25 rfl (size_mat q) ?_ | refine wpList_store_mid rfl 25 _ _ rfl (S7 + 1) 2 (rowV 16 q) rfl rfl t2 (size_mat q) (rowV_one 16 _) ?_)
  obtain ⟨Z3, hZ3⟩ : ∃ Z, Z = Z2.setCells (S7 + 1) 2 (rowV 16 q).toList := ⟨_, rfl⟩
  have hw3 : ∀ j, j ≠ S7 + 1 → Z3.heap[j]? = Z2.heap[j]? := fun j hj => by rw [hZ3]; exact heap_setCells_ne hj _ _ _
  have hlZ3 : Later W Z3 := by rw [hZ3]; exact Later.setCells (by have := hWS.out; omega) _ _ _ hlZ2
  rw [← hZ3]
  replace kM : matB Z3 M q := (hw3 _ (cells_ty kM a2.scn (by decide))).trans kM
  replace a1 := a1.far hw3 (by have := hch.out; have := a2.g; have := a2.v; have := a2.t; omega) (by have := hch.out; have := a2.g; have := a2.v; have := a2.t; omega)
  replace a3 := a3.far hw3 (by have := hch.out; have := a2.g; have := a2.v; have := a2.t; omega) (by have := hch.out; have := a2.g; have := a2.v; have := a2.t; omega)
  replace a4 := a4.far hw3 (by have := hch.out; have := a2.g; have := a2.v; have := a2.t; omega) (by have := hch.out; have := a2.g; have := a2.v; have := a2.t; omega)
  replace a5 := a5.far hw3 (by have := hch.out; have := a2.g; have := a2.v; have := a2.t; omega) (by have := hch.out; have := a2.g; have := a2.v; have := a2.t; omega)
  replace a6 := a6.far hw3 (by have := hch.out; have := a2.g; have := a2.v; have := a2.t; omega) (by have := hch.out; have := a2.g; have := a2.v; have := a2.t; omega)
  replace a7 := a7.far hw3 (by have := hch.out; have := a2.g; have := a2.v; have := a2.t; omega) (by have := hch.out; have := a2.g; have := a2.v; have := a2.t; omega)
  replace a2 : One Z3 S1 S2 (S7 + 1) G2 V2 T2 (scZ q G2 (obZ idQ V2 T2)) (obZ idQ V2 T2) vz tz := by rw [hZ3]; exact a2.setP (set_cam _ _ _ _)
  clear hZ3 hw3 t2 hlZ2
  have c1 : Z3.cell? ⟨S7 + 1, 18, none⟩ = some (sl 1 G2) := a2.scn.uo
  have t2 : Z3.there G2 1 (rowV 16 q).size := there_row a2.obj 1 _ (by rw [rowV_size, List.size_toArray, SObj.row_length]; omega)
  go_upto_region 6 with (first | refine wpList_load_row rfl _ _ rfl M rfl _ _ (0, 0) _ kM Tryd.underlying25 rfl (size_mat q) ?_ | refine wpList_store_mid rfl 25 _ _ rfl G2 1 (rowV 16 q) rfl rfl t2 (size_mat q) (rowV_one 16 _) ?_)
  obtain ⟨Z4, hZ4⟩ : ∃ Z, Z = Z3.setCells G2 1 (rowV 16 q).toList := ⟨_, rfl⟩
  have hw4 : ∀ j, j ≠ G2 → Z4.heap[j]? = Z3.heap[j]? := fun j hj => by rw [hZ4]; exact heap_setCells_ne hj _ _ _
  have hlZ4 : Later W Z4 := by rw [hZ4]; exact Later.setCells (by have := hWS.out; have := hch.out; have := a2.g; omega) _ _ _ hlZ3
  rw [← hZ4]
  replace a1 := a1.far hw4 (by have := hch.out; have := a2.g; have := a2.v; have := a2.t; omega) (by have := hch.out; have := a2.g; have := a2.v; have := a2.t; omega)
  replace a3 := a3.far hw4 (by have := hch.out; have := a2.g; have := a2.v; have := a2.t; omega) (by have := hch.out; have := a2.g; have := a2.v; have := a2.t; omega)
  replace a4 := a4.far hw4 (by have := hch.out; have := a2.g; have := a2.v; have := a2.t; omega) (by have := hch.out; have := a2.g; have := a2.v; have := a2.t; omega)
  replace a5 := a5.far hw4 (by have := hch.out; have := a2.g; have := a2.v; have := a2.t; omega) (by have := hch.out; have := a2.g; have := a2.v; have := a2.t; omega)
  replace a6 := a6.far hw4 (by have := hch.out; have := a2.g; have := a2.v; have := a2.t; omega) (by have := hch.out; have := a2.g; have := a2.v; have := a2.t; omega)
  replace a7 := a7.far hw4 (by have := hch.out; have := a2.g; have := a2.v; have := a2.t; omega) (by have := hch.out; have := a2.g; have := a2.v; have := a2.t; omega)
  replace a2 : One Z4 S1 S2 (S7 + 1) G2 V2 T2 (scZ q G2 (obZ idQ V2 T2)) (obZ q V2 T2) vz tz := by rw [hZ4]; exact a2.setG (set_mat _ _ _ _ _ _)
  clear hZ4 hw4 t2 c1 hlZ3 kM hM
  have c1 : Z4.cell? ⟨S7 + 1 + 1, 8, none⟩ = some (.int .i64 0) := row_range a3.scn 8 _ rfl
  have f1 := frozen_r a3.scn 8
  go_upto_region 7 with fail
  obtain ⟨Z5, hZ5⟩ : ∃ Z, Z = Z4.setCell ⟨S7 + 1 + 1, 8, none⟩ (.int .i64 16777217) := ⟨_, rfl⟩
  have hw5 : ∀ j, j ≠ S7 + 1 + 1 → Z5.heap[j]? = Z4.heap[j]? := fun j hj => by rw [hZ5]; exact Below.heap_setCell _ _ _ _ hj
  have hlZ5 : Later W Z5 := by rw [hZ5]; exact hlZ4.setCell (p := ⟨S7 + 1 + 1, 8, none⟩) (by have := hWS.out; show W.heap.size ≤ S7 + 1 + 1; omega) _
  rw [← hZ5]
  replace a1 := a1.far hw5 (by have := hch.out; have := a3.g; have := a3.v; have := a3.t; omega) (by have := hch.out; have := a3.g; have := a3.v; have := a3.t; omega)
  replace a2 := a2.far hw5 (by have := hch.out; have := a3.g; have := a3.v; have := a3.t; omega) (by have := hch.out; have := a3.g; have := a3.v; have := a3.t; omega)
  replace a4 := a4.far hw5 (by have := hch.out; have := a3.g; have := a3.v; have := a3.t; omega) (by have := hch.out; have := a3.g; have := a3.v; have := a3.t; omega)
  replace a5 := a5.far hw5 (by have := hch.out; have := a3.g; have := a3.v; have := a3.t; omega) (by have := hch.out; have := a3.g; have := a3.v; have := a3.t; omega)
  replace a6 := a6.far hw5 (by have := hch.out; have := a3.g; have := a3.v; have := a3.t; omega) (by have := hch.out; have := a3.g; have := a3.v; have := a3.t; omega)
  replace a7 := a7.far hw5 (by have := hch.out; have := a3.g; have := a3.v; have := a3.t; omega) (by have := hch.out; have := a3.g; have := a3.v; have := a3.t; omega)
  replace a3 : One Z5 S2 S3 (S7 + 1 + 1) G3 V3 T3 (scZ camC G3 (obZ idQ V3 T3)) (obZ idQ V3 T3) vz tz := by rw [hZ5, ← setC1]; exact a3.setP (set_c6 _ _)
  clear hZ5 hw5 c1 f1 hlZ4
  have hmk := make_17
  obtain ⟨zb, hzb⟩ : ∃ zb, Hid (Obj.cells rows17.toArray 43 (0, 0) = zb) := ⟨_, rfl⟩
  rw [hzb.out] at hmk
  have s4 : ScnB (Z5.alloc zb) (S7 + 1 + 1 + 1) (scZ idQ G4 (obZ idQ V4 T4)) := ((Later.refl Z5).alloc zb).row a4.scn
  have c1 : (Z5.alloc zb).cell? ⟨S7 + 1 + 1 + 1, 18, none⟩ = some (sl 1 G4) := s4.uo
  have f1 := frozen_r s4 18
  go_upto_region 8 with fail
  obtain ⟨Z5b, hZ5b⟩ : ∃ Z, Z = Z5.alloc zb := ⟨_, rfl⟩
  have hl5 : Later Z5 Z5b := by rw [hZ5b]; exact (Later.refl Z5).alloc _
  have kD : Z5b.heap[Z5.heap.size]? = some (.cells rows17.toArray 43 (0, 0)) := by rw [hzb.out, hZ5b]; exact heap_alloc_new _ _
  rw [← hZ5b] at s4 ⊢
  obtain ⟨D, hD⟩ : ∃ D, Hid (Z5.heap.size = D) := ⟨_, rfl⟩
  have hDlo : Hid (S7 + 1 + 1 + 1 + 1 + 1 + 1 < D) := Lib.hid (by rw [← hD.out]; exact (Array.getElem?_eq_some_iff.1 a7.scn).1)
  rw [hD.out] at kD ⊢
  obtain ⟨Z6, hZ6⟩ : ∃ Z, Z = Z5b.setCell ⟨S7 + 1 + 1 + 1, 18, none⟩ (sl 17 D) := ⟨_, rfl⟩
  have hw6 : ∀ j, j ≠ S7 + 1 + 1 + 1 → Z6.heap[j]? = Z5b.heap[j]? := fun j hj => by rw [hZ6]; exact Below.heap_setCell _ _ _ _ hj
  have hlZ6 : Later W Z6 := by rw [hZ6]; exact (hlZ5.trans hl5).setCell (p := ⟨S7 + 1 + 1 + 1, 18, none⟩) (by have := hWS.out; show W.heap.size ≤ S7 + 1 + 1 + 1; omega) _
  rw [← hZ6]
  replace a1 := a1.later hl5
  replace a2 := a2.later hl5
  replace a3 := a3.later hl5
  replace a4 := a4.later hl5
  replace a5 := a5.later hl5
  replace a6 := a6.later hl5
  replace a7 := a7.later hl5
  replace kD := (hw6 _ (by have := hDlo.out; omega)).trans kD
  replace a1 := a1.far hw6 (by have := hch.out; have := a4.g; have := a4.v; have := a4.t; omega) (by have := hch.out; have := a4.g; have := a4.v; have := a4.t; omega)
  replace a2 := a2.far hw6 (by have := hch.out; have := a4.g; have := a4.v; have := a4.t; omega) (by have := hch.out; have := a4.g; have := a4.v; have := a4.t; omega)
  replace a3 := a3.far hw6 (by have := hch.out; have := a4.g; have := a4.v; have := a4.t; omega) (by have := hch.out; have := a4.g; have := a4.v; have := a4.t; omega)
  replace a5 := a5.far hw6 (by have := hch.out; have := a4.g; have := a4.v; have := a4.t; omega) (by have := hch.out; have := a4.g; have := a4.v; have := a4.t; omega)
  replace a6 := a6.far hw6 (by have := hch.out; have := a4.g; have := a4.v; have := a4.t; omega) (by have := hch.out; have := a4.g; have := a4.v; have := a4.t; omega)
  replace a7 := a7.far hw6 (by have := hch.out; have := a4.g; have := a4.v; have := a4.t; omega) (by have := hch.out; have := a4.g; have := a4.v; have := a4.t; omega)
  have d4 : ScnB Z6 (S7 + 1 + 1 + 1) (scnX idQ (sl 17 D) (List.replicate 17 ob0)) := by rw [hZ6]; unfold ScnB; rw [← set_uo idQ (sl 1 G4) (sl 17 D) [obZ idQ V4 T4] (List.replicate 17 ob0)]; exact heap_setC a4.scn
  clear hZ6 hZ5b hw6 c1 f1 hlZ5 s4 a4 hl5 hmk
  have c1 : Z6.cell? ⟨S7 + 1 + 1 + 1 + 1, 18, none⟩ = some (sl 1 G5) := a5.scn.uo
  have c2 : Z6.cell? ⟨G5, 16, none⟩ = some (.int .i64 65536) := row_range a5.obj 16 _ rfl
  have f1 := frozen_r a5.obj 16
  go_upto_region 9 with fail
  obtain ⟨Z7, hZ7⟩ : ∃ Z, Z = Z6.setCell ⟨G5, 16, none⟩ (.int .i64 (-16777217)) := ⟨_, rfl⟩
  have hw7 : ∀ j, j ≠ G5 → Z7.heap[j]? = Z6.heap[j]? := fun j hj => by rw [hZ7]; exact Below.heap_setCell _ _ _ _ hj
  have hlZ7 : Later W Z7 := by rw [hZ7]; exact hlZ6.setCell (p := ⟨G5, 16, none⟩) (by have := hWS.out; have := hch.out; have := a5.g; show W.heap.size ≤ G5; omega) _
  rw [← hZ7]
  replace a1 := a1.far hw7 (by have := hch.out; have := a5.g; have := a5.v; have := a5.t; omega) (by have := hch.out; have := a5.g; have := a5.v; have := a5.t; omega)
  replace a2 := a2.far hw7 (by have := hch.out; have := a5.g; have := a5.v; have := a5.t; omega) (by have := hch.out; have := a5.g; have := a5.v; have := a5.t; omega)
  replace a3 := a3.far hw7 (by have := hch.out; have := a5.g; have := a5.v; have := a5.t; omega) (by have := hch.out; have := a5.g; have := a5.v; have := a5.t; omega)
  replace a6 := a6.far hw7 (by have := hch.out; have := a5.g; have := a5.v; have := a5.t; omega) (by have := hch.out; have := a5.g; have := a5.v; have := a5.t; omega)
  replace a7 := a7.far hw7 (by have := hch.out; have := a5.g; have := a5.v; have := a5.t; omega) (by have := hch.out; have := a5.g; have := a5.v; have := a5.t; omega)
  replace kD := (hw7 _ (by have := hDlo.out; have := hch.out; have := a5.g; have := a5.v; have := a5.t; omega)).trans kD
  replace d4 : ScnB _ _ _ := (hw7 _ (by have := hDlo.out; have := hch.out; have := a5.g; have := a5.v; have := a5.t; omega)).trans d4
  replace a5 : One Z7 S4 S5 (S7 + 1 + 1 + 1 + 1) G5 V5 T5 (scZ idQ G5 (obZ idQ V5 T5)) (obZ matE V5 T5) vz tz := by rw [hZ7, ← setC1]; exact a5.setG (set_e15 _ _ _ _)
  clear hZ7 hw7 c1 c2 f1 hlZ6
  have c1 : Z7.cell? ⟨S7 + 1 + 1 + 1 + 1 + 1, 18, none⟩ = some (sl 1 G6) := a6.scn.uo
  have c2 : Z7.cell? ⟨G6, 17, none⟩ = some (sl 3 V6) := a6.obj.uv
  have c3 : Z7.cell? ⟨V6, 7, none⟩ = some (.int .i64 0) := row_range a6.vs 7 _ rfl
  have f1 := frozen_r a6.vs 7
  go_upto_region 10 with fail
  obtain ⟨Z8, hZ8⟩ : ∃ Z, Z = Z7.setCell ⟨V6, 7, none⟩ (.int .i64 1073741825) := ⟨_, rfl⟩
  have hw8 : ∀ j, j ≠ V6 → Z8.heap[j]? = Z7.heap[j]? := fun j hj => by rw [hZ8]; exact Below.heap_setCell _ _ _ _ hj
  have hlZ8 : Later W Z8 := by rw [hZ8]; exact hlZ7.setCell (p := ⟨V6, 7, none⟩) (by have := hWS.out; have := hch.out; have := a6.v; show W.heap.size ≤ V6; omega) _
  rw [← hZ8]
  replace a1 := a1.far hw8 (by have := hch.out; have := a6.g; have := a6.v; have := a6.t; omega) (by have := hch.out; have := a6.g; have := a6.v; have := a6.t; omega)
  replace a2 := a2.far hw8 (by have := hch.out; have := a6.g; have := a6.v; have := a6.t; omega) (by have := hch.out; have := a6.g; have := a6.v; have := a6.t; omega)
  replace a3 := a3.far hw8 (by have := hch.out; have := a6.g; have := a6.v; have := a6.t; omega) (by have := hch.out; have := a6.g; have := a6.v; have := a6.t; omega)
  replace a5 := a5.far hw8 (by have := hch.out; have := a6.g; have := a6.v; have := a6.t; omega) (by have := hch.out; have := a6.g; have := a6.v; have := a6.t; omega)
  replace a7 := a7.far hw8 (by have := hch.out; have := a6.g; have := a6.v; have := a6.t; omega) (by have := hch.out; have := a6.g; have := a6.v; have := a6.t; omega)
  replace kD := (hw8 _ (by have := hDlo.out; have := hch.out; have := a6.g; have := a6.v; have := a6.t; omega)).trans kD
  replace d4 : ScnB _ _ _ := (hw8 _ (by have := hDlo.out; have := hch.out; have := a6.g; have := a6.v; have := a6.t; omega)).trans d4
  replace a6 : One Z8 S5 S6 (S7 + 1 + 1 + 1 + 1 + 1) G6 V6 T6 (scZ idQ G6 (obZ idQ V6 T6)) (obZ idQ V6 T6) vf tz := by rw [hZ8]; exact a6.setV set_vf
  clear hZ8 hw8 c1 c2 c3 f1 hlZ7
  have hmk := make_65
  obtain ⟨ze, hze⟩ : ∃ zb, Hid (Obj.cells rows65.toArray 45 (0, 0) = zb) := ⟨_, rfl⟩
  rw [hze.out] at hmk
  have hla := (Later.refl Z8).alloc ze
  have c1 : Z8.cell? ⟨S7 + 1 + 1 + 1 + 1 + 1 + 1, 18, none⟩ = some (sl 1 G7) := a7.scn.uo
  have c1b : (Z8.alloc ze).cell? ⟨S7 + 1 + 1 + 1 + 1 + 1 + 1, 18, none⟩ = some (sl 1 G7) := hla.cell c1
  have c2 : (Z8.alloc ze).cell? ⟨G7, 17, none⟩ = some (sl 3 V7) := hla.cell a7.obj.uv
  have f2 : (Z8.alloc ze).frozen? ⟨G7, 17, none⟩ = false := frozen_r (hla.row a7.obj) 17
  go_region

  obtain ⟨Z9, hZ9⟩ : ∃ Z, Z = ((Z8.alloc ze).setCell ⟨G7, 17, none⟩ (sl 65 Z8.heap.size)).drew := ⟨_, rfl⟩
  have hlA : Later Z8 (Z8.alloc ze) := (Later.refl Z8).alloc _
  have hw9 : ∀ j, j ≠ G7 → Z9.heap[j]? = (Z8.alloc ze).heap[j]? := fun j hj => by rw [hZ9]; exact Below.heap_setCell _ _ _ _ hj
  have hlZ9 : Later W Z9 := by rw [hZ9]; exact ((hlZ8.trans hlA).setCell (p := ⟨G7, 17, none⟩) (by have := hWS.out; have := hch.out; have := a7.g; show W.heap.size ≤ G7; omega) _).drew
  have hEl : Hid (S7 + 1 + 1 + 1 + 1 + 1 + 1 < Z8.heap.size) := Lib.hid (Array.getElem?_eq_some_iff.1 a7.scn).1
  have kE : Z9.heap[Z8.heap.size]? = some (.cells rows65.toArray 45 (0, 0)) := (hw9 _ (by have := hEl.out; have := a7.g; omega)).trans (by rw [hze.out]; exact heap_alloc_new _ _)
  rw [← hZ9]
  replace a1 := a1.later hlA
  replace a2 := a2.later hlA
  replace a3 := a3.later hlA
  replace a5 := a5.later hlA
  replace a6 := a6.later hlA
  replace a7 := a7.later hlA
  replace kD := hlA.row kD
  replace d4 := hlA.row d4
  replace a1 := a1.far hw9 (by have := hch.out; have := a7.g; have := a7.v; have := a7.t; omega) (by have := hch.out; have := a7.g; have := a7.v; have := a7.t; omega)
  replace a2 := a2.far hw9 (by have := hch.out; have := a7.g; have := a7.v; have := a7.t; omega) (by have := hch.out; have := a7.g; have := a7.v; have := a7.t; omega)
  replace a3 := a3.far hw9 (by have := hch.out; have := a7.g; have := a7.v; have := a7.t; omega) (by have := hch.out; have := a7.g; have := a7.v; have := a7.t; omega)
  replace a5 := a5.far hw9 (by have := hch.out; have := a7.g; have := a7.v; have := a7.t; omega) (by have := hch.out; have := a7.g; have := a7.v; have := a7.t; omega)
  replace a6 := a6.far hw9 (by have := hch.out; have := a7.g; have := a7.v; have := a7.t; omega) (by have := hch.out; have := a7.g; have := a7.v; have := a7.t; omega)
  replace kD := (hw9 _ (by have := hDlo.out; have := hch.out; have := a7.g; have := a7.v; have := a7.t; omega)).trans kD
  replace d4 : ScnB _ _ _ := (hw9 _ (by have := hDlo.out; have := hch.out; have := a7.g; have := a7.v; have := a7.t; omega)).trans d4
  have g7 : ObjB Z9 G7 (objX idQ (sl 65 Z8.heap.size) (List.replicate 65 (0, 0, 0)) (sl 1 T7) [(0, 1, 2, 0)]) := by
    rw [hZ9]; unfold ObjB; rw [← set_uv idQ (sl 3 V7) (sl 65 Z8.heap.size) (sl 1 T7) z3 (List.replicate 65 (0, 0, 0)) [(0, 1, 2, 0)]]; exact heap_setC a7.obj
  have s7 : ScnB Z9 (S7 + 1 + 1 + 1 + 1 + 1 + 1) (scZ idQ G7 (obZ idQ V7 T7)) := (hw9 _ (by have := hch.out; have := a7.g; omega)).trans a7.scn
  have t7 : Z9.heap[T7]? = some (.cells tz.toArray 39 (0, 0)) := (hw9 _ (cells_ty a7.ts a7.obj (by decide))).trans a7.ts
  clear hZ9 hw9 hlA c1 c1b c2 f2 hmk hla hlZ8 a7
  have k1 : (scnX idQ (sl 1 G1) [objX idQ (sl 3 V1) z3 (sl 1 T1) [(0, 1, 3, 0)]]).Ok Z9 := scnX_ok a1.obj (objX_ok rfl rfl a1.vs a1.ts)
  have k2 : (scnX q (sl 1 G2) [objX q (sl 3 V2) z3 (sl 1 T2) [(0, 1, 2, 0)]]).Ok Z9 := scnX_ok a2.obj (objX_ok rfl rfl a2.vs a2.ts)
  have k3 : (scnX camC (sl 1 G3) [objX idQ (sl 3 V3) z3 (sl 1 T3) [(0, 1, 2, 0)]]).Ok Z9 := scnX_ok a3.obj (objX_ok rfl rfl a3.vs a3.ts)
  have k4 : (scnX idQ (sl 17 D) (List.replicate 17 ob0)).Ok Z9 := d_ok kD
  have k5 : (scnX idQ (sl 1 G5) [objX matE (sl 3 V5) z3 (sl 1 T5) [(0, 1, 2, 0)]]).Ok Z9 := scnX_ok a5.obj (objX_ok rfl rfl a5.vs a5.ts)
  have k6 : (scnX idQ (sl 1 G6) [objX idQ (sl 3 V6) [(0, 0, 0), (0, 0, 0), (0, 1073741825, 0)] (sl 1 T6) [(0, 1, 2, 0)]]).Ok Z9 := scnX_ok a6.obj (objX_ok rfl rfl a6.vs a6.ts)
  have k7 : (scnX idQ (sl 1 G7) [objX idQ (sl 65 Z8.heap.size) (List.replicate 65 (0, 0, 0)) (sl 1 T7) [(0, 1, 2, 0)]]).Ok Z9 := scnX_ok g7 (objX_ok rfl rfl kE t7)
  have x1 : wrongQ (scnX idQ (sl 1 G1) [objX idQ (sl 3 V1) z3 (sl 1 T1) [(0, 1, 3, 0)]]) = (8, 0) := wrong_a _ _ _
  have x2 : wrongQ (scnX q (sl 1 G2) [objX q (sl 3 V2) z3 (sl 1 T2) [(0, 1, 2, 0)]]) = (6, 0) := by rw [← hq.out]; exact wrong_b _ _ _
  have x3 : wrongQ (scnX camC (sl 1 G3) [objX idQ (sl 3 V3) z3 (sl 1 T3) [(0, 1, 2, 0)]]) = (2, -1) := wrong_c _ _
  have x4 : wrongQ (scnX idQ (sl 17 D) (List.replicate 17 ob0)) = (3, -1) := wrong_d _ _ (by decide)
  have x5 : wrongQ (scnX idQ (sl 1 G5) [objX matE (sl 3 V5) z3 (sl 1 T5) [(0, 1, 2, 0)]]) = (5, 0) := wrong_e _ _ _ _ _
  have x6 : wrongQ (scnX idQ (sl 1 G6) [objX idQ (sl 3 V6) [(0, 0, 0), (0, 0, 0), (0, 1073741825, 0)] (sl 1 T6) [(0, 1, 2, 0)]]) = (7, 0) := wrong_f _ _ _ _
  have x7 : wrongQ (scnX idQ (sl 1 G7) [objX idQ (sl 65 Z8.heap.size) (List.replicate 65 (0, 0, 0)) (sl 1 T7) [(0, 1, 2, 0)]]) = (7, 0) := wrong_g _ _ _ _ _ (by decide)
  have y1 := a1.scn
  have y2 := a2.scn
  have y3 := a3.scn
  have y5 := a5.scn
  have y6 := a6.scn
  have y4 := d4
  have y7 := s7
  obtain ⟨R1, hR1⟩ : ∃ r, Hid (((scZ idQ G1 (obZ idQ V1 T1))).row.toArray = r) := ⟨_, rfl⟩
  have zz1 : Z9.heap[S7]? = some (.cells R1 28 (0, 0)) := by rw [← hR1.out]; exact y1
  have i1 : (Tryd.prog.info? 28).map (·.size) = some R1.size := by rw [← hR1.out]; exact size_scn' _
  obtain ⟨R2, hR2⟩ : ∃ r, Hid (((scZ q G2 (obZ q V2 T2))).row.toArray = r) := ⟨_, rfl⟩
  have zz2 : Z9.heap[S7 + 1]? = some (.cells R2 28 (0, 0)) := by rw [← hR2.out]; exact y2
  have i2 : (Tryd.prog.info? 28).map (·.size) = some R2.size := by rw [← hR2.out]; exact size_scn' _
  obtain ⟨R3, hR3⟩ : ∃ r, Hid (((scZ camC G3 (obZ idQ V3 T3))).row.toArray = r) := ⟨_, rfl⟩
  have zz3 : Z9.heap[S7 + 1 + 1]? = some (.cells R3 28 (0, 0)) := by rw [← hR3.out]; exact y3
  have i3 : (Tryd.prog.info? 28).map (·.size) = some R3.size := by rw [← hR3.out]; exact size_scn' _
  obtain ⟨R4, hR4⟩ : ∃ r, Hid (((scnX idQ (sl 17 D) (List.replicate 17 ob0))).row.toArray = r) := ⟨_, rfl⟩
  have zz4 : Z9.heap[S7 + 1 + 1 + 1]? = some (.cells R4 28 (0, 0)) := by rw [← hR4.out]; exact y4
  have i4 : (Tryd.prog.info? 28).map (·.size) = some R4.size := by rw [← hR4.out]; exact size_scn' _
  obtain ⟨R5, hR5⟩ : ∃ r, Hid (((scZ idQ G5 (obZ matE V5 T5))).row.toArray = r) := ⟨_, rfl⟩
  have zz5 : Z9.heap[S7 + 1 + 1 + 1 + 1]? = some (.cells R5 28 (0, 0)) := by rw [← hR5.out]; exact y5
  have i5 : (Tryd.prog.info? 28).map (·.size) = some R5.size := by rw [← hR5.out]; exact size_scn' _
  obtain ⟨R6, hR6⟩ : ∃ r, Hid (((scZ idQ G6 (obZ idQ V6 T6))).row.toArray = r) := ⟨_, rfl⟩
  have zz6 : Z9.heap[S7 + 1 + 1 + 1 + 1 + 1]? = some (.cells R6 28 (0, 0)) := by rw [← hR6.out]; exact y6
  have i6 : (Tryd.prog.info? 28).map (·.size) = some R6.size := by rw [← hR6.out]; exact size_scn' _
  obtain ⟨R7, hR7⟩ : ∃ r, Hid (((scZ idQ G7 (obZ idQ V7 T7))).row.toArray = r) := ⟨_, rfl⟩
  have zz7 : Z9.heap[S7 + 1 + 1 + 1 + 1 + 1 + 1]? = some (.cells R7 28 (0, 0)) := by rw [← hR7.out]; exact y7
  have i7 : (Tryd.prog.info? 28).map (·.size) = some R7.size := by rw [← hR7.out]; exact size_scn' _
  have b1 : Hid (∀ V, Later Z9 V → Calls Tryd.prog 14 #[.agg R1, .int .i64 8, .int .i64 0] V fun e w' => e = .returned (.bool true) ∧ Later V w') := Lib.hid (fun V h => by rw [← hR1.out]; exact is_yes (scnX idQ (sl 1 G1) [objX idQ (sl 3 V1) z3 (sl 1 T1) [(0, 1, 3, 0)]]) x1 V (k1.later h))
  have b2 : Hid (∀ V, Later Z9 V → Calls Tryd.prog 14 #[.agg R2, .int .i64 6, .int .i64 0] V fun e w' => e = .returned (.bool true) ∧ Later V w') := Lib.hid (fun V h => by rw [← hR2.out]; exact is_yes (scnX q (sl 1 G2) [objX q (sl 3 V2) z3 (sl 1 T2) [(0, 1, 2, 0)]]) x2 V (k2.later h))
  have b3 : Hid (∀ V, Later Z9 V → Calls Tryd.prog 14 #[.agg R3, .int .i64 2, .int .i64 (-1)] V fun e w' => e = .returned (.bool true) ∧ Later V w') := Lib.hid (fun V h => by rw [← hR3.out]; exact is_yes (scnX camC (sl 1 G3) [objX idQ (sl 3 V3) z3 (sl 1 T3) [(0, 1, 2, 0)]]) x3 V (k3.later h))
  have b4 : Hid (∀ V, Later Z9 V → Calls Tryd.prog 14 #[.agg R4, .int .i64 3, .int .i64 (-1)] V fun e w' => e = .returned (.bool true) ∧ Later V w') := Lib.hid (fun V h => by rw [← hR4.out]; exact is_yes (scnX idQ (sl 17 D) (List.replicate 17 ob0)) x4 V (k4.later h))
  have b5 : Hid (∀ V, Later Z9 V → Calls Tryd.prog 14 #[.agg R5, .int .i64 5, .int .i64 0] V fun e w' => e = .returned (.bool true) ∧ Later V w') := Lib.hid (fun V h => by rw [← hR5.out]; exact is_yes (scnX idQ (sl 1 G5) [objX matE (sl 3 V5) z3 (sl 1 T5) [(0, 1, 2, 0)]]) x5 V (k5.later h))
  have b6 : Hid (∀ V, Later Z9 V → Calls Tryd.prog 14 #[.agg R6, .int .i64 7, .int .i64 0] V fun e w' => e = .returned (.bool true) ∧ Later V w') := Lib.hid (fun V h => by rw [← hR6.out]; exact is_yes (scnX idQ (sl 1 G6) [objX idQ (sl 3 V6) [(0, 0, 0), (0, 0, 0), (0, 1073741825, 0)] (sl 1 T6) [(0, 1, 2, 0)]]) x6 V (k6.later h))
  have b7 : Hid (∀ V, Later Z9 V → Calls Tryd.prog 14 #[.agg R7, .int .i64 7, .int .i64 0] V fun e w' => e = .returned (.bool true) ∧ Later V w') := Lib.hid (fun V h => by rw [← hR7.out]; exact is_yes (scnX idQ (sl 1 G7) [objX idQ (sl 65 Z8.heap.size) (List.replicate 65 (0, 0, 0)) (sl 1 T7) [(0, 1, 2, 0)]]) x7 V (k7.later h))
  clear y1 x1 k1 hR1 y2 x2 k2 hR2 y3 x3 k3 hR3 y4 x4 k4 hR4 y5 x5 k5 hR5 y6 x6 k6 hR6 y7 x7 k7 hR7 a1 a2 a3 a5 a6 d4 s7 g7 t7 kD kE hEl hDlo
  go_wp2_with (refine wpList_load_row rfl _ _ rfl (S7) rfl _ _ (0, 0) _ zz1 Tryd.underlying28 rfl i1 ?_)
  refine (b1.out _ (Later.refl Z9)).mono ?_
  rintro e v1 ⟨rfl, hv1⟩
  clear zz1 b1 i1
  replace zz2 := hv1.row zz2
  replace zz3 := hv1.row zz3
  replace zz4 := hv1.row zz4
  replace zz5 := hv1.row zz5
  replace zz6 := hv1.row zz6
  replace zz7 := hv1.row zz7
  go_wp2_with (refine wpList_load_row_w rfl _ _ rfl (S7 + 1) rfl _ _ (0, 0) _ zz2 Tryd.underlying28 rfl i2 ?_)
  refine (b2.out _ ((Later.refl Z9).trans hv1)).mono ?_
  rintro e v2 ⟨rfl, hv2⟩
  clear zz2 b2 i2
  replace zz3 := hv2.row zz3
  replace zz4 := hv2.row zz4
  replace zz5 := hv2.row zz5
  replace zz6 := hv2.row zz6
  replace zz7 := hv2.row zz7
  go_wp2_with (refine wpList_load_row_w rfl _ _ rfl (S7 + 1 + 1) rfl _ _ (0, 0) _ zz3 Tryd.underlying28 rfl i3 ?_)
  refine (b3.out _ (((Later.refl Z9).trans hv1).trans hv2)).mono ?_
  rintro e v3 ⟨rfl, hv3⟩
  clear zz3 b3 i3
  replace zz4 := hv3.row zz4
  replace zz5 := hv3.row zz5
  replace zz6 := hv3.row zz6
  replace zz7 := hv3.row zz7
  go_wp2_with (refine wpList_load_row_w rfl _ _ rfl (S7 + 1 + 1 + 1) rfl _ _ (0, 0) _ zz4 Tryd.underlying28 rfl i4 ?_)
  refine (b4.out _ ((((Later.refl Z9).trans hv1).trans hv2).trans hv3)).mono ?_
  rintro e v4 ⟨rfl, hv4⟩
  clear zz4 b4 i4
  replace zz5 := hv4.row zz5
  replace zz6 := hv4.row zz6
  replace zz7 := hv4.row zz7
  go_wp2_with (refine wpList_load_row_w rfl _ _ rfl (S7 + 1 + 1 + 1 + 1) rfl _ _ (0, 0) _ zz5 Tryd.underlying28 rfl i5 ?_)
  refine (b5.out _ (((((Later.refl Z9).trans hv1).trans hv2).trans hv3).trans hv4)).mono ?_
  rintro e v5 ⟨rfl, hv5⟩
  clear zz5 b5 i5
  replace zz6 := hv5.row zz6
  replace zz7 := hv5.row zz7
  go_wp2_with (refine wpList_load_row_w rfl _ _ rfl (S7 + 1 + 1 + 1 + 1 + 1) rfl _ _ (0, 0) _ zz6 Tryd.underlying28 rfl i6 ?_)
  refine (b6.out _ ((((((Later.refl Z9).trans hv1).trans hv2).trans hv3).trans hv4).trans hv5)).mono ?_
  rintro e v6 ⟨rfl, hv6⟩
  clear zz6 b6 i6
  replace zz7 := hv6.row zz7
  go_wp2_with (refine wpList_load_row_w rfl _ _ rfl (S7 + 1 + 1 + 1 + 1 + 1 + 1) rfl _ _ (0, 0) _ zz7 Tryd.underlying28 rfl i7 ?_)
  refine (b7.out _ (((((((Later.refl Z9).trans hv1).trans hv2).trans hv3).trans hv4).trans hv5).trans hv6)).mono ?_
  rintro e v7 ⟨rfl, hv7⟩
  clear zz7 b7 i7
  have hlv := hlZ9.trans ((((((((Later.refl Z9).trans hv1).trans hv2).trans hv3).trans hv4).trans hv5).trans hv6).trans hv7)
  clear hv1 hv2 hv3 hv4 hv5 hv6 hv7 hlZ9
  go_wp2_with fail
  obtain ⟨X2, hX2⟩ : ∃ X, X = v7.alloc (.cells #[.string ⟨#[]⟩, .string ⟨#[115, 105, 122, 101]⟩, .string ⟨#[99, 97, 109, 101, 114, 97]⟩, .string ⟨#[111, 98, 106, 101, 99, 116, 115]⟩, .string ⟨#[105, 100, 115]⟩, .string ⟨#[109, 97, 116, 114, 105, 120]⟩, .string ⟨#[98, 111, 116, 104]⟩, .string ⟨#[118, 101, 114, 116, 105, 99, 101, 115]⟩, .string ⟨#[116, 114, 105, 97, 110, 103, 108, 101, 115]⟩, .string ⟨#[]⟩] 9) := ⟨_, rfl⟩
  have hl2 : Later v7 X2 := by rw [hX2]; exact (Later.refl v7).alloc _
  have hc : ∀ k : Nat, k < 10 → X2.cell? ⟨v7.heap.size, k, none⟩ = some (nameV k) := fun k hk => by
    rw [hX2, World.cell?_alloc_new]
    rcases (show k = 0 ∨ k = 1 ∨ k = 2 ∨ k = 3 ∨ k = 4 ∨ k = 5 ∨ k = 6 ∨ k = 7 ∨ k = 8 ∨ k = 9 by omega) with rfl | rfl | rfl | rfl | rfl | rfl | rfl | rfl | rfl | rfl <;> kernel_rfl
  replace hc := Lib.hid hc
  rw [← hX2]
  have hlX := hlv.trans hl2
  clear hX2 hl2 hlv
  obtain ⟨N2, hN2⟩ : ∃ n, Hid (v7.heap.size = n) := ⟨_, rfl⟩
  rw [hN2.out] at hc ⊢
  go_loopw [94, 10] (fun y u wr => ∃ k : Nat, k ≤ 10 ∧ y = .int .i64 k ∧ u = .bool true ∧ Later X2 wr) (fun y _ _ => (300 - intOf y).toNat)
  case atStart => exact ⟨0, by omega, rfl, rfl, Later.refl _⟩
  case round =>
    obtain ⟨k, hk, rfl, rfl, hl⟩ := hrel
    obtain ⟨wi, rfl⟩ : ∃ wo : World, wo = wr := ⟨_, rfl⟩
    by_cases hk10 : k < 10
    · obtain ⟨S, hS⟩ := nameV_str (k : Int)
      have hck := hl.cell (hc.out k hk10)
      have hNk := Lib.hid (fun V (h : Later wi V) => name_any (k : Int) V (hN.later ((hlX.trans hl).trans h)))
      rw [hS] at hck hNk
      have hki : (k : Int) < 10 := by omega
      clear hS
      go_wp2_with fail
      refine (hNk.out _ (Later.refl _)).mono ?_
      rintro e w1 ⟨rfl, hl1⟩
      go_wp2_with fail
      go_roundw
      case rel => exact ⟨k + 1, by omega, by go_num, by simp, hl.trans hl1⟩
      case measure => simp [intOf]; omega
    · obtain rfl : k = 10 := by omega
      have hlR := hlX.trans hl
      clear hl hc
      obtain ⟨z, hz⟩ : ∃ z, Hid ((fun _ => 0 : Nat → Int) = z) := ⟨_, rfl⟩
      go_wp2_with fail
      refine (hO.out _).mono ?_
      rintro e g1 ⟨Ga, Va, Ta, rfl, hg1, -, -, -, hba⟩
      go_wp2_with fail
      refine (both_out (oneAt 4 7 Ga Va Ta) 1 g1 hba.ok (Or.inr (by show ((1 : Nat) : Int) ≤ 1; decide))).mono ?_
      rintro e g2 ⟨rfl, hg2⟩
      rw [hz.out]
      have hnew := heap_alloc_new g2 (.cells #[.int .i64 0, .int .i64 0, .int .i64 0, .int .i64 0, .int .i64 0, .int .i64 0, .int .i64 0, .int .i64 0, .int .i64 0, .int .i64 0, .int .i64 0, .int .i64 0, .int .i64 0, .int .i64 0, .int .i64 0, .int .i64 0] 25)
      have hz2 : (#[.int .i64 0, .int .i64 0, .int .i64 0, .int .i64 0, .int .i64 0, .int .i64 0, .int .i64 0, .int .i64 0, .int .i64 0, .int .i64 0, .int .i64 0, .int .i64 0, .int .i64 0, .int .i64 0, .int .i64 0, .int .i64 0] : Array Value).size = (rowV 16 z).size := by rw [rowV_size]; rfl
      go_upto_region 19 with (refine wpList_store_row rfl 25 _ _ rfl g2.heap.size (rowV 16 z) rfl rfl 25 #[.int .i64 0, .int .i64 0, .int .i64 0, .int .i64 0, .int .i64 0, .int .i64 0, .int .i64 0, .int .i64 0, .int .i64 0, .int .i64 0, .int .i64 0, .int .i64 0, .int .i64 0, .int .i64 0, .int .i64 0, .int .i64 0] hnew (size_mat _) hz2 (rowV_one 16 _) ?_)
      rw [World.setRow_alloc_new]
      have hg3 := (Later.refl g2).alloc (.cells (rowV 16 z) 25)
      obtain ⟨g3, hg3e⟩ : ∃ g, g = g2.alloc (.cells (rowV 16 z) 25) := ⟨_, rfl⟩
      rw [← hg3e] at hg3 ⊢
      clear hg3e hnew hz2
      go_wp2_with fail
      refine (hO.out _).mono ?_
      rintro e g4 ⟨Gb, Vb, Tb, rfl, hg4, -, -, -, hbb⟩
      go_wp2_with fail
      refine (find_any (oneAt 4 7 Gb Vb Tb) 7 g4 hbb.ok (by show (1 : Nat) ≤ 1000000; decide)).mono ?_
      rintro e g5 ⟨rfl, hg5⟩
      rw [show findQ (oneAt 4 7 Gb Vb Tb) 7 = 0 from rfl]
      go_wp2_with fail
      refine (hO.out _).mono ?_
      rintro e g6 ⟨Gc, Vc, Tc, rfl, hg6, -, -, -, hbc⟩
      go_wp2_with fail
      refine (find_any (oneAt 4 7 Gc Vc Tc) 8 g6 hbc.ok (by show (1 : Nat) ≤ 1000000; decide)).mono ?_
      rintro e g7 ⟨rfl, hg7⟩
      rw [show findQ (oneAt 4 7 Gc Vc Tc) 8 = -1 from rfl]
      go_wp2_with fail
      refine (hO.out _).mono ?_
      rintro e g8 ⟨Gd, Vd, Td, rfl, hg8, -, -, -, hbd⟩
      go_wp2_with fail
      refine (count_any (oneAt 4 7 Gd Vd Td) g8 hbd.ok ⟨by show (1 : Nat) ≤ 20; decide, fun x hx => by
        obtain rfl : x = _ := by simpa [oneScn] using hx
        exact ⟨by show (3 : Nat) ≤ 80; decide, by show (1 : Nat) ≤ 80; decide⟩⟩).mono ?_
      rintro e g9 ⟨rfl, hg9⟩
      rw [show cntV (oneAt 4 7 Gd Vd Td).os = 3 from rfl, show cntT (oneAt 4 7 Gd Vd Td).os = 1 from rfl]
      go_wp2_with fail
      refine (alive_any _).mono ?_
      rintro e g10 ⟨rfl, hg10⟩
      have hlE := ((((((((hlR.trans hg1).trans hg2).trans hg3).trans hg4).trans hg5).trans hg6).trans hg7).trans hg8).trans (hg9.trans hg10)
      have hNm := name_any (-1) g10 (hN.later hlE)
      rw [nameV_out (Or.inl (by omega))] at hNm
      replace hNm := Lib.hid hNm
      go_wp2_with fail
      refine hNm.out.mono ?_
      rintro e g11 ⟨rfl, hg11⟩
      go_wp2_with fail
      go_ret
      exact ⟨by simp, hlE.trans hg11⟩
end Go.Proofs.YtackbajbladhhaaDoor
