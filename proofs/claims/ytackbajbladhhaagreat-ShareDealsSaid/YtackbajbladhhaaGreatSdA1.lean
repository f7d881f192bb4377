/-
  Chapter 6: the document's answer: does an object keep a rule?
  Chapter 6: the document's answer: does an object keep a rule? Vertices and triangles.
  Chapter 6: the document's answer: the first rule that is broken.
-/
import Derived.Test.YtackbajbladhhaaGreatSdA
import Derived.Test.YtackbajbladhhaaGreatScK
import Derived.Test.YtackbajbladhhaaGreatBgM
namespace Go.Proofs.YtackbajbladhhaaGreat
open Go.RowKit Go.Shelf
set_option linter.unusedVariables false
set_option linter.unusedSimpArgs false
attribute [local go_sem] Oper.semAt_some
attribute [-simp] Tryz.sizeOf123 Tryz.typeInfo123

theorem scn_size (s : Scn) : (Tryz.prog.info? 28).map (·.size) = some s.row.toArray.size := by rw [List.size_toArray]; exact size_scn s
theorem id_at {s : Scn} {j : Nat} {y : SObj} (hy : s.os[j]? = some y) {k : Nat} (hj : j < k) (i : Int) (h : y.id = i) : idIn (s.os.take k) i = true := by
  unfold idIn
  rw [List.any_eq_true]
  have hl := (List.getElem?_eq_some_iff.1 hy).1
  refine ⟨j, List.mem_range.2 (by rw [List.length_take]; omega), ?_⟩
  rw [List.getElem?_take_of_lt hj, hy, ← h]
  simp
theorem id_no {s : Scn} {k : Nat} (i : Int) (h : ∀ j y, j < k → s.os[j]? = some y → y.id ≠ i) : idIn (s.os.take k) i = false := by
  unfold idIn
  rw [List.any_eq_false]
  intro j hj
  have hj2 := List.mem_range.1 hj
  rw [List.length_take] at hj2
  rw [List.getElem?_take_of_lt (by omega), List.getElem?_eq_getElem (by omega)]
  have := h j _ (by omega) (List.getElem?_eq_getElem (by omega))
  simpa using this
set_option maxRecDepth 100000 in
set_option maxHeartbeats 2000000 in
theorem rholds4_any (s : Scn) (x : SObj) (k : Nat) (W : World) (hs : s.Ok W) (hsm : SmallS s) (hk : s.os[k]? = some x) :
    Calls Tryz.prog 31 #[s.V, .int .i64 k, .int .i64 4] W fun e w' => e = .returned (.bool (keepsB s k x 4)) ∧ Later W w' := by
  obtain ⟨rr, hrr⟩ : ∃ b, Hid (keepsB s k x 4 = b) := ⟨_, rfl⟩
  rw [hrr.out]
  obtain ⟨X, hX⟩ : ∃ X, X = W.alloc (.cells s.row.toArray 28) := ⟨_, rfl⟩
  have hlX : Later W X := by rw [hX]; exact (Later.refl W).alloc _
  have kS : ScnB X W.heap.size s := by rw [hX]; exact heap_alloc_new _ _
  obtain ⟨ao, cap, hu⟩ := hs.1.form
  rw [List.length_map] at hu
  have hkL : k < s.os.length := (List.getElem?_eq_some_iff.1 hk).1
  obtain ⟨n, hn⟩ : ∃ n, Hid (s.os.length = n) := ⟨_, rfl⟩
  rw [hn.out] at hu hkL
  have so := kS.uo
  rw [hu] at so
  have hOk := hs.later hlX
  have hrv := hOk.1
  rw [hu] at hrv
  obtain ⟨g, o, rfl, hrg⟩ := hrv.at (k := k) (x := x.row) (by rw [List.getElem?_map, hk]; rfl)
  have hxs := size_obj x
  have hki : (k : Int) < n := by omega
  have hxo := hOk.2 x (List.mem_of_getElem? hk)
  obtain ⟨X1, hX1⟩ : ∃ Y, Y = X.alloc (.cells x.row.toArray 52) := ⟨_, rfl⟩
  have hl1 : Later X X1 := by rw [hX1]; exact (Later.refl X).alloc _
  have kX : ObjB X1 X.heap.size x := by rw [hX1]; exact heap_alloc_new _ _
  have hnew := heap_alloc_new X (.cells #[.int .i64 0, .int .i64 0, .int .i64 0, .int .i64 0, .int .i64 0, .int .i64 0, .int .i64 0, .int .i64 0, .int .i64 0, .int .i64 0, .int .i64 0, .int .i64 0, .int .i64 0, .int .i64 0, .int .i64 0, .int .i64 0, .int .i64 0, .slice none 0 0, .slice none 0 0] 52)
  have hz2' : (#[.int .i64 0, .int .i64 0, .int .i64 0, .int .i64 0, .int .i64 0, .int .i64 0, .int .i64 0, .int .i64 0, .int .i64 0, .int .i64 0, .int .i64 0, .int .i64 0, .int .i64 0, .int .i64 0, .int .i64 0, .int .i64 0, .int .i64 0, .slice none 0 0, .slice none 0 0] : Array Value).size = x.row.toArray.size := by rw [show x.row.toArray.size = 19 from by rw [List.size_toArray, SObj.row_length]]; rfl
  have hz1' : x.row.toArray.all (·.oneCell') = true := all_oneCell_toArray (SObj.row_one hxo)
  have hxs2 : (Tryz.prog.info? 52).map (·.size) = some x.row.toArray.size := by rw [List.size_toArray]; exact hxs
  go_enter Tryz.func31, Tryz.ntmps31
  go_upto_region 1 with fail
  rw [← hX]
  clear hX
  first | go_step3 | skip
  go_upto_region 2 with (first | refine wpList_load_mid rfl _ _ rfl g (o + k * 19) rfl x.row _ hrg Tryz.underlying52 rfl hxs ?_ | refine wpList_store_row rfl 52 _ _ rfl X.heap.size x.row.toArray rfl rfl 52 #[.int .i64 0, .int .i64 0, .int .i64 0, .int .i64 0, .int .i64 0, .int .i64 0, .int .i64 0, .int .i64 0, .int .i64 0, .int .i64 0, .int .i64 0, .int .i64 0, .int .i64 0, .int .i64 0, .int .i64 0, .int .i64 0, .int .i64 0, .slice none 0 0, .slice none 0 0] hnew hxs2 hz2' hz1' ?_)
  rw [World.setRow_alloc_new, ← hX1]
  obtain ⟨N, hN⟩ : ∃ a, Hid (W.heap.size = a) := ⟨_, rfl⟩
  obtain ⟨M, hM⟩ : ∃ a, Hid (X.heap.size = a) := ⟨_, rfl⟩
  rw [hN.out] at kS so
  rw [hM.out] at kX
  rw [hN.out, hM.out]
  clear hX1 hnew hz2' hz1' hxs hxs2 hrg
  replace hlX := hlX.trans hl1
  replace hOk := hOk.later hl1
  replace hxo := hxo.later hl1
  replace hrv := hrv.later hl1
  replace so := hl1.cell so
  replace kS : ScnB X1 N s := hl1.row kS
  have hsn : n ≤ 20 := by have h1 := hsm.1; have h2 := hn.out; omega
  clear hl1 hu
  have ci := kX.id
  obtain ⟨xi, hxi⟩ : ∃ b, Hid (x.id = b) := ⟨_, rfl⟩
  rw [hxi.out] at ci
  go_wp2_with fail
  go_loopw [8] (fun y wr => ∃ i : Nat, i ≤ k ∧ y = .int .i64 i ∧ Hid (∀ j y, j < i → s.os[j]? = some y → y.id ≠ xi) ∧ Later X1 wr) (fun y _ => (k + 10 - intOf y).toNat)
  case atStart => exact ⟨0, by omega, rfl, Lib.hid (fun j x hj => by omega), Later.refl _⟩
  case round =>
    obtain ⟨i, hi, rfl, hno, hl⟩ := hrel
    obtain ⟨wi, rfl⟩ : ∃ wo : World, wo = wr := ⟨_, rfl⟩
    by_cases hik : i < k
    · have hiL : i < s.os.length := by rw [hn.out]; omega
      obtain ⟨z, hz⟩ : ∃ x, Hid (s.os[i]? = some x) := ⟨_, Lib.hid (List.getElem?_eq_getElem hiL)⟩
      obtain ⟨g', o', he, hrg⟩ := hrv.at (k := i) (x := z.row) (by rw [List.getElem?_map, hz.out]; rfl)
      obtain ⟨rfl, rfl⟩ : g = g' ∧ o = o' := by cases he; exact ⟨rfl, rfl⟩
      have cz : wi.cell? ⟨g, o + i * 19, none⟩ = some (.int .i64 z.id) := hl.cell (by have := hrg 0 _ rfl; exact this)
      obtain ⟨zi, hzi⟩ : ∃ b, Hid (z.id = b) := ⟨_, rfl⟩
      rw [hzi.out] at cz
      have hin : (i : Int) < n := by omega
      have hiki : (i : Int) < k := by omega
      replace ci := hl.cell ci
      replace so := hl.cell so
      clear hrg he
      by_cases heq : zi = xi
      · have hno2 : Hid (rr = false) := Lib.hid (by
          rw [← hrr.out]
          unfold keepsB
          rw [if_pos rfl, id_at hz.out hik x.id (by rw [hzi.out, heq, hxi.out]), Bool.not_true, Bool.and_false])
        have hd : (zi == xi) = true := by simpa using heq
        clear heq
        go_upto_region 7 with fail
        go_region
        go_wp2_with fail
        go_ret
        exact ⟨by rw [hno2.out]; rfl, hlX.trans (hl.drew)⟩
      · have hno2 : Hid (∀ j y, j < i + 1 → s.os[j]? = some y → y.id ≠ xi) := Lib.hid (fun j y hj hy => by
          by_cases e : j = i
          · rw [e, hz.out] at hy
            obtain rfl := Option.some.inj hy
            rw [hzi.out]; exact heq
          · exact hno.out j y (by omega) hy)
        have hd : (zi == xi) = false := by simpa using heq
        clear heq
        go_upto_region 7 with fail
        go_region
        go_wp2_with fail
        go_roundw
        case rel => exact ⟨i + 1, by omega, by go_num, hno2, hl.drew⟩
        case measure => simp [intOf]; omega
    · obtain rfl : i = k := by omega
      have hres : Hid (rr = (decide (1 ≤ xi) && decide (xi ≤ 65535))) := Lib.hid (by
        rw [← hrr.out]
        unfold keepsB
        rw [if_pos rfl, id_no x.id (fun j y hj hy => by rw [hxi.out]; exact hno.out j y hj hy), hxi.out]
        simp [allIn])
      replace ci := hl.cell ci
      by_cases h1 : 1 ≤ xi
      · by_cases h2 : xi ≤ 65535
        · rw [decide_eq_true h1, decide_eq_true h2] at hres
          go_wp2_with fail
          go_ret
          exact ⟨by rw [hres.out]; rfl, hlX.trans hl⟩
        · rw [decide_eq_true h1, decide_eq_false h2] at hres
          go_wp2_with fail
          go_ret
          exact ⟨by rw [hres.out]; rfl, hlX.trans hl⟩
      · rw [decide_eq_false h1] at hres
        go_wp2_with fail
        go_ret
        exact ⟨by rw [hres.out]; rfl, hlX.trans hl⟩
set_option maxRecDepth 100000 in
set_option maxHeartbeats 2000000 in
theorem rholds5_any (s : Scn) (x : SObj) (k : Nat) (W : World) (hs : s.Ok W) (hsm : SmallS s) (hk : s.os[k]? = some x) :
    Calls Tryz.prog 31 #[s.V, .int .i64 k, .int .i64 5] W fun e w' => e = .returned (.bool (keepsB s k x 5)) ∧ Later W w' := by
  have hC := Lib.hid (fun W => within3_any x.m 16777216 W (by omega))
  obtain ⟨rr, hrr⟩ : ∃ b, Hid (keepsB s k x 5 = b) := ⟨_, rfl⟩
  rw [hrr.out]
  rw [show decide (Within 16777216 16 x.m) = rr from by rw [← hrr.out]; unfold keepsB; rfl] at hC
  obtain ⟨X, hX⟩ : ∃ X, X = W.alloc (.cells s.row.toArray 28) := ⟨_, rfl⟩
  have hlX : Later W X := by rw [hX]; exact (Later.refl W).alloc _
  have kS : ScnB X W.heap.size s := by rw [hX]; exact heap_alloc_new _ _
  obtain ⟨ao, cap, hu⟩ := hs.1.form
  rw [List.length_map] at hu
  have hkL : k < s.os.length := (List.getElem?_eq_some_iff.1 hk).1
  obtain ⟨n, hn⟩ : ∃ n, Hid (s.os.length = n) := ⟨_, rfl⟩
  rw [hn.out] at hu hkL
  have so := kS.uo
  rw [hu] at so
  have hOk := hs.later hlX
  have hrv := hOk.1
  rw [hu] at hrv
  obtain ⟨g, o, rfl, hrg⟩ := hrv.at (k := k) (x := x.row) (by rw [List.getElem?_map, hk]; rfl)
  have hxs := size_obj x
  have hki : (k : Int) < n := by omega
  have hxo := hOk.2 x (List.mem_of_getElem? hk)
  obtain ⟨X1, hX1⟩ : ∃ Y, Y = X.alloc (.cells x.row.toArray 52) := ⟨_, rfl⟩
  have hl1 : Later X X1 := by rw [hX1]; exact (Later.refl X).alloc _
  have kX : ObjB X1 X.heap.size x := by rw [hX1]; exact heap_alloc_new _ _
  have hnew := heap_alloc_new X (.cells #[.int .i64 0, .int .i64 0, .int .i64 0, .int .i64 0, .int .i64 0, .int .i64 0, .int .i64 0, .int .i64 0, .int .i64 0, .int .i64 0, .int .i64 0, .int .i64 0, .int .i64 0, .int .i64 0, .int .i64 0, .int .i64 0, .int .i64 0, .slice none 0 0, .slice none 0 0] 52)
  have hz2' : (#[.int .i64 0, .int .i64 0, .int .i64 0, .int .i64 0, .int .i64 0, .int .i64 0, .int .i64 0, .int .i64 0, .int .i64 0, .int .i64 0, .int .i64 0, .int .i64 0, .int .i64 0, .int .i64 0, .int .i64 0, .int .i64 0, .int .i64 0, .slice none 0 0, .slice none 0 0] : Array Value).size = x.row.toArray.size := by rw [show x.row.toArray.size = 19 from by rw [List.size_toArray, SObj.row_length]]; rfl
  have hz1' : x.row.toArray.all (·.oneCell') = true := all_oneCell_toArray (SObj.row_one hxo)
  have hxs2 : (Tryz.prog.info? 52).map (·.size) = some x.row.toArray.size := by rw [List.size_toArray]; exact hxs
  go_enter Tryz.func31, Tryz.ntmps31
  go_upto_region 1 with fail
  rw [← hX]
  clear hX
  first | go_step3 | skip
  go_upto_region 2 with (first | refine wpList_load_mid rfl _ _ rfl g (o + k * 19) rfl x.row _ hrg Tryz.underlying52 rfl hxs ?_ | refine wpList_store_row rfl 52 _ _ rfl X.heap.size x.row.toArray rfl rfl 52 #[.int .i64 0, .int .i64 0, .int .i64 0, .int .i64 0, .int .i64 0, .int .i64 0, .int .i64 0, .int .i64 0, .int .i64 0, .int .i64 0, .int .i64 0, .int .i64 0, .int .i64 0, .int .i64 0, .int .i64 0, .int .i64 0, .int .i64 0, .slice none 0 0, .slice none 0 0] hnew hxs2 hz2' hz1' ?_)
  rw [World.setRow_alloc_new, ← hX1]
  obtain ⟨N, hN⟩ : ∃ a, Hid (W.heap.size = a) := ⟨_, rfl⟩
  obtain ⟨M, hM⟩ : ∃ a, Hid (X.heap.size = a) := ⟨_, rfl⟩
  rw [hN.out] at kS so
  rw [hM.out] at kX
  rw [hN.out, hM.out]
  clear hX1 hnew hz2' hz1' hxs hxs2 hrg
  replace hlX := hlX.trans hl1
  replace hOk := hOk.later hl1
  replace hxo := hxo.later hl1
  replace hrv := hrv.later hl1
  replace so := hl1.cell so
  replace kS : ScnB X1 N s := hl1.row kS
  have hsn : n ≤ 20 := by have h1 := hsm.1; have h2 := hn.out; omega
  clear hl1 hu
  have om := kX.mat
  have hsm := len_mat x.m
  go_wp2_with (refine wpList_load_mid rfl _ _ rfl M 1 rfl _ _ om Tryz.underlying25 rfl hsm ?_)
  refine (hC.out _).mono ?_
  rintro e w2 ⟨rfl, hl2⟩
  go_wp2_with fail
  go_ret
  exact ⟨rfl, hlX.trans hl2⟩
set_option maxRecDepth 100000 in
set_option maxHeartbeats 2000000 in
theorem rholds6_any (s : Scn) (x : SObj) (k : Nat) (W : World) (hs : s.Ok W) (hsm : SmallS s) (hk : s.os[k]? = some x) :
    Calls Tryz.prog 31 #[s.V, .int .i64 k, .int .i64 6] W fun e w' => e = .returned (.bool (keepsB s k x 6)) ∧ Later W w' := by
  obtain ⟨rr, hrr⟩ : ∃ b, Hid (keepsB s k x 6 = b) := ⟨_, rfl⟩
  obtain ⟨p, ev, hAp, hxe⟩ : ∃ (p : Nat → Int) (ev : Int), Hid (∀ V, Calls Tryz.prog 34 #[matV s.cam, matV x.m] V fun e w' => e = .returned (.tuple #[matV p, .int .i64 ev]) ∧ Later V w') ∧ Hid ((ev = 0 ∧ rr = decide (Within 67108864 16 p)) ∨ (ev = 30 ∧ rr = false)) := by
    by_cases hD : mulMay s.cam x.m
    · refine ⟨_, _, Lib.hid (fun V => mul3_any s.cam x.m V _ (fun _ => rfl) (fun h => absurd hD h)), Lib.hid (Or.inl ⟨rfl, ?_⟩)⟩
      rw [← hrr.out]
      unfold keepsB
      simp [hD]
    · refine ⟨_, _, Lib.hid (fun V => mul3_any s.cam x.m V _ (fun h => absurd h hD) (fun _ => rfl)), Lib.hid (Or.inr ⟨rfl, ?_⟩)⟩
      rw [← hrr.out]
      unfold keepsB
      simp [hD]
  have hC := Lib.hid (fun W => within3_any p 67108864 W (by omega))
  obtain ⟨b2, hb2⟩ : ∃ b, Hid (decide (Within 67108864 16 p) = b) := ⟨_, rfl⟩
  rw [hb2.out] at hC hxe
  rw [hrr.out]
  obtain ⟨X, hX⟩ : ∃ X, X = W.alloc (.cells s.row.toArray 28) := ⟨_, rfl⟩
  have hlX : Later W X := by rw [hX]; exact (Later.refl W).alloc _
  have kS : ScnB X W.heap.size s := by rw [hX]; exact heap_alloc_new _ _
  obtain ⟨ao, cap, hu⟩ := hs.1.form
  rw [List.length_map] at hu
  have hkL : k < s.os.length := (List.getElem?_eq_some_iff.1 hk).1
  obtain ⟨n, hn⟩ : ∃ n, Hid (s.os.length = n) := ⟨_, rfl⟩
  rw [hn.out] at hu hkL
  have so := kS.uo
  rw [hu] at so
  have hOk := hs.later hlX
  have hrv := hOk.1
  rw [hu] at hrv
  obtain ⟨g, o, rfl, hrg⟩ := hrv.at (k := k) (x := x.row) (by rw [List.getElem?_map, hk]; rfl)
  have hxs := size_obj x
  have hki : (k : Int) < n := by omega
  have hxo := hOk.2 x (List.mem_of_getElem? hk)
  obtain ⟨X1, hX1⟩ : ∃ Y, Y = X.alloc (.cells x.row.toArray 52) := ⟨_, rfl⟩
  have hl1 : Later X X1 := by rw [hX1]; exact (Later.refl X).alloc _
  have kX : ObjB X1 X.heap.size x := by rw [hX1]; exact heap_alloc_new _ _
  have hnew := heap_alloc_new X (.cells #[.int .i64 0, .int .i64 0, .int .i64 0, .int .i64 0, .int .i64 0, .int .i64 0, .int .i64 0, .int .i64 0, .int .i64 0, .int .i64 0, .int .i64 0, .int .i64 0, .int .i64 0, .int .i64 0, .int .i64 0, .int .i64 0, .int .i64 0, .slice none 0 0, .slice none 0 0] 52)
  have hz2' : (#[.int .i64 0, .int .i64 0, .int .i64 0, .int .i64 0, .int .i64 0, .int .i64 0, .int .i64 0, .int .i64 0, .int .i64 0, .int .i64 0, .int .i64 0, .int .i64 0, .int .i64 0, .int .i64 0, .int .i64 0, .int .i64 0, .int .i64 0, .slice none 0 0, .slice none 0 0] : Array Value).size = x.row.toArray.size := by rw [show x.row.toArray.size = 19 from by rw [List.size_toArray, SObj.row_length]]; rfl
  have hz1' : x.row.toArray.all (·.oneCell') = true := all_oneCell_toArray (SObj.row_one hxo)
  have hxs2 : (Tryz.prog.info? 52).map (·.size) = some x.row.toArray.size := by rw [List.size_toArray]; exact hxs
  go_enter Tryz.func31, Tryz.ntmps31
  go_upto_region 1 with fail
  rw [← hX]
  clear hX
  first | go_step3 | skip
  go_upto_region 2 with (first | refine wpList_load_mid rfl _ _ rfl g (o + k * 19) rfl x.row _ hrg Tryz.underlying52 rfl hxs ?_ | refine wpList_store_row rfl 52 _ _ rfl X.heap.size x.row.toArray rfl rfl 52 #[.int .i64 0, .int .i64 0, .int .i64 0, .int .i64 0, .int .i64 0, .int .i64 0, .int .i64 0, .int .i64 0, .int .i64 0, .int .i64 0, .int .i64 0, .int .i64 0, .int .i64 0, .int .i64 0, .int .i64 0, .int .i64 0, .int .i64 0, .slice none 0 0, .slice none 0 0] hnew hxs2 hz2' hz1' ?_)
  rw [World.setRow_alloc_new, ← hX1]
  obtain ⟨N, hN⟩ : ∃ a, Hid (W.heap.size = a) := ⟨_, rfl⟩
  obtain ⟨M, hM⟩ : ∃ a, Hid (X.heap.size = a) := ⟨_, rfl⟩
  rw [hN.out] at kS so
  rw [hM.out] at kX
  rw [hN.out, hM.out]
  clear hX1 hnew hz2' hz1' hxs hxs2 hrg
  replace hlX := hlX.trans hl1
  replace hOk := hOk.later hl1
  replace hxo := hxo.later hl1
  replace hrv := hrv.later hl1
  replace so := hl1.cell so
  replace kS : ScnB X1 N s := hl1.row kS
  have hsn : n ≤ 20 := by have h1 := hsm.1; have h2 := hn.out; omega
  clear hl1 hu
  have om := kX.mat
  have sm := kS.cam
  have hsm := len_mat x.m
  have hsc := len_mat s.cam
  go_wp2_with (first | refine wpList_load_mid rfl _ _ rfl M 1 rfl _ _ om Tryz.underlying25 rfl hsm ?_ | refine wpList_load_mid rfl _ _ rfl N 2 rfl _ _ sm Tryz.underlying25 rfl hsc ?_)
  refine (hAp.out _).mono ?_
  rintro e w2 ⟨rfl, hl2⟩
  have hnw := heap_alloc_new w2 (.cells #[.int .i64 0, .int .i64 0, .int .i64 0, .int .i64 0, .int .i64 0, .int .i64 0, .int .i64 0, .int .i64 0, .int .i64 0, .int .i64 0, .int .i64 0, .int .i64 0, .int .i64 0, .int .i64 0, .int .i64 0, .int .i64 0] 25)
  have kP : matB ((w2.alloc (.cells #[.int .i64 0, .int .i64 0, .int .i64 0, .int .i64 0, .int .i64 0, .int .i64 0, .int .i64 0, .int .i64 0, .int .i64 0, .int .i64 0, .int .i64 0, .int .i64 0, .int .i64 0, .int .i64 0, .int .i64 0, .int .i64 0] 25)).setRow w2.heap.size (rowV 16 p)) w2.heap.size p := setRow_heap _ _ _ _ _ _ hnw
  have hlP := ((Later.refl w2).alloc (.cells #[.int .i64 0, .int .i64 0, .int .i64 0, .int .i64 0, .int .i64 0, .int .i64 0, .int .i64 0, .int .i64 0, .int .i64 0, .int .i64 0, .int .i64 0, .int .i64 0, .int .i64 0, .int .i64 0, .int .i64 0, .int .i64 0] 25)).setRow (Nat.le_refl _) (rowV 16 p)
  go_wp2_with (first | refine wpList_store_row rfl 25 _ _ rfl w2.heap.size (rowV 16 p) rfl rfl 25 #[.int .i64 0, .int .i64 0, .int .i64 0, .int .i64 0, .int .i64 0, .int .i64 0, .int .i64 0, .int .i64 0, .int .i64 0, .int .i64 0, .int .i64 0, .int .i64 0, .int .i64 0, .int .i64 0, .int .i64 0, .int .i64 0] hnw (size_mat p) (by rw [rowV_size]; rfl) (rowV_one 16 _) ?_ | refine wpList_load_row rfl _ _ rfl w2.heap.size rfl _ _ (0, 0) _ kP Tryz.underlying25 rfl (size_mat p) ?_)
  refine (hC.out _).mono ?_
  rintro e w3 ⟨rfl, hl3⟩
  have hlF := ((hlX.trans hl2).trans hlP).trans hl3
  clear hC hAp hnw kP hlP om sm
  rcases hxe.out with ⟨rfl, rfl⟩ | ⟨rfl, rfl⟩
  · go_wp2_with fail
    go_ret
    exact ⟨by simp, hlF⟩
  · go_wp2_with fail
    go_ret
    exact ⟨rfl, hlF⟩
end Go.Proofs.YtackbajbladhhaaGreat
namespace Go.Proofs.YtackbajbladhhaaGreat
open Go.RowKit Go.Shelf
set_option linter.unusedVariables false
set_option linter.unusedSimpArgs false
attribute [local go_sem] Oper.semAt_some
attribute [-simp] Tryz.sizeOf123 Tryz.typeInfo123

def farN (n : Int) : Bool := decide (1073741824 < n) || decide (n < -1073741824)
theorem farB_eq (v : V3) : farB v = (farN v.1 || (farN v.2.1 || farN v.2.2)) := by
  unfold farB farN
  rw [Bool.eq_iff_iff]
  simp only [decide_eq_true_eq, Bool.or_eq_true]
  omega
theorem rfar_any (n : Int) (W : World) : Calls Tryz.prog 35 #[.int .i64 n] W fun e w' => e = .returned (.bool (farN n)) ∧ Later W w' := by
  unfold farN
  by_cases h1 : 1073741824 < n
  · rw [decide_eq_true h1]
    go_enter Tryz.func35, Tryz.ntmps35
    go_wp2_with fail
    go_ret
    exact ⟨rfl, Later.refl _⟩
  · rw [decide_eq_false h1]
    by_cases h2 : n < -1073741824
    · rw [decide_eq_true h2]
      go_enter Tryz.func35, Tryz.ntmps35
      go_wp2_with fail
      go_ret
      exact ⟨rfl, Later.refl _⟩
    · rw [decide_eq_false h2]
      go_enter Tryz.func35, Tryz.ntmps35
      go_wp2_with fail
      go_ret
      exact ⟨rfl, Later.refl _⟩
set_option maxRecDepth 100000 in
set_option maxHeartbeats 2000000 in
theorem rholds7_any (s : Scn) (x : SObj) (k : Nat) (W : World) (hs : s.Ok W) (hsm : SmallS s) (hk : s.os[k]? = some x) :
    Calls Tryz.prog 31 #[s.V, .int .i64 k, .int .i64 7] W fun e w' => e = .returned (.bool (keepsB s k x 7)) ∧ Later W w' := by
  obtain ⟨rr, hrr⟩ : ∃ b, Hid (keepsB s k x 7 = b) := ⟨_, rfl⟩
  rw [hrr.out]
  have hF := Lib.hid (fun n W => rfar_any n W)
  obtain ⟨X, hX⟩ : ∃ X, X = W.alloc (.cells s.row.toArray 28) := ⟨_, rfl⟩
  have hlX : Later W X := by rw [hX]; exact (Later.refl W).alloc _
  have kS : ScnB X W.heap.size s := by rw [hX]; exact heap_alloc_new _ _
  obtain ⟨ao, cap, hu⟩ := hs.1.form
  rw [List.length_map] at hu
  have hkL : k < s.os.length := (List.getElem?_eq_some_iff.1 hk).1
  obtain ⟨n, hn⟩ : ∃ n, Hid (s.os.length = n) := ⟨_, rfl⟩
  rw [hn.out] at hu hkL
  have so := kS.uo
  rw [hu] at so
  have hOk := hs.later hlX
  have hrv := hOk.1
  rw [hu] at hrv
  obtain ⟨g, o, rfl, hrg⟩ := hrv.at (k := k) (x := x.row) (by rw [List.getElem?_map, hk]; rfl)
  have hxs := size_obj x
  have hki : (k : Int) < n := by omega
  have hxo := hOk.2 x (List.mem_of_getElem? hk)
  obtain ⟨X1, hX1⟩ : ∃ Y, Y = X.alloc (.cells x.row.toArray 52) := ⟨_, rfl⟩
  have hl1 : Later X X1 := by rw [hX1]; exact (Later.refl X).alloc _
  have kX : ObjB X1 X.heap.size x := by rw [hX1]; exact heap_alloc_new _ _
  have hnew := heap_alloc_new X (.cells #[.int .i64 0, .int .i64 0, .int .i64 0, .int .i64 0, .int .i64 0, .int .i64 0, .int .i64 0, .int .i64 0, .int .i64 0, .int .i64 0, .int .i64 0, .int .i64 0, .int .i64 0, .int .i64 0, .int .i64 0, .int .i64 0, .int .i64 0, .slice none 0 0, .slice none 0 0] 52)
  have hz2' : (#[.int .i64 0, .int .i64 0, .int .i64 0, .int .i64 0, .int .i64 0, .int .i64 0, .int .i64 0, .int .i64 0, .int .i64 0, .int .i64 0, .int .i64 0, .int .i64 0, .int .i64 0, .int .i64 0, .int .i64 0, .int .i64 0, .int .i64 0, .slice none 0 0, .slice none 0 0] : Array Value).size = x.row.toArray.size := by rw [show x.row.toArray.size = 19 from by rw [List.size_toArray, SObj.row_length]]; rfl
  have hz1' : x.row.toArray.all (·.oneCell') = true := all_oneCell_toArray (SObj.row_one hxo)
  have hxs2 : (Tryz.prog.info? 52).map (·.size) = some x.row.toArray.size := by rw [List.size_toArray]; exact hxs
  go_enter Tryz.func31, Tryz.ntmps31
  go_upto_region 1 with fail
  rw [← hX]
  clear hX
  first | go_step3 | skip
  go_upto_region 2 with (first | refine wpList_load_mid rfl _ _ rfl g (o + k * 19) rfl x.row _ hrg Tryz.underlying52 rfl hxs ?_ | refine wpList_store_row rfl 52 _ _ rfl X.heap.size x.row.toArray rfl rfl 52 #[.int .i64 0, .int .i64 0, .int .i64 0, .int .i64 0, .int .i64 0, .int .i64 0, .int .i64 0, .int .i64 0, .int .i64 0, .int .i64 0, .int .i64 0, .int .i64 0, .int .i64 0, .int .i64 0, .int .i64 0, .int .i64 0, .int .i64 0, .slice none 0 0, .slice none 0 0] hnew hxs2 hz2' hz1' ?_)
  rw [World.setRow_alloc_new, ← hX1]
  obtain ⟨N, hN⟩ : ∃ a, Hid (W.heap.size = a) := ⟨_, rfl⟩
  obtain ⟨M, hM⟩ : ∃ a, Hid (X.heap.size = a) := ⟨_, rfl⟩
  rw [hN.out] at kS so
  rw [hM.out] at kX
  rw [hN.out, hM.out]
  clear hX1 hnew hz2' hz1' hxs hxs2 hrg
  replace hlX := hlX.trans hl1
  replace hOk := hOk.later hl1
  replace hxo := hxo.later hl1
  replace hrv := hrv.later hl1
  replace so := hl1.cell so
  replace kS : ScnB X1 N s := hl1.row kS
  have hsn : n ≤ 20 := by have h1 := hsm.1; have h2 := hn.out; omega
  clear hl1 hu
  obtain ⟨av, cv, hxv⟩ := hxo.1.form
  rw [List.length_map] at hxv
  have ou := kX.uv
  have hx1 := hxo.1
  rw [hxv] at ou hx1
  obtain ⟨nv, hnv⟩ : ∃ n, Hid (x.vs.length = n) := ⟨_, rfl⟩
  rw [hnv.out] at ou hx1
  have hnv80 : nv ≤ 80 := by have h1 := (hsm.2 x (List.mem_of_getElem? hk)).1; have h2 := hnv.out; omega
  clear hxv hxo
  go_wp2_with fail
  go_loopw [12] (fun y wr => ∃ i : Nat, i ≤ nv ∧ y = .int .i64 i ∧ Hid (∀ j v, j < i → x.vs[j]? = some v → farB v = false) ∧ Later X1 wr) (fun y _ => (nv + 10 - intOf y).toNat)
  case atStart => exact ⟨0, by omega, rfl, Lib.hid (fun j x hj => by omega), Later.refl _⟩
  case round =>
    obtain ⟨i, hi, rfl, hno, hl⟩ := hrel
    obtain ⟨wi, rfl⟩ : ∃ wo : World, wo = wr := ⟨_, rfl⟩
    have ouw := hl.cell ou
    by_cases hik : i < nv
    · have hiL : i < x.vs.length := by rw [hnv.out]; omega
      obtain ⟨v, hv⟩ : ∃ v, Hid (x.vs[i]? = some v) := ⟨_, Lib.hid (List.getElem?_eq_getElem hiL)⟩
      obtain ⟨g', o', rfl, hrg⟩ := (hx1.later hl).at (k := i) (x := vrow v) (by rw [List.getElem?_map, hv.out]; rfl)
      obtain ⟨a, b, c⟩ := v
      have c0 : wi.cell? ⟨g', o' + i * 3, none⟩ = some (.int .i64 a) := hrg 0 _ rfl
      have c1 : wi.cell? ⟨g', o' + i * 3 + 1, none⟩ = some (.int .i64 b) := hrg 1 _ rfl
      have c2 : wi.cell? ⟨g', o' + i * 3 + 2, none⟩ = some (.int .i64 c) := hrg 2 _ rfl
      have hin : (i : Int) < nv := by omega
      have hfb : Hid (farB (a, b, c) = (farN a || (farN b || farN c))) := Lib.hid (farB_eq (a, b, c))
      have hFa := Lib.hid (hF.out a)
      have hFb := Lib.hid (hF.out b)
      have hFc := Lib.hid (hF.out c)
      obtain ⟨ba, hba⟩ : ∃ z, Hid (farN a = z) := ⟨_, rfl⟩
      obtain ⟨bb, hbb⟩ : ∃ z, Hid (farN b = z) := ⟨_, rfl⟩
      obtain ⟨bc, hbc⟩ : ∃ z, Hid (farN c = z) := ⟨_, rfl⟩
      rw [hba.out] at hFa hfb
      rw [hbb.out] at hFb hfb
      rw [hbc.out] at hFc hfb
      clear hrg
      go_wp2_with fail
      refine (hFa.out _).mono ?_
      rintro e w1 ⟨rfl, hl1⟩
      replace ouw := hl1.cell ouw
      replace c1 := hl1.cell c1
      replace c2 := hl1.cell c2
      go_wp2_with fail
      refine (hFb.out _).mono ?_
      rintro e w2 ⟨rfl, hl2⟩
      replace ouw := hl2.cell ouw
      replace c2 := hl2.cell c2
      go_wp2_with fail
      refine (hFc.out _).mono ?_
      rintro e w3 ⟨rfl, hl3⟩
      have hl4 := ((hl.trans hl1).trans hl2).trans hl3
      clear hFa hFb hFc c0 c1 c2 hba hbb hbc
      obtain ⟨bz, hbz⟩ : ∃ z, Hid ((ba || (bb || bc)) = z) := ⟨_, rfl⟩
      rw [hbz.out] at hfb
      cases bz
      · have hz := hbz.out
        rw [Bool.or_eq_false_iff, Bool.or_eq_false_iff] at hz
        obtain ⟨rfl, rfl, rfl⟩ := hz
        have hno2 : Hid (∀ j v, j < i + 1 → x.vs[j]? = some v → farB v = false) := Lib.hid (fun j y hj hy => by
          by_cases e : j = i
          · rw [e, hv.out] at hy
            obtain rfl := Option.some.inj hy
            exact hfb.out
          · exact hno.out j y (by omega) hy)
        clear hbz hfb hno
        go_wp2_with fail
        go_roundw
        case rel => exact ⟨i + 1, by omega, by go_num, hno2, hl4⟩
        case measure => simp [intOf]; omega
      · have hres : Hid (rr = false) := Lib.hid (by
          rw [← hrr.out]
          unfold keepsB nearAll
          rw [if_neg (by decide), if_neg (by decide), if_neg (by decide), if_pos rfl]
          rw [List.all_eq_false.2 ⟨_, List.mem_of_getElem? hv.out, by rw [hfb.out]; decide⟩, Bool.and_false])
        have hz := hbz.out
        clear hbz hfb hno hv
        cases ba <;> cases bb <;> cases bc <;> first
          | (exact absurd hz (by decide))
          | (clear hz; go_wp2_with fail; go_ret; exact ⟨by rw [hres.out]; rfl, hlX.trans hl4⟩)
    · obtain rfl : i = nv := by omega
      have hres : Hid (rr = decide (i ≤ 64)) := Lib.hid (by
        rw [← hrr.out]
        unfold keepsB nearAll
        rw [if_neg (by decide), if_neg (by decide), if_neg (by decide), if_pos rfl]
        rw [List.all_eq_true.2 (fun v hv => by
          obtain ⟨j, hj, rfl⟩ := List.getElem_of_mem hv
          rw [hno.out j _ (by rw [← hnv.out]; exact hj) (List.getElem?_eq_getElem hj)]; rfl), Bool.and_true, hnv.out])
      clear hno
      by_cases h64 : i ≤ 64
      · rw [decide_eq_true h64] at hres
        have h64i : (i : Int) ≤ 64 := by omega
        go_wp2_with fail
        go_ret
        exact ⟨by rw [hres.out]; rfl, hlX.trans hl⟩
      · rw [decide_eq_false h64] at hres
        have h64i : ¬ (i : Int) ≤ 64 := by omega
        go_wp2_with fail
        go_ret
        exact ⟨by rw [hres.out]; rfl, hlX.trans hl⟩
theorem triB_eq (n : Nat) (t : T4) : triB n t = !(decide (t.1 < 0) || (decide (t.2.1 < 0) || (decide (t.2.2.1 < 0) || (decide ((n : Int) ≤ t.1) || (decide ((n : Int) ≤ t.2.1) || decide ((n : Int) ≤ t.2.2.1)))))) := by
  unfold triB allIn
  rw [Bool.eq_iff_iff]
  simp
  omega
set_option maxRecDepth 100000 in
set_option maxHeartbeats 2000000 in
theorem rholds8_any (s : Scn) (x : SObj) (k : Nat) (W : World) (hs : s.Ok W) (hsm : SmallS s) (hk : s.os[k]? = some x) :
    Calls Tryz.prog 31 #[s.V, .int .i64 k, .int .i64 8] W fun e w' => e = .returned (.bool (keepsB s k x 8)) ∧ Later W w' := by
  obtain ⟨rr, hrr⟩ : ∃ b, Hid (keepsB s k x 8 = b) := ⟨_, rfl⟩
  rw [hrr.out]
  obtain ⟨X, hX⟩ : ∃ X, X = W.alloc (.cells s.row.toArray 28) := ⟨_, rfl⟩
  have hlX : Later W X := by rw [hX]; exact (Later.refl W).alloc _
  have kS : ScnB X W.heap.size s := by rw [hX]; exact heap_alloc_new _ _
  obtain ⟨ao, cap, hu⟩ := hs.1.form
  rw [List.length_map] at hu
  have hkL : k < s.os.length := (List.getElem?_eq_some_iff.1 hk).1
  obtain ⟨n, hn⟩ : ∃ n, Hid (s.os.length = n) := ⟨_, rfl⟩
  rw [hn.out] at hu hkL
  have so := kS.uo
  rw [hu] at so
  have hOk := hs.later hlX
  have hrv := hOk.1
  rw [hu] at hrv
  obtain ⟨g, o, rfl, hrg⟩ := hrv.at (k := k) (x := x.row) (by rw [List.getElem?_map, hk]; rfl)
  have hxs := size_obj x
  have hki : (k : Int) < n := by omega
  have hxo := hOk.2 x (List.mem_of_getElem? hk)
  obtain ⟨X1, hX1⟩ : ∃ Y, Y = X.alloc (.cells x.row.toArray 52) := ⟨_, rfl⟩
  have hl1 : Later X X1 := by rw [hX1]; exact (Later.refl X).alloc _
  have kX : ObjB X1 X.heap.size x := by rw [hX1]; exact heap_alloc_new _ _
  have hnew := heap_alloc_new X (.cells #[.int .i64 0, .int .i64 0, .int .i64 0, .int .i64 0, .int .i64 0, .int .i64 0, .int .i64 0, .int .i64 0, .int .i64 0, .int .i64 0, .int .i64 0, .int .i64 0, .int .i64 0, .int .i64 0, .int .i64 0, .int .i64 0, .int .i64 0, .slice none 0 0, .slice none 0 0] 52)
  have hz2' : (#[.int .i64 0, .int .i64 0, .int .i64 0, .int .i64 0, .int .i64 0, .int .i64 0, .int .i64 0, .int .i64 0, .int .i64 0, .int .i64 0, .int .i64 0, .int .i64 0, .int .i64 0, .int .i64 0, .int .i64 0, .int .i64 0, .int .i64 0, .slice none 0 0, .slice none 0 0] : Array Value).size = x.row.toArray.size := by rw [show x.row.toArray.size = 19 from by rw [List.size_toArray, SObj.row_length]]; rfl
  have hz1' : x.row.toArray.all (·.oneCell') = true := all_oneCell_toArray (SObj.row_one hxo)
  have hxs2 : (Tryz.prog.info? 52).map (·.size) = some x.row.toArray.size := by rw [List.size_toArray]; exact hxs
  go_enter Tryz.func31, Tryz.ntmps31
  go_upto_region 1 with fail
  rw [← hX]
  clear hX
  first | go_step3 | skip
  go_upto_region 2 with (first | refine wpList_load_mid rfl _ _ rfl g (o + k * 19) rfl x.row _ hrg Tryz.underlying52 rfl hxs ?_ | refine wpList_store_row rfl 52 _ _ rfl X.heap.size x.row.toArray rfl rfl 52 #[.int .i64 0, .int .i64 0, .int .i64 0, .int .i64 0, .int .i64 0, .int .i64 0, .int .i64 0, .int .i64 0, .int .i64 0, .int .i64 0, .int .i64 0, .int .i64 0, .int .i64 0, .int .i64 0, .int .i64 0, .int .i64 0, .int .i64 0, .slice none 0 0, .slice none 0 0] hnew hxs2 hz2' hz1' ?_)
  rw [World.setRow_alloc_new, ← hX1]
  obtain ⟨N, hN⟩ : ∃ a, Hid (W.heap.size = a) := ⟨_, rfl⟩
  obtain ⟨M, hM⟩ : ∃ a, Hid (X.heap.size = a) := ⟨_, rfl⟩
  rw [hN.out] at kS so
  rw [hM.out] at kX
  rw [hN.out, hM.out]
  clear hX1 hnew hz2' hz1' hxs hxs2 hrg
  replace hlX := hlX.trans hl1
  replace hOk := hOk.later hl1
  replace hxo := hxo.later hl1
  replace hrv := hrv.later hl1
  replace so := hl1.cell so
  replace kS : ScnB X1 N s := hl1.row kS
  have hsn : n ≤ 20 := by have h1 := hsm.1; have h2 := hn.out; omega
  clear hl1 hu
  obtain ⟨av, cv, hxv⟩ := hxo.1.form
  obtain ⟨at', ct, hxt⟩ := hxo.2.form
  rw [List.length_map] at hxv hxt
  have ou := kX.uv
  have ot := kX.ut
  have hx1 := hxo.2
  rw [hxv] at ou
  rw [hxt] at ot hx1
  obtain ⟨nv, hnv⟩ : ∃ n, Hid (x.vs.length = n) := ⟨_, rfl⟩
  obtain ⟨nt, hnt⟩ : ∃ n, Hid (x.ts.length = n) := ⟨_, rfl⟩
  rw [hnv.out] at ou
  rw [hnt.out] at ot hx1
  have hnt80 : nt ≤ 80 := by have h1 := (hsm.2 x (List.mem_of_getElem? hk)).2; have h2 := hnt.out; omega
  clear hxv hxt hxo
  go_wp2_with fail
  go_loopw [17] (fun y wr => ∃ i : Nat, i ≤ nt ∧ y = .int .i64 i ∧ Hid (∀ j t, j < i → x.ts[j]? = some t → triB nv t = true) ∧ Later X1 wr) (fun y _ => (nt + 10 - intOf y).toNat)
  case atStart => exact ⟨0, by omega, rfl, Lib.hid (fun j x hj => by omega), Later.refl _⟩
  case round =>
    obtain ⟨i, hi, rfl, hno, hl⟩ := hrel
    obtain ⟨wi, rfl⟩ : ∃ wo : World, wo = wr := ⟨_, rfl⟩
    have otw := hl.cell ot
    by_cases hik : i < nt
    · have hiL : i < x.ts.length := by rw [hnt.out]; omega
      obtain ⟨v, hv⟩ : ∃ v, Hid (x.ts[i]? = some v) := ⟨_, Lib.hid (List.getElem?_eq_getElem hiL)⟩
      obtain ⟨g', o', rfl, hrg⟩ := (hx1.later hl).at (k := i) (x := trow v) (by rw [List.getElem?_map, hv.out]; rfl)
      obtain ⟨a, b, c, col⟩ := v
      have c0 : wi.cell? ⟨g', o' + i * 4, none⟩ = some (.int .i64 a) := hrg 0 _ rfl
      have c1 : wi.cell? ⟨g', o' + i * 4 + 1, none⟩ = some (.int .i64 b) := hrg 1 _ rfl
      have c2 : wi.cell? ⟨g', o' + i * 4 + 2, none⟩ = some (.int .i64 c) := hrg 2 _ rfl
      have c3 : wi.cell? ⟨g', o' + i * 4 + 3, none⟩ = some (.int .u32 col) := hrg 3 _ rfl
      have hin : (i : Int) < nt := by omega
      have hfb : Hid (triB nv (a, b, c, col) = !(decide (a < 0) || (decide (b < 0) || (decide (c < 0) || (decide ((nv : Int) ≤ a) || (decide ((nv : Int) ≤ b) || decide ((nv : Int) ≤ c))))))) := Lib.hid (triB_eq nv (a, b, c, col))
      have hl2 : Later X1 (wi.alloc (.cells #[.int .i64 a, .int .i64 b, .int .i64 c, .int .u32 col] 75)) := hl.alloc _
      clear hrg
      by_cases hbad : a < 0 ∨ b < 0 ∨ c < 0 ∨ (nv : Int) ≤ a ∨ (nv : Int) ≤ b ∨ (nv : Int) ≤ c
      · have hres : Hid (rr = false) := Lib.hid (by
          rw [← hrr.out]
          unfold keepsB triAll
          rw [if_neg (by decide), if_neg (by decide), if_neg (by decide), if_neg (by decide)]
          rw [List.all_eq_false.2 ⟨_, List.mem_of_getElem? hv.out, by
            rw [hnv.out, hfb.out]
            simp only [Bool.not_not, Bool.not_eq_true, Bool.not_eq_false', Bool.or_eq_true, decide_eq_true_eq]
            exact hbad⟩, Bool.and_false])
        clear hfb hno hv
        rcases Classical.em (a < 0) with d1 | d1
        · clear hbad
          go_wp2_with fail
          go_ret
          exact ⟨by rw [hres.out]; rfl, hlX.trans hl2⟩
        rcases Classical.em (b < 0) with d2 | d2
        · clear hbad
          go_wp2_with fail
          go_ret
          exact ⟨by rw [hres.out]; rfl, hlX.trans hl2⟩
        rcases Classical.em (c < 0) with d3 | d3
        · clear hbad
          go_wp2_with fail
          go_ret
          exact ⟨by rw [hres.out]; rfl, hlX.trans hl2⟩
        rcases Classical.em ((nv : Int) ≤ a) with d4 | d4
        · clear hbad
          go_wp2_with fail
          go_ret
          exact ⟨by rw [hres.out]; rfl, hlX.trans hl2⟩
        rcases Classical.em ((nv : Int) ≤ b) with d5 | d5
        · clear hbad
          go_wp2_with fail
          go_ret
          exact ⟨by rw [hres.out]; rfl, hlX.trans hl2⟩
        · have d6 : (nv : Int) ≤ c := by omega
          clear hbad
          go_wp2_with fail
          go_ret
          exact ⟨by rw [hres.out]; rfl, hlX.trans hl2⟩
      · have hno2 : Hid (∀ j t, j < i + 1 → x.ts[j]? = some t → triB nv t = true) := Lib.hid (fun j y hj hy => by
          by_cases e : j = i
          · rw [e, hv.out] at hy
            obtain rfl := Option.some.inj hy
            rw [hfb.out]
            simp
            omega
          · exact hno.out j y (by omega) hy)
        have d1 : ¬ a < 0 := fun h => hbad (by omega)
        have d2 : ¬ b < 0 := fun h => hbad (by omega)
        have d3 : ¬ c < 0 := fun h => hbad (by omega)
        have d4 : ¬ (nv : Int) ≤ a := fun h => hbad (by omega)
        have d5 : ¬ (nv : Int) ≤ b := fun h => hbad (by omega)
        have d6 : ¬ (nv : Int) ≤ c := fun h => hbad (by omega)
        clear hbad hfb hno hv
        go_wp2_with fail
        go_roundw
        case rel => exact ⟨i + 1, by omega, by go_num, hno2, hl2⟩
        case measure => simp [intOf]; omega
    · obtain rfl : i = nt := by omega
      have hres : Hid (rr = decide (i ≤ 64)) := Lib.hid (by
        rw [← hrr.out]
        unfold keepsB triAll
        rw [if_neg (by decide), if_neg (by decide), if_neg (by decide), if_neg (by decide)]
        rw [List.all_eq_true.2 (fun v hv => by
          obtain ⟨j, hj, rfl⟩ := List.getElem_of_mem hv
          rw [hnv.out, hno.out j _ (by rw [← hnt.out]; exact hj) (List.getElem?_eq_getElem hj)]; rfl), Bool.and_true, hnt.out])
      clear hno
      by_cases h64 : i ≤ 64
      · rw [decide_eq_true h64] at hres
        have h64i : (i : Int) ≤ 64 := by omega
        go_wp2_with fail
        go_ret
        exact ⟨by rw [hres.out]; rfl, hlX.trans hl⟩
      · rw [decide_eq_false h64] at hres
        have h64i : ¬ (i : Int) ≤ 64 := by omega
        go_wp2_with fail
        go_ret
        exact ⟨by rw [hres.out]; rfl, hlX.trans hl⟩
theorem rholds_any (s : Scn) (x : SObj) (k r : Nat) (W : World) (hs : s.Ok W) (hsm : SmallS s) (hk : s.os[k]? = some x) (hr : 4 ≤ r ∧ r ≤ 8) :
    Calls Tryz.prog 31 #[s.V, .int .i64 k, .int .i64 r] W fun e w' => e = .returned (.bool (keepsB s k x r)) ∧ Later W w' := by
  rcases (show r = 4 ∨ r = 5 ∨ r = 6 ∨ r = 7 ∨ r = 8 by omega) with rfl | rfl | rfl | rfl | rfl
  · exact rholds4_any s x k W hs hsm hk
  · exact rholds5_any s x k W hs hsm hk
  · exact rholds6_any s x k W hs hsm hk
  · exact rholds7_any s x k W hs hsm hk
  · exact rholds8_any s x k W hs hsm hk
end Go.Proofs.YtackbajbladhhaaGreat
namespace Go.Proofs.YtackbajbladhhaaGreat
open Go.RowKit Go.Shelf
set_option linter.unusedVariables false
set_option linter.unusedSimpArgs false
attribute [local go_sem] Oper.semAt_some
attribute [-simp] Tryz.sizeOf123 Tryz.typeInfo123

set_option maxRecDepth 100000 in
set_option maxHeartbeats 4000000 in
theorem rwrong_any (s : Scn) (W : World) (hs : s.Ok W) (hsm : SmallS s) :
    Calls Tryz.prog 25 #[s.V] W fun e w' => e = .returned (.tuple #[.int .i64 (wrongQ s).1, .int .i64 (wrongQ s).2]) ∧ Later W w' := by
  have hC := Lib.hid (fun W => within3_any s.cam 16777216 W (by omega))
  obtain ⟨b1, hb1⟩ : ∃ b, Hid (decide (Within 16777216 16 s.cam) = b) := ⟨_, rfl⟩
  rw [hb1.out] at hC
  obtain ⟨q1, q2, hq⟩ : ∃ a b : Int, Hid (wrongQ s = (a, b)) := ⟨_, _, rfl⟩
  rw [hq.out]
  show Calls Tryz.prog 25 #[s.V] W fun e w' => e = .returned (.tuple #[.int .i64 q1, .int .i64 q2]) ∧ Later W w'
  have hH := Lib.hid (fun (k r : Nat) (x : SObj) (V : World) (hv : s.Ok V) (hk : s.os[k]? = some x) (hr : 4 ≤ r ∧ r ≤ 8) => rholds_any s x k r V hv hsm hk hr)
  obtain ⟨X, hX⟩ : ∃ X, X = W.alloc (.cells s.row.toArray 28) := ⟨_, rfl⟩
  have hlX : Later W X := by rw [hX]; exact (Later.refl W).alloc _
  have kS : ScnB X W.heap.size s := by rw [hX]; exact heap_alloc_new _ _
  obtain ⟨ao, cap, hu⟩ := hs.1.form
  rw [List.length_map] at hu
  obtain ⟨n, hn⟩ : ∃ n, Hid (s.os.length = n) := ⟨_, rfl⟩
  have so := kS.uo
  have sw := kS.w
  have sh := kS.h
  have sc := kS.cam
  have hsc := len_mat s.cam
  rw [hu] at so
  rw [hn.out] at so
  go_enter Tryz.func25, Tryz.ntmps25
  go_upto_region 1 with fail
  rw [← hX]
  clear hX hu
  obtain ⟨N, hN⟩ : ∃ a, Hid (W.heap.size = a) := ⟨_, rfl⟩
  rw [hN.out] at kS so sw sh sc ⊢
  clear hN
  by_cases hsz : sizeMay s = true
  · have h4 : (1 ≤ s.W ∧ s.W ≤ 64) ∧ (1 ≤ s.H ∧ s.H ≤ 64) := by
      unfold sizeMay allIn at hsz
      simpa using hsz
    obtain ⟨⟨d1, d2⟩, d3, d4⟩ := h4
    replace hsz := Lib.hid hsz
    have e1 : ¬ s.W < 1 := by omega
    have e2 : ¬ 64 < s.W := by omega
    have e3 : ¬ s.H < 1 := by omega
    have e4 : ¬ 64 < s.H := by omega
    clear d1 d2 d3 d4
    go_wp2_with (refine wpList_load_mid rfl _ _ rfl N 2 rfl _ _ sc Tryz.underlying25 rfl hsc ?_)
    refine (hC.out _).mono ?_
    rintro e w1 ⟨rfl, hl1⟩
    replace so := hl1.cell so
    replace kS := hl1.row kS
    clear e1 e2 e3 e4 sc sw sh hsc hC
    cases b1
    · have hwn := of_decide_eq_false hb1.out
      have hres : Hid (q1 = 2 ∧ q2 = -1) := Lib.hid (by
        have h0 := hq.out
        unfold wrongQ at h0
        rw [hsz.out, if_neg (by decide), if_pos hwn] at h0
        cases h0
        exact ⟨rfl, rfl⟩)
      clear hwn hb1
      go_wp2_with fail
      refine bodyPost_ret (v := .tuple #[.int .i64 2, .int .i64 (-1)]) ?_ rfl ⟨by rw [hres.out.1, hres.out.2], hlX.trans hl1⟩
      simp only [results]; go_simp
    · have hwy := Lib.hid (of_decide_eq_true hb1.out)
      clear hb1
      by_cases h16 : 16 < n
      · have hres : Hid (q1 = 3 ∧ q2 = -1) := Lib.hid (by
          have h0 := hq.out
          unfold wrongQ at h0
          rw [hsz.out, if_neg (by decide), if_neg (fun h => h hwy.out), if_pos (by rw [hn.out]; exact h16)] at h0
          cases h0
          exact ⟨rfl, rfl⟩)
        have h16i : (16 : Int) < n := by omega
        go_wp2_with fail
        refine bodyPost_ret (v := .tuple #[.int .i64 3, .int .i64 (-1)]) ?_ rfl ⟨by rw [hres.out.1, hres.out.2], hlX.trans hl1⟩
        simp only [results]; go_simp
      · have h16i : ¬ (16 : Int) < n := by omega
        have hwf : Hid ((q1, q2) = wrongFrom s 5 4) := Lib.hid (by
          have h0 := hq.out
          unfold wrongQ at h0
          rw [hsz.out, if_neg (by decide), if_neg (fun h => h hwy.out), if_neg (by rw [hn.out]; exact h16)] at h0
          exact h0.symm)
        have hlW := hlX.trans hl1
        clear hl1 hlX hq hsz hwy
        go_wp2_with fail
        go_loopw [5] (fun y wr => ∃ r : Nat, 4 ≤ r ∧ r ≤ 9 ∧ y = .int .i64 r ∧ Hid ((q1, q2) = wrongFrom s (9 - r) r) ∧ Later w1 wr) (fun y _ => (300 - intOf y).toNat)
        case atStart => exact ⟨4, by omega, by omega, rfl, hwf, Later.refl _⟩
        case round =>
          obtain ⟨r, hr4, hr9, rfl, hwf, hl⟩ := hrel
          obtain ⟨wi, rfl⟩ : ∃ wo : World, wo = wr := ⟨_, rfl⟩
          by_cases hr : r ≤ 8
          · have hri : (r : Int) ≤ 8 := by omega
            go_wp2_with fail
            go_loopw [6] (fun y wr => ∃ k : Nat, k ≤ n ∧ y = .int .i64 k ∧ Hid (badL s r k = []) ∧ Later w1 wr) (fun y _ => (300 - intOf y).toNat)
            case atStart => exact ⟨0, by omega, rfl, Lib.hid rfl, hl⟩
            case round =>
              clear hl
              obtain ⟨k, hk, rfl, hbl, hl⟩ := hrel
              obtain ⟨wi, rfl⟩ : ∃ wo : World, wo = wr := ⟨_, rfl⟩
              have sow := hl.cell so
              by_cases hkN : k < n
              · have hkL : k < s.os.length := by rw [hn.out]; exact hkN
                obtain ⟨x, hx⟩ : ∃ x, Hid (s.os[k]? = some x) := ⟨_, Lib.hid (List.getElem?_eq_getElem hkL)⟩
                have hki : (k : Int) < n := by omega
                have hHk := Lib.hid (hH.out k r x wi (hs.later (hlW.trans hl)) hx.out ⟨hr4, hr⟩)
                obtain ⟨bk, hbk⟩ : ∃ b, Hid (keepsB s k x r = b) := ⟨_, rfl⟩
                rw [hbk.out] at hHk
                have kSw : wi.heap[N]? = some (.cells s.row.toArray 28 (0, 0)) := hl.row kS
                go_wp2_with (refine wpList_load_row rfl _ _ rfl N rfl _ _ (0, 0) _ kSw Tryz.underlying28 rfl (scn_size s) ?_)
                refine hHk.out.mono ?_
                rintro e w2 ⟨rfl, hl2⟩
                clear hHk kSw
                have hl3 := hl.trans hl2
                cases bk
                · have hres : Hid (q1 = r ∧ q2 = k) := Lib.hid (by
                    obtain ⟨l, hl'⟩ := badL_cons hx.out hbk.out hbl.out hkL
                    have h0 := hwf.out
                    rw [show 9 - r = (8 - r) + 1 by omega, wrongFrom_hit hl'] at h0
                    cases h0
                    exact ⟨rfl, rfl⟩)
                  go_wp2_with fail
                  refine bodyPost_ret (v := .tuple #[.int .i64 r, .int .i64 k]) ?_ rfl ⟨by rw [hres.out.1, hres.out.2], hlW.trans hl3⟩
                  simp only [results]; go_simp
                · have hbl2 : Hid (badL s r (k + 1) = []) := Lib.hid ((badL_keep hx.out hbk.out).trans hbl.out)
                  go_wp2_with fail
                  go_roundw
                  case rel => exact ⟨k + 1, by omega, by go_num, hbl2, hl3⟩
                  case measure => simp [intOf]; omega
              · obtain rfl : k = n := by omega
                have hwf2 : Hid ((q1, q2) = wrongFrom s (9 - (r + 1)) (r + 1)) := Lib.hid (by
                  have h0 := hwf.out
                  rw [show 9 - r = (9 - (r + 1)) + 1 by omega, wrongFrom_miss (by rw [hn.out]; exact hbl.out)] at h0
                  exact h0)
                go_wp2_with fail
                go_roundw
                case rel => exact ⟨r + 1, by omega, by omega, by go_num, hwf2, hl⟩
                case measure => simp [intOf]; omega
          · obtain rfl : r = 9 := by omega
            have hres : Hid (q1 = 0 ∧ q2 = -1) := Lib.hid (by
              have h0 := hwf.out
              rw [show 9 - 9 = 0 from rfl] at h0
              unfold wrongFrom at h0
              cases h0
              exact ⟨rfl, rfl⟩)
            go_wp2_with fail
            refine bodyPost_ret (v := .tuple #[.int .i64 0, .int .i64 (-1)]) ?_ rfl ⟨by rw [hres.out.1, hres.out.2], hlW.trans hl⟩
            simp only [results]; go_simp
  · have hres : Hid (q1 = 1 ∧ q2 = -1) := Lib.hid (by
      have h0 := hq.out
      unfold wrongQ at h0
      rw [if_pos (by simpa using hsz)] at h0
      cases h0
      exact ⟨rfl, rfl⟩)
    have hbad : s.W < 1 ∨ 64 < s.W ∨ s.H < 1 ∨ 64 < s.H := by
      refine Classical.byContradiction (fun h => hsz ?_)
      unfold sizeMay allIn
      simp
      omega
    clear hsz hq hC hb1
    rcases Classical.em (s.W < 1) with d1 | d1
    · clear hbad
      go_wp2_with fail
      refine bodyPost_ret (v := .tuple #[.int .i64 1, .int .i64 (-1)]) ?_ rfl ⟨by rw [hres.out.1, hres.out.2], hlX⟩
      simp only [results]; go_simp
    rcases Classical.em (64 < s.W) with d2 | d2
    · clear hbad
      go_wp2_with fail
      refine bodyPost_ret (v := .tuple #[.int .i64 1, .int .i64 (-1)]) ?_ rfl ⟨by rw [hres.out.1, hres.out.2], hlX⟩
      simp only [results]; go_simp
    rcases Classical.em (s.H < 1) with d3 | d3
    · clear hbad
      go_wp2_with fail
      refine bodyPost_ret (v := .tuple #[.int .i64 1, .int .i64 (-1)]) ?_ rfl ⟨by rw [hres.out.1, hres.out.2], hlX⟩
      simp only [results]; go_simp
    · have d4 : 64 < s.H := by omega
      clear hbad
      go_wp2_with fail
      refine bodyPost_ret (v := .tuple #[.int .i64 1, .int .i64 (-1)]) ?_ rfl ⟨by rw [hres.out.1, hres.out.2], hlX⟩
      simp only [results]; go_simp
set_option maxRecDepth 100000 in
theorem rcheck_any (s : Scn) (W : World) (hs : s.Ok W) (hsm : SmallS s) :
    Calls Tryz.prog 15 #[s.V] W fun e w' => e = .returned (.int .i64 (if (wrongQ s).1 = 0 then 0 else 60)) ∧ Later W w' := by
  have hW := Lib.hid (fun V (hv : s.Ok V) => rwrong_any s V hv hsm)
  obtain ⟨r, hr⟩ : ∃ r, Hid ((wrongQ s).1 = r) := ⟨_, rfl⟩
  obtain ⟨a, ha⟩ : ∃ r, Hid ((wrongQ s).2 = r) := ⟨_, rfl⟩
  rw [hr.out, ha.out] at hW
  rw [hr.out]
  obtain ⟨X, hX⟩ : ∃ X, X = W.alloc (.cells s.row.toArray 28) := ⟨_, rfl⟩
  have hlX : Later W X := by rw [hX]; exact (Later.refl W).alloc _
  have kS : X.heap[W.heap.size]? = some (.cells s.row.toArray 28 (0, 0)) := by rw [hX]; exact heap_alloc_new _ _
  go_enter Tryz.func15, Tryz.ntmps15
  go_upto_region 1 with fail
  rw [← hX]
  clear hX
  first | go_step3 | skip
  go_wp2_with (refine wpList_load_row rfl _ _ rfl W.heap.size rfl _ _ (0, 0) _ kS Tryz.underlying28 rfl (scn_size s) ?_)
  refine (hW.out _ (hs.later hlX)).mono ?_
  rintro e w1 ⟨rfl, hl1⟩
  clear hW hr ha
  by_cases h0 : r = 0
  · subst h0
    go_wp2_with fail
    go_ret
    exact ⟨rfl, hlX.trans hl1⟩
  · have hne : (r != 0) = true := by simpa using h0
    replace h0 := Lib.hid h0
    go_wp2_with fail
    go_ret
    exact ⟨rfl, hlX.trans hl1⟩
end Go.Proofs.YtackbajbladhhaaGreat
