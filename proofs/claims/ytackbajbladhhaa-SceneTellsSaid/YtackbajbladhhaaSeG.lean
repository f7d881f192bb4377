/-
  Chapter 6: whether two scenes are the same: the document's answer.
-/
import Derived.Test.YtackbajbladhhaaSeC1
namespace Go.Proofs.Ytackbajbladhhaa
open Go.RowKit Go.Shelf
set_option linter.unusedVariables false
set_option linter.unusedSimpArgs false
attribute [local go_sem] Oper.semAt_some
attribute [-go_sem] run_neq_struct run_eql_struct
attribute [-simp] Try.sizeOf25 Try.typeInfo25

set_option maxRecDepth 100000 in
set_option maxHeartbeats 20000000 in
theorem rsame_any (x' y : Scn) (W : World) (hx0 : x'.Ok W) (hy0 : y.Ok W) (hsm : SmallS x') (hsm2 : y.os.length ≤ 1000) :
    Calls Try.prog 20 #[x'.V, y.V] W fun e w' => e = .returned (.bool (sameB x' y)) ∧ Later W w' := by
  obtain ⟨X, hX⟩ : ∃ X, X = (W.alloc (.cells x'.row.toArray 28)).alloc (.cells y.row.toArray 28) := ⟨_, rfl⟩
  have hl : Later W X := by rw [hX]; exact ((Later.refl W).alloc _).alloc _
  have kX : ScnB X W.heap.size x' := by rw [hX]; exact push_one (heap_alloc_new _ _) _
  have kY : ScnB X (W.heap.size + 1) y := by rw [hX]; exact push_new _ _ (World.size_alloc _ _)
  have hOx := hx0.later hl
  have hOy := hy0.later hl
  have w1 := kX.w
  have w2 := kY.w
  have h1 := kX.h
  have h2 := kY.h
  have s1 := kX.uo
  have s2 := kY.uo
  have m1 := kX.cam
  have m2 := kY.cam
  have l1 := len_mat x'.cam
  have l2 := len_mat y.cam
  have hq : ∀ W, (binOp .neq 25 (.agg ((List.range 16).map fun k => Value.int .i64 (x'.cam k)).toArray) (.agg ((List.range 16).map fun k => Value.int .i64 (y.cam k)).toArray)).run Try.prog W = .ok (.bool (!(matEq x'.cam y.cam))) W := fun W => neq_mat W x'.cam y.cam
  have hgd := guard_mat
  obtain ⟨n16, hn16⟩ : ∃ n, Hid ((16 : Nat) = n) := ⟨_, rfl⟩
  have hsz16 : ∀ w, (sizeOf 25).run Try.prog w = .ok n16 w := fun w => by rw [← hn16.out]; kernel_rfl
  have hlc : ∀ (w : World) (b o : Nat) (l : List Value), l.length = 16 → w.rangeAt b o l → (loadCellsFrom ⟨b, o, none⟩ 0 n16 #[]).run Try.prog w = .ok l.toArray w := fun w b o l hlen h => by
    rw [← hn16.out, ← hlen]
    exact run_loadCells_list (P := Try.prog) w ⟨b, o, none⟩ l (fun j v hv => by rw [Addr.add_mid]; exact h j v hv)
  replace hlc := Lib.hid hlc
  have hn0 : ¬ n16 = 0 := by have := hn16.out; omega
  obtain ⟨ao, ca, hu1⟩ := hOx.1.form
  obtain ⟨bo, cb, hu2⟩ := hOy.1.form
  rw [List.length_map] at hu1 hu2
  obtain ⟨n, hn⟩ : ∃ n, Hid (x'.os.length = n) := ⟨_, rfl⟩
  obtain ⟨m, hm⟩ : ∃ n, Hid (y.os.length = n) := ⟨_, rfl⟩
  rw [hn.out] at hu1
  rw [hm.out] at hu2 hsm2
  have hn20 : n ≤ 20 := by rw [← hn.out]; exact hsm.1
  rw [hu1] at s1
  rw [hu2] at s2
  have hr1 := hOx.1
  have hr2 := hOy.1
  rw [hu1] at hr1
  rw [hu2] at hr2
  replace hOx := Lib.hid hOx
  replace hOy := Lib.hid hOy
  replace hsm := Lib.hid hsm
  unfold sameB
  obtain ⟨xW, hxW⟩ : ∃ z, Hid (x'.W = z) := ⟨_, rfl⟩
  obtain ⟨yW, hyW⟩ : ∃ z, Hid (y.W = z) := ⟨_, rfl⟩
  obtain ⟨xH, hxH⟩ : ∃ z, Hid (x'.H = z) := ⟨_, rfl⟩
  obtain ⟨yH, hyH⟩ : ∃ z, Hid (y.H = z) := ⟨_, rfl⟩
  obtain ⟨bm, hbm⟩ : ∃ z, Hid (matEq x'.cam y.cam = z) := ⟨_, rfl⟩
  obtain ⟨r, hr⟩ : ∃ z, Hid (osEq x'.os y.os = z) := ⟨_, rfl⟩
  obtain ⟨cx, hcx⟩ : ∃ z, Hid (((List.range 16).map fun k => Value.int .i64 (x'.cam k)) = z) := ⟨_, rfl⟩
  obtain ⟨cy, hcy⟩ : ∃ z, Hid (((List.range 16).map fun k => Value.int .i64 (y.cam k)) = z) := ⟨_, rfl⟩
  rw [hxW.out] at w1
  rw [hyW.out] at w2
  rw [hxH.out] at h1
  rw [hyH.out] at h2
  rw [hbm.out, hcx.out, hcy.out] at hq
  rw [hcx.out] at m1 l1
  rw [hcy.out] at m2 l2
  rw [hxW.out, hyW.out, hxH.out, hyH.out, hbm.out, hr.out]
  obtain ⟨b1, hb1⟩ : ∃ z, Hid ((xW == yW) = z) := ⟨_, rfl⟩
  obtain ⟨b2, hb2⟩ : ∃ z, Hid ((xH == yH) = z) := ⟨_, rfl⟩
  have d1 : (xW != yW) = !b1 := by rw [← hb1.out]; rfl
  have d2 : (xH != yH) = !b2 := by rw [← hb2.out]; rfl
  rw [hb1.out, hb2.out]
  clear hx0 hy0 kX kY hxW hyW hxH hyH hbm hb1 hb2 hu1 hu2
  go_enter Try.func20, Try.ntmps20
  go_upto_region 1 with fail
  rw [← hX]
  clear hX
  obtain ⟨N, hN⟩ : ∃ N, Hid (W.heap.size = N) := ⟨_, rfl⟩
  rw [hN.out] at w1 w2 h1 h2 s1 s2 m1 m2 ⊢
  have q1 := hlc.out X N 2 cx (by rw [← hcx.out]; simp) m1
  have q2 := hlc.out X (N + 1) 2 cy (by rw [← hcy.out]; simp) m2
  clear m1 m2 l1 l2
  cases b1
  · go_wp2_with fail
    go_ret
    exact ⟨rfl, hl⟩
  cases b2
  · go_wp2_with fail
    go_ret
    exact ⟨rfl, hl⟩
  cases bm
  · go_wp2_with fail
    go_ret
    exact ⟨rfl, hl⟩
  by_cases hnm : n = m
  case neg =>
    have hd : ((n : Int) != (m : Int)) = true := by simp; omega
    have hf : Hid (r = false) := Lib.hid (by
      rw [← hr.out]
      cases h : osEq x'.os y.os
      · rfl
      · exact absurd (osEq_len h) (by rw [hn.out, hm.out]; exact hnm))
    clear hnm
    go_wp2_with fail
    go_ret
    exact ⟨by rw [hf.out]; rfl, hl⟩
  subst hnm
  have hd : ((n : Int) != (n : Int)) = false := by simp
  go_wp2_with fail
  clear w1 w2 h1 h2 q1 q2 hq d1 d2 hd hcx hcy
  go_loopw [5] (fun z wr => ∃ k : Nat, k ≤ n ∧ z = .int .i64 k ∧ Hid (∀ (j : Nat) a b, j < k → x'.os[j]? = some a → y.os[j]? = some b → sobjEq a b = true) ∧ Later X wr) (fun z _ => (300 - intOf z).toNat)
  case atStart => exact ⟨0, by omega, rfl, Lib.hid (fun j a b hj => by omega), Later.refl _⟩
  case round =>
    obtain ⟨k, hk, rfl, hall, hlk⟩ := hrel
    obtain ⟨wi, rfl⟩ : ∃ wo : World, wo = wr := ⟨_, rfl⟩
    have s1k := hlk.cell s1
    have s2k := hlk.cell s2
    by_cases hkN : k < n
    · obtain ⟨x, hx⟩ : ∃ x, Hid (x'.os[k]? = some x) := ⟨_, Lib.hid (List.getElem?_eq_getElem (by rw [hn.out]; exact hkN))⟩
      obtain ⟨y', hy⟩ : ∃ x, Hid (y.os[k]? = some x) := ⟨_, Lib.hid (List.getElem?_eq_getElem (by rw [hm.out]; exact hkN))⟩
      obtain ⟨g1, o1, rfl, hrg1⟩ := (hr1.later hlk).at (k := k) (x := x.row) (by rw [List.getElem?_map, hx.out]; rfl)
      obtain ⟨g2, o2, rfl, hrg20⟩ := (hr2.later hlk).at (k := k) (x := y'.row) (by rw [List.getElem?_map, hy.out]; rfl)
      have hok1 := ((hOx.out).2 x (List.mem_of_getElem? hx.out)).later hlk
      have hok2 := ((hOy.out).2 y' (List.mem_of_getElem? hy.out)).later hlk
      have hki : (k : Int) < n := by omega
      have hxs1 := size_obj x
      obtain ⟨X1, hX1⟩ : ∃ Y, Y = wi.alloc (.cells x.row.toArray 37) := ⟨_, rfl⟩
      have hl1 : Later wi X1 := by rw [hX1]; exact (Later.refl wi).alloc _
      have kX1 : ObjB X1 wi.heap.size x := by rw [hX1]; exact heap_alloc_new _ _
      have hnew1 := heap_alloc_new wi (.cells #[.int .i64 0, .int .i64 0, .int .i64 0, .int .i64 0, .int .i64 0, .int .i64 0, .int .i64 0, .int .i64 0, .int .i64 0, .int .i64 0, .int .i64 0, .int .i64 0, .int .i64 0, .int .i64 0, .int .i64 0, .int .i64 0, .int .i64 0, .slice none 0 0, .slice none 0 0] 37)
      have hz21 : (#[.int .i64 0, .int .i64 0, .int .i64 0, .int .i64 0, .int .i64 0, .int .i64 0, .int .i64 0, .int .i64 0, .int .i64 0, .int .i64 0, .int .i64 0, .int .i64 0, .int .i64 0, .int .i64 0, .int .i64 0, .int .i64 0, .int .i64 0, .slice none 0 0, .slice none 0 0] : Array Value).size = x.row.toArray.size := by show (19 : Nat) = _; rw [List.size_toArray, SObj.row_length]
      have hz11 : x.row.toArray.all (·.oneCell') = true := all_oneCell_toArray (SObj.row_one hok1)
      have hxt1 : (Try.prog.info? 37).map (·.size) = some x.row.toArray.size := by rw [List.size_toArray]; exact hxs1

      go_upto_region 7 with (first | refine wpList_load_mid rfl _ _ rfl g1 (o1 + k * 19) rfl x.row _ hrg1 Try.underlying37 rfl hxs1 ?_ | refine wpList_store_row rfl 37 _ _ rfl wi.heap.size x.row.toArray rfl rfl 37 #[.int .i64 0, .int .i64 0, .int .i64 0, .int .i64 0, .int .i64 0, .int .i64 0, .int .i64 0, .int .i64 0, .int .i64 0, .int .i64 0, .int .i64 0, .int .i64 0, .int .i64 0, .int .i64 0, .int .i64 0, .int .i64 0, .int .i64 0, .slice none 0 0, .slice none 0 0] hnew1 hxt1 hz21 hz11 ?_)
      rw [World.setRow_alloc_new, ← hX1]
      clear hX1 hnew1 hz21 hz11 hxs1 hxt1 hrg1
      have hrg2 := rangeAt_later hrg20 hl1
      replace hok2 := hok2.later hl1
      replace hok1 := hok1.later hl1
      replace s1k := hl1.cell s1k
      replace s2k := hl1.cell s2k
      obtain ⟨N1, hN1⟩ : ∃ N, Hid (wi.heap.size = N) := ⟨_, rfl⟩
      rw [hN1.out] at kX1 ⊢
      have hxs2 := size_obj y'
      obtain ⟨X2, hX2⟩ : ∃ Y, Y = X1.alloc (.cells y'.row.toArray 37) := ⟨_, rfl⟩
      have hl2 : Later X1 X2 := by rw [hX2]; exact (Later.refl X1).alloc _
      have kX2 : ObjB X2 X1.heap.size y' := by rw [hX2]; exact heap_alloc_new _ _
      have hnew2 := heap_alloc_new X1 (.cells #[.int .i64 0, .int .i64 0, .int .i64 0, .int .i64 0, .int .i64 0, .int .i64 0, .int .i64 0, .int .i64 0, .int .i64 0, .int .i64 0, .int .i64 0, .int .i64 0, .int .i64 0, .int .i64 0, .int .i64 0, .int .i64 0, .int .i64 0, .slice none 0 0, .slice none 0 0] 37)
      have hz22 : (#[.int .i64 0, .int .i64 0, .int .i64 0, .int .i64 0, .int .i64 0, .int .i64 0, .int .i64 0, .int .i64 0, .int .i64 0, .int .i64 0, .int .i64 0, .int .i64 0, .int .i64 0, .int .i64 0, .int .i64 0, .int .i64 0, .int .i64 0, .slice none 0 0, .slice none 0 0] : Array Value).size = y'.row.toArray.size := by show (19 : Nat) = _; rw [List.size_toArray, SObj.row_length]
      have hz12 : y'.row.toArray.all (·.oneCell') = true := all_oneCell_toArray (SObj.row_one hok2)
      have hxt2 : (Try.prog.info? 37).map (·.size) = some y'.row.toArray.size := by rw [List.size_toArray]; exact hxs2

      go_upto_region 8 with (first | refine wpList_load_mid rfl _ _ rfl g2 (o2 + k * 19) rfl y'.row _ hrg2 Try.underlying37 rfl hxs2 ?_ | refine wpList_store_row rfl 37 _ _ rfl X1.heap.size y'.row.toArray rfl rfl 37 #[.int .i64 0, .int .i64 0, .int .i64 0, .int .i64 0, .int .i64 0, .int .i64 0, .int .i64 0, .int .i64 0, .int .i64 0, .int .i64 0, .int .i64 0, .int .i64 0, .int .i64 0, .int .i64 0, .int .i64 0, .int .i64 0, .int .i64 0, .slice none 0 0, .slice none 0 0] hnew2 hxt2 hz22 hz12 ?_)
      rw [World.setRow_alloc_new, ← hX2]
      clear hX2 hnew2 hz22 hz12 hxs2 hxt2 hrg2 hrg20
      obtain ⟨N2, hN2⟩ : ∃ N, Hid (X1.heap.size = N) := ⟨_, rfl⟩
      rw [hN2.out] at kX2 ⊢
      replace kX1 : ObjB X2 N1 x := hl2.row kX1
      have hlw0 := hlk.trans (hl1.trans hl2)
      have hlw := hl.trans hlw0
      have hlq : Later X X2 := hlw0
      have hbaseX2 : Later X2 X2 := Later.refl X2
      have hrv1 := hok1.1.later hl2
      have hrv2 := hok2.1.later hl2
      have hrt01 := hok1.2.later hl2
      have hrt02 := hok2.2.later hl2
      obtain ⟨av, cv, hxv⟩ := hrv1.form
      obtain ⟨bv, dv, hyv⟩ := hrv2.form
      obtain ⟨a2, ct, hxt⟩ := hrt01.form
      obtain ⟨b2, dt, hyt⟩ := hrt02.form
      rw [List.length_map] at hxv hyv hxt hyt
      have i1 := kX1.id
      have i2 := kX2.id
      have v1 := kX1.uv
      have v2 := kX2.uv
      have t1 := kX1.ut
      have t2 := kX2.ut
      have m1 := kX1.mat
      have m2 := kX2.mat
      have l1 := len_mat x.m
      have l2 := len_mat y'.m
      obtain ⟨nv, hnv1⟩ : ∃ n, Hid (x.vs.length = n) := ⟨_, rfl⟩
      obtain ⟨nw, hnw⟩ : ∃ n, Hid (y'.vs.length = n) := ⟨_, rfl⟩
      obtain ⟨nt, hnt1⟩ : ∃ n, Hid (x.ts.length = n) := ⟨_, rfl⟩
      obtain ⟨nu, hnu⟩ : ∃ n, Hid (y'.ts.length = n) := ⟨_, rfl⟩
      have hnv80 : nv ≤ 80 ∧ nt ≤ 80 := by have := hsm.out.2 x (List.mem_of_getElem? hx.out); rw [← hnv1.out, ← hnt1.out]; exact this
      rw [hxv] at v1 hrv1
      rw [hyv] at v2 hrv2
      rw [hxt] at t1 hrt01
      rw [hyt] at t2 hrt02
      rw [hnv1.out] at v1 hrv1
      rw [hnw.out] at v2 hrv2
      rw [hnt1.out] at t1 hrt01
      rw [hnu.out] at t2 hrt02
      have hq : ∀ W, (binOp .neq 25 (.agg ((List.range 16).map fun k => Value.int .i64 (x.m k)).toArray) (.agg ((List.range 16).map fun k => Value.int .i64 (y'.m k)).toArray)).run Try.prog W = .ok (.bool (!(matEq x.m y'.m))) W := fun W => neq_mat W x.m y'.m
      obtain ⟨xi, hxi⟩ : ∃ z, Hid (x.id = z) := ⟨_, rfl⟩
      obtain ⟨yi, hyi⟩ : ∃ z, Hid (y'.id = z) := ⟨_, rfl⟩
      obtain ⟨bm, hbm⟩ : ∃ z, Hid (matEq x.m y'.m = z) := ⟨_, rfl⟩
      obtain ⟨cx, hcx⟩ : ∃ z, Hid (((List.range 16).map fun k => Value.int .i64 (x.m k)) = z) := ⟨_, rfl⟩
      obtain ⟨cy, hcy⟩ : ∃ z, Hid (((List.range 16).map fun k => Value.int .i64 (y'.m k)) = z) := ⟨_, rfl⟩
      obtain ⟨bi, hbi⟩ : ∃ z, Hid ((xi == yi) = z) := ⟨_, rfl⟩
      rw [hxi.out] at i1
      rw [hyi.out] at i2
      rw [hbm.out, hcx.out, hcy.out] at hq
      rw [hcx.out] at m1 l1
      rw [hcy.out] at m2 l2
      have d1 : (xi != yi) = !bi := by rw [← hbi.out]; rfl
      have hno : Hid (sobjEq x y' = false → r = false) := Lib.hid (fun h => by rw [← hr.out]; exact osEq_no hx.out hy.out h)
      have hso : Hid (sobjEq x y' = (bi && (bm && ((x.vs == y'.vs) && (x.ts == y'.ts))))) := Lib.hid (by unfold sobjEq; rw [hxi.out, hyi.out, hbm.out, hbi.out])
      have q1 := hlc.out X2 N1 1 cx (by rw [← hcx.out]; simp) m1
      have q2 := hlc.out X2 N2 1 cy (by rw [← hcy.out]; simp) m2
      clear hok1 hok2 hxv hyv hxt hyt kX1 kX2 hcx hcy hxi hyi hbm hbi m1 m2 l1 l2
      cases bi
      · have hf : Hid (r = false) := Lib.hid (hno.out (by rw [hso.out]; rfl))
        go_wp2_with fail
        go_ret
        exact ⟨by rw [hf.out]; rfl, hlw⟩
      cases bm
      · have hf : Hid (r = false) := Lib.hid (hno.out (by rw [hso.out]; rfl))
        go_wp2_with fail
        go_ret
        exact ⟨by rw [hf.out]; rfl, hlw⟩
      by_cases hvv : nv = nw
      case neg =>
        have hd : ((nv : Int) != (nw : Int)) = true := by simp; omega
        have hf : Hid (r = false) := Lib.hid (hno.out (by
          rw [hso.out, beq_eq_false_iff_ne.2 (fun e => hvv (by rw [← hnv1.out, ← hnw.out, e]))]; rfl))
        clear hvv
        go_wp2_with fail
        go_ret
        exact ⟨by rw [hf.out]; rfl, hlw⟩
      obtain rfl := hvv
      have hdv : ((nv : Int) != (nv : Int)) = false := by simp
      by_cases htt : nt = nu
      case neg =>
        have hd : ((nt : Int) != (nu : Int)) = true := by simp; omega
        have hf : Hid (r = false) := Lib.hid (hno.out (by
          rw [hso.out, beq_eq_false_iff_ne.2 (fun e : x.ts = y'.ts => htt (by rw [← hnt1.out, ← hnu.out, e]))]; simp))
        clear htt
        go_wp2_with fail
        go_ret
        exact ⟨by rw [hf.out]; rfl, hlw⟩
      obtain rfl := htt
      have hdt : ((nt : Int) != (nt : Int)) = false := by simp
      have hnv2 := hnw
      have hnt2 := hnu
      have badv : Hid (x.vs ≠ y'.vs → r = false) := Lib.hid (fun h => hno.out (by rw [hso.out, beq_eq_false_iff_ne.2 h]; rfl))
      have badt : Hid (x.ts ≠ y'.ts → r = false) := Lib.hid (fun h => hno.out (by rw [hso.out, beq_eq_false_iff_ne.2 h]; simp))
      have hgood : Hid (x.vs = y'.vs → x.ts = y'.ts → sobjEq x y' = true) := Lib.hid (fun h1 h2 => by rw [hso.out, h1, h2]; simp)
      go_upto_region 10 with fail
      clear q1 q2 hq d1 hdv hdt i1 i2 hno hso
      go_wp2_with fail
      go_loopw [8] (fun y wr => ∃ i : Nat, i ≤ nv ∧ y = .int .i64 i ∧ Hid (∀ j, j < i → x.vs[j]? = y'.vs[j]?) ∧ Later X2 wr) (fun y _ => (300 - intOf y).toNat)
      case atStart => exact ⟨0, by omega, rfl, Lib.hid (fun j hj => by omega), Later.refl _⟩
      case round =>
        obtain ⟨i, hi, rfl, hallv, hlv⟩ := hrel
        obtain ⟨wv, rfl⟩ : ∃ wo : World, wo = wr := ⟨_, rfl⟩
        have u1 := hlv.cell v1
        have u2 := hlv.cell v2
        by_cases hiv : i < nv
        · obtain ⟨v, hv'⟩ : ∃ x', Hid (x.vs[i]? = some x') := ⟨_, Lib.hid (List.getElem?_eq_getElem (by rw [hnv1.out]; exact hiv))⟩
          obtain ⟨z, hz'⟩ : ∃ x', Hid (y'.vs[i]? = some x') := ⟨_, Lib.hid (List.getElem?_eq_getElem (by rw [hnv2.out]; exact hiv))⟩
          obtain ⟨h1, p1, rfl, hr1⟩ := (hrv1.later hlv).at (k := i) (x := vrow v) (by rw [List.getElem?_map, hv'.out]; rfl)
          obtain ⟨h2, p2, rfl, hr2⟩ := (hrv2.later hlv).at (k := i) (x := vrow z) (by rw [List.getElem?_map, hz'.out]; rfl)
          obtain ⟨a0, a1, a2⟩ := v
          obtain ⟨b0, b1, b2⟩ := z
          have c0 : wv.cell? ⟨h1, p1 + i * 3, none⟩ = some (.int .i64 a0) := hr1 0 _ rfl
          have d0 : wv.cell? ⟨h2, p2 + i * 3, none⟩ = some (.int .i64 b0) := hr2 0 _ rfl
          have c1 : wv.cell? ⟨h1, p1 + i * 3 + 1, none⟩ = some (.int .i64 a1) := hr1 1 _ rfl
          have d1 : wv.cell? ⟨h2, p2 + i * 3 + 1, none⟩ = some (.int .i64 b1) := hr2 1 _ rfl
          have c2 : wv.cell? ⟨h1, p1 + i * 3 + 2, none⟩ = some (.int .i64 a2) := hr1 2 _ rfl
          have d2 : wv.cell? ⟨h2, p2 + i * 3 + 2, none⟩ = some (.int .i64 b2) := hr2 2 _ rfl
          have hvi : (i : Int) < nv := by omega
          obtain ⟨q, hq⟩ : ∃ q, Hid ((((a0, a1, a2) : V3) == (b0, b1, b2)) = q) := ⟨_, rfl⟩
          have hne : ∀ W, (binOp .neq 40 (.agg #[.int .i64 a0, .int .i64 a1, .int .i64 a2]) (.agg #[.int .i64 b0, .int .i64 b1, .int .i64 b2])).run Try.prog W = .ok (.bool (!q)) W := fun W => by rw [← hq.out]; exact neq_v3 W (a0, a1, a2) (b0, b1, b2)
          have hgd2 := guard_v3
          clear hr1 hr2
          cases q
          · have hf : Hid (r = false) := Lib.hid (badv.out (fun e => by
              have h1 := hv'.out
              rw [e, hz'.out] at h1
              have h2 := hq.out
              rw [Option.some.inj h1] at h2
              simp at h2))
            clear hallv hv' hz' hq
            go_upto_region 13 with fail
            go_region
            go_wp2_with fail
            go_ret
            exact ⟨by rw [hf.out]; rfl, hlw.trans ((hbaseX2.trans hlv).drew)⟩
          · have h2 : Hid (∀ j, j < i + 1 → x.vs[j]? = y'.vs[j]?) := Lib.hid (fun j hj => by
              by_cases e : j = i
              · rw [e, hv'.out, hz'.out, eq_of_beq hq.out]
              · exact hallv.out j (by omega))
            clear hallv hv' hz' hq
            go_upto_region 13 with fail
            go_region
            go_wp2_with fail
            go_roundw
            case rel => exact ⟨i + 1, by omega, by go_num, h2, hlv.drew⟩
            case measure => simp [intOf]; omega
        · obtain rfl : i = nv := by omega
          have hevs : Hid (x.vs = y'.vs) := Lib.hid (List.ext_getElem? (fun j => by
            by_cases hj : j < i
            · exact hallv.out j hj
            · rw [List.getElem?_eq_none (by rw [hnv1.out]; omega), List.getElem?_eq_none (by rw [hnv2.out]; omega)]))
          clear hallv
          have ut1 := hlv.cell t1
          have ut2 := hlv.cell t2
          have hrt1 := hrt01.later hlv
          have hrt2 := hrt02.later hlv
          obtain ⟨wT, rfl⟩ : ∃ w : World, w = wv := ⟨_, rfl⟩
          have hbasewT : Later X2 wT := hbaseX2.trans hlv
          clear hlv t1 t2 hrv1 hrv2 hrt01 hrt02
          go_wp2_with fail
          go_loopw [9] (fun y wr => ∃ i : Nat, i ≤ nt ∧ y = .int .i64 i ∧ Hid (∀ j, j < i → x.ts[j]? = y'.ts[j]?) ∧ Later wT wr) (fun y _ => (300 - intOf y).toNat)
          case atStart => exact ⟨0, by omega, rfl, Lib.hid (fun j hj => by omega), Later.refl _⟩
          case round =>
            obtain ⟨i, hi, rfl, hallv, hlv⟩ := hrel
            obtain ⟨wv, rfl⟩ : ∃ wo : World, wo = wr := ⟨_, rfl⟩
            have u1 := hlv.cell ut1
            have u2 := hlv.cell ut2
            by_cases hiv : i < nt
            · obtain ⟨v, hv'⟩ : ∃ x', Hid (x.ts[i]? = some x') := ⟨_, Lib.hid (List.getElem?_eq_getElem (by rw [hnt1.out]; exact hiv))⟩
              obtain ⟨z, hz'⟩ : ∃ x', Hid (y'.ts[i]? = some x') := ⟨_, Lib.hid (List.getElem?_eq_getElem (by rw [hnt2.out]; exact hiv))⟩
              obtain ⟨h1, p1, rfl, hr1⟩ := (hrt1.later hlv).at (k := i) (x := trow v) (by rw [List.getElem?_map, hv'.out]; rfl)
              obtain ⟨h2, p2, rfl, hr2⟩ := (hrt2.later hlv).at (k := i) (x := trow z) (by rw [List.getElem?_map, hz'.out]; rfl)
              obtain ⟨a0, a1, a2, a3⟩ := v
              obtain ⟨b0, b1, b2, b3⟩ := z
              have c0 : wv.cell? ⟨h1, p1 + i * 4, none⟩ = some (.int .i64 a0) := hr1 0 _ rfl
              have d0 : wv.cell? ⟨h2, p2 + i * 4, none⟩ = some (.int .i64 b0) := hr2 0 _ rfl
              have c1 : wv.cell? ⟨h1, p1 + i * 4 + 1, none⟩ = some (.int .i64 a1) := hr1 1 _ rfl
              have d1 : wv.cell? ⟨h2, p2 + i * 4 + 1, none⟩ = some (.int .i64 b1) := hr2 1 _ rfl
              have c2 : wv.cell? ⟨h1, p1 + i * 4 + 2, none⟩ = some (.int .i64 a2) := hr1 2 _ rfl
              have d2 : wv.cell? ⟨h2, p2 + i * 4 + 2, none⟩ = some (.int .i64 b2) := hr2 2 _ rfl
              have c3 : wv.cell? ⟨h1, p1 + i * 4 + 3, none⟩ = some (.int .u32 a3) := hr1 3 _ rfl
              have d3 : wv.cell? ⟨h2, p2 + i * 4 + 3, none⟩ = some (.int .u32 b3) := hr2 3 _ rfl
              have hvi : (i : Int) < nt := by omega
              obtain ⟨q, hq⟩ : ∃ q, Hid ((((a0, a1, a2, a3) : T4) == (b0, b1, b2, b3)) = q) := ⟨_, rfl⟩
              have hne : ∀ W, (binOp .neq 84 (.agg #[.int .i64 a0, .int .i64 a1, .int .i64 a2, .int .u32 a3]) (.agg #[.int .i64 b0, .int .i64 b1, .int .i64 b2, .int .u32 b3])).run Try.prog W = .ok (.bool (!q)) W := fun W => by rw [← hq.out]; exact neq_tri W (a0, a1, a2, a3) (b0, b1, b2, b3)
              have hgd2 := guard_tri
              clear hr1 hr2
              cases q
              · have hf : Hid (r = false) := Lib.hid (badt.out (fun e => by
                  have h1 := hv'.out
                  rw [e, hz'.out] at h1
                  have h2 := hq.out
                  rw [Option.some.inj h1] at h2
                  simp at h2))
                clear hallv hv' hz' hq
                go_upto_region 18 with fail
                go_region
                go_wp2_with fail
                go_ret
                exact ⟨by rw [hf.out]; rfl, hlw.trans ((hbasewT.trans hlv).drew)⟩
              · have h2 : Hid (∀ j, j < i + 1 → x.ts[j]? = y'.ts[j]?) := Lib.hid (fun j hj => by
                  by_cases e : j = i
                  · rw [e, hv'.out, hz'.out, eq_of_beq hq.out]
                  · exact hallv.out j (by omega))
                clear hallv hv' hz' hq
                go_upto_region 18 with fail
                go_region
                go_wp2_with fail
                go_roundw
                case rel => exact ⟨i + 1, by omega, by go_num, h2, hlv.drew⟩
                case measure => simp [intOf]; omega
            · obtain rfl : i = nt := by omega
              have hets : Hid (x.ts = y'.ts) := Lib.hid (List.ext_getElem? (fun j => by
                by_cases hj : j < i
                · exact hallv.out j hj
                · rw [List.getElem?_eq_none (by rw [hnt1.out]; omega), List.getElem?_eq_none (by rw [hnt2.out]; omega)]))
              clear hallv
              have h2 : Hid (∀ (j : Nat) a b, j < k + 1 → x'.os[j]? = some a → y.os[j]? = some b → sobjEq a b = true) := Lib.hid (fun j a b hj ha hb => by
                by_cases e : j = k
                · rw [e, hx.out] at ha
                  rw [e, hy.out] at hb
                  rw [← Option.some.inj ha, ← Option.some.inj hb]
                  exact hgood.out hevs.out hets.out
                · exact hall.out j a b (by omega) ha hb)
              clear hall
              go_wp2_with fail
              go_roundw
              case rel => exact ⟨k + 1, by omega, by go_num, h2, hlq.trans (hbasewT.trans hlv)⟩
              case measure => simp [intOf]; omega

    · obtain rfl : k = n := by omega
      have hf : Hid (r = true) := Lib.hid (by
        rw [← hr.out]
        refine osEq_yes (by rw [hn.out, hm.out]) (fun j a b ha hb => hall.out j a b ?_ ha hb)
        have := (List.getElem?_eq_some_iff.1 ha).1
        rw [hn.out] at this
        exact this)
      clear hall
      go_wp2_with fail
      go_ret
      exact ⟨by rw [hf.out]; rfl, hl.trans hlk⟩
end Go.Proofs.Ytackbajbladhhaa
