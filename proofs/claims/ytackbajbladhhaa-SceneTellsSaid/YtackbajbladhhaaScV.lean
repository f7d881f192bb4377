/-
  Chapter 6: IDs.
-/
import Derived.Test.YtackbajbladhhaaScU
namespace Go.Proofs.Ytackbajbladhhaa
open Go.RowKit Go.Shelf
set_option linter.unusedVariables false
set_option linter.unusedSimpArgs false
attribute [local go_sem] Oper.semAt_some

theorem later_row {X w w' : World} {base e k : Nat} {v : Value} {xs : List Value} (h : Later X w) (hr : w.ownsRow base e 1 v k xs) (hb : X.heap.size ≤ base) (hg : w.grownBy w' v.ownBlock) : Later X w' := by
  refine Later.of_grown (grown_none h.grown hg (fun r e' => ?_))
  rcases hr.2 with ⟨rfl, _⟩ | ⟨g, cap, cur, rfl, hb2, _⟩
  · simp [Value.ownBlock] at e'
  · obtain rfl : g = r := by simpa [Value.ownBlock] using e'
    omega
def idL (s : Scn) : List Int := s.os.map (·.id)
theorem idL_snoc {s : Scn} {k : Nat} {x : SObj} (hx : s.os[k]? = some x) : (idL s).take (k + 1) = (idL s).take k ++ [x.id] := by
  have hk : k < s.os.length := (List.getElem?_eq_some_iff.1 hx).1
  have h1 : (idL s)[k]? = some x.id := by unfold idL; rw [List.getElem?_map, hx]; rfl
  rw [List.take_add_one, h1]; rfl
set_option maxRecDepth 100000 in
set_option maxHeartbeats 800000 in
theorem ids_any (s : Scn) (W : World) (hs : s.Ok W) (hlen : s.os.length ≤ 1000000) :
    Calls Try.prog 14 #[s.V] W fun e w' => ∃ v, e = .returned v ∧ IntsF W.heap.size w' v (srt (idL s)) ∧ Later W w' := by
  obtain ⟨i0, hi, hz0, hz1, hz2⟩ := info_parts info_int
  obtain ⟨X, hX⟩ : ∃ X, X = W.alloc (.cells s.row.toArray 28) := ⟨_, rfl⟩
  have hlX : Later W X := by rw [hX]; exact (Later.refl W).alloc _
  have hWX : Hid (W.heap.size + 1 = X.heap.size) := Lib.hid (by rw [hX]; exact (World.size_alloc _ _).symm)
  have kS : ScnB X W.heap.size s := by rw [hX]; exact heap_alloc_new _ _
  obtain ⟨ao, cap, hu⟩ := hs.1.form
  rw [List.length_map] at hu
  obtain ⟨n, hn⟩ : ∃ n, Hid (s.os.length = n) := ⟨_, rfl⟩
  have so := kS.uo
  rw [hu] at so
  rw [hn.out] at so hlen hu
  have hu := Lib.hid hu
  go_enter Try.func14, Try.ntmps14
  go_upto_region 1 with fail
  rw [← hX]
  clear hX kS
  go_wp2_with fail
  go_loopw [3, 9] (fun z y wr => ∃ (k : Nat) (v : Value), k ≤ n ∧ y = .int .i64 k ∧ v = z ∧ Later X wr ∧ wr.ownsRow X.heap.size 3 1 v k (encI ((idL s).take k))) (fun _ y _ => (2000000 - intOf y).toNat)
  case atStart => exact ⟨0, _, by omega, rfl, rfl, Later.refl _, World.ownsRow_nil ..⟩
  case round =>
    obtain ⟨k, v, hk, rfl, rfl, hl0, hrow⟩ := hrel
    obtain ⟨wo, rfl⟩ : ∃ wo : World, wo = wr := ⟨_, rfl⟩
    by_cases hkN : k < n
    · have hkL : k < s.os.length := by rw [hn.out]; exact hkN
      obtain ⟨x, hx⟩ : ∃ x, Hid (s.os[k]? = some x) := ⟨_, Lib.hid (List.getElem?_eq_getElem hkL)⟩
      have hOk := hs.later (hlX.trans hl0)
      have hrv := hOk.1
      rw [hu.out] at hrv
      obtain ⟨g, o, rfl, hrg⟩ := hrv.at (k := k) (x := x.row) (by rw [List.getElem?_map, hx.out]; rfl)
      have hxs := size_obj x
      have hki : (k : Int) < n := by omega
      obtain ⟨X1, hX1⟩ : ∃ X, X = wo.alloc (.cells x.row.toArray 37) := ⟨_, rfl⟩
      have hl1 : Later wo X1 := by rw [hX1]; exact (Later.refl wo).alloc _
      have kX : ObjB X1 wo.heap.size x := by rw [hX1]; exact heap_alloc_new _ _
      have hrow1 : X1.ownsRow X.heap.size 3 1 v k (encI ((idL s).take k)) := by rw [hX1]; exact hrow.alloc _
      have hnew := heap_alloc_new wo (.cells #[.int .i64 0, .int .i64 0, .int .i64 0, .int .i64 0, .int .i64 0, .int .i64 0, .int .i64 0, .int .i64 0, .int .i64 0, .int .i64 0, .int .i64 0, .int .i64 0, .int .i64 0, .int .i64 0, .int .i64 0, .int .i64 0, .int .i64 0, .slice none 0 0, .slice none 0 0] 37)
      have hz2' : (#[.int .i64 0, .int .i64 0, .int .i64 0, .int .i64 0, .int .i64 0, .int .i64 0, .int .i64 0, .int .i64 0, .int .i64 0, .int .i64 0, .int .i64 0, .int .i64 0, .int .i64 0, .int .i64 0, .int .i64 0, .int .i64 0, .int .i64 0, .slice none 0 0, .slice none 0 0] : Array Value).size = x.row.toArray.size := by rw [show x.row.toArray.size = 19 from by rw [List.size_toArray, SObj.row_length]]; rfl
      have hz1' : x.row.toArray.all (·.oneCell') = true := all_oneCell_toArray (SObj.row_one (hOk.2 x (List.mem_of_getElem? hx.out)))
      have hxs2 : (Try.prog.info? 37).map (·.size) = some x.row.toArray.size := by rw [List.size_toArray]; exact hxs
      go_upto_region 5 with (first | refine wpList_load_mid rfl _ _ rfl g (o + k * 19) rfl x.row _ hrg Try.underlying37 rfl hxs ?_ | refine wpList_store_row rfl 37 _ _ rfl wo.heap.size x.row.toArray rfl rfl 37 #[.int .i64 0, .int .i64 0, .int .i64 0, .int .i64 0, .int .i64 0, .int .i64 0, .int .i64 0, .int .i64 0, .int .i64 0, .int .i64 0, .int .i64 0, .int .i64 0, .int .i64 0, .int .i64 0, .int .i64 0, .int .i64 0, .int .i64 0, .slice none 0 0, .slice none 0 0] hnew hxs2 hz2' hz1' ?_)
      rw [World.setRow_alloc_new, ← hX1]
      clear hX1 hnew hz2' hz1' hxs hxs2 hrg hOk hrv
      have ci := kX.id
      have hn2 : X.heap.size ≤ X1.heap.size := (hl0.trans hl1).size
      have hML : 2000000 < maxLen := by decide
      go_wp2_with (at_builtin; refine wpList_append_own _ rfl _ _ 44 rfl X.heap.size 3 i0 (.int .i64 0) 1 8 Try.underlying44 hi hz0 hz1 hz2 rfl (by decide) v k _ rfl (hrow1.alloc _) ⟨X1.heap.size, 0, none⟩ 1 1 [.int .i64 x.id] rfl rfl (World.news_of_block (heap_alloc_new _ _)) (by simp [Value.oneCell']) (by omega) (by omega) (by simp; omega) ?_; intro v2 w2 hr2 hg2 hn3)
      go_roundw
      case rel =>
        refine ⟨k + 1, _, by omega, by go_num, rfl, ?_, ?_⟩
        · exact later_row ((hl0.trans hl1).alloc _) (hrow1.alloc _) (Nat.le_refl _) hg2
        · rw [idL_snoc hx.out]
          unfold encI at hr2 ⊢
          rw [List.map_append]
          exact hr2
      case measure => simp [intOf]; omega
    · obtain rfl : k = n := by omega
      have hln : (idL s).length = k := by unfold idL; rw [List.length_map]; exact hn.out
      rw [List.take_of_length_le (by omega)] at hrow
      by_cases h0 : k = 0
      · have hL0 : idL s = [] := List.eq_nil_of_length_eq_zero (by omega)
        have hv : ∃ p cp, v = .slice p 0 cp := by
          rcases hrow.2 with ⟨rfl, _⟩ | ⟨g, cp, cur, rfl, _⟩
          · exact ⟨_, _, rfl⟩
          · exact ⟨_, _, by rw [h0]⟩
        rw [← hln] at hrow
        have hf : IntsF W.heap.size wo v (srt (idL s)) := by
          have h1 := intsF_of_row (n := W.heap.size) hrow (by have := hWX.out; omega)
          rw [hL0] at h1 ⊢
          rw [show srt [] = [] from by simp [srt]]
          exact h1
        obtain ⟨p, cp, rfl⟩ := hv
        clear hrow hln
        subst h0
        go_wp2_with fail
        refine (slices_Sort_int_none p cp _).mono ?_
        rintro e w' ⟨rfl, rfl⟩
        go_wp2_with fail
        go_ret
        exact ⟨_, rfl, hf, hlX.trans hl0⟩
      · rw [← hln] at hrow
        have hpos : 0 < (idL s).length := by omega
        have hso := sort_own hrow hpos (by omega)
        obtain ⟨g', cp, rfl⟩ := ownsRow_pos hrow hpos
        have hlr := fun w' h => later_row (w' := w') hl0 hrow (Nat.le_refl _) h
        rw [hln] at hso ⊢
        clear hrow
        replace hso := Lib.hid hso
        replace hlr := Lib.hid hlr
        go_wp2_with fail
        refine hso.out.mono ?_
        rintro e w' ⟨rfl, hr5, hg5⟩
        go_wp2_with fail
        go_ret
        exact ⟨_, rfl, intsF_of_row hr5 (by have := hWX.out; omega), hlX.trans (hlr.out _ hg5)⟩
end Go.Proofs.Ytackbajbladhhaa
