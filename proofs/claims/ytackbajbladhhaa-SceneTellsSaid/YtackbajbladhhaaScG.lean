/-
  Chapter 6: whether an object keeps a rule: vertices and triangles.
-/
import Derived.Test.YtackbajbladhhaaScF
namespace Go.Proofs.Ytackbajbladhhaa
open Go.RowKit Go.Shelf
set_option linter.unusedVariables false
set_option linter.unusedSimpArgs false
attribute [local go_sem] Oper.semAt_some

theorem any_all {α : Type} (L : List α) (d : α) (q : α → Bool) : (List.range L.length).any (fun k => q (L.getD k d)) = !L.all (fun x => !q x) := by
  rw [Bool.eq_iff_iff]
  simp only [List.any_eq_true, List.mem_range, Bool.not_eq_true', List.all_eq_false]
  constructor
  · rintro ⟨k, hk, h⟩
    refine ⟨L[k], List.getElem_mem hk, ?_⟩
    rw [List.getD_eq_getElem?_getD, List.getElem?_eq_getElem hk, Option.getD_some] at h
    simp [h]
  · rintro ⟨x, hx, h⟩
    obtain ⟨k, hk, rfl⟩ := List.getElem_of_mem hx
    refine ⟨k, hk, ?_⟩
    rw [List.getD_eq_getElem?_getD, List.getElem?_eq_getElem hk, Option.getD_some]
    simpa using h
def nearAll (L : List V3) : Bool := L.all fun v => !farB v
def triB (n : Nat) (t : T4) : Bool := allIn 0 ((n : Int) - 1) [t.1, t.2.1, t.2.2.1]
def triAll (n : Nat) (L : List T4) : Bool := L.all fun t => !(!triB n t)
set_option maxRecDepth 100000 in
set_option maxHeartbeats 2000000 in
theorem holds7_any (s : Scn) (x : SObj) (k : Int) (W : World) (hx : x.Ok W) :
    Calls Try.prog 73 #[s.V, .int .i64 k, x.V, .int .i64 7] W fun e w' => e = .returned (.bool (decide (x.vs.length ≤ 64) && nearAll x.vs)) ∧ Later W w' := by
  obtain ⟨X, hX⟩ : ∃ X, X = (W.alloc (.cells s.row.toArray 28)).alloc (.cells x.row.toArray 37) := ⟨_, rfl⟩
  have hl : Later W X := by rw [hX]; exact ((Later.refl W).alloc _).alloc _
  have kO : ObjB X (W.heap.size + 1) x := by rw [hX]; exact push_new _ _ (by simp)
  have ou := kO.uv
  have ot := kO.ut
  obtain ⟨au, cu, hu⟩ := hx.1.form
  obtain ⟨at', ct, ht⟩ := hx.2.form
  have hx1 := hx.1
  have hx2 := hx.2
  rw [hu] at ou hx1
  rw [ht] at ot hx2
  rw [List.length_map] at ou ot hx1 hx2
  obtain ⟨n, hn⟩ : ∃ n, Hid (x.vs.length = n) := ⟨_, rfl⟩
  obtain ⟨b, hb⟩ : ∃ b, Hid (nearAll x.vs = b) := ⟨_, rfl⟩
  rw [hn.out] at ou hx1
  rw [hb.out, hn.out]
  by_cases h : n ≤ 64
  · have hi : (n : Int) ≤ 64 := by omega
    have hC := Lib.hid (cff_far (x.vs.map vrow) (.slice au n cu) (fun k => farB (x.vs.getD k (0, 0, 0))) X (hx1.later hl) (by rw [List.length_map]; have := hn.out; omega) (by intro r hr; obtain ⟨z, _, rfl⟩ := List.mem_map.1 hr; rfl)
      (fun j r Z hr hZ => by
        rw [List.getElem?_map] at hr
        obtain ⟨z, hz, rfl⟩ := Option.map_eq_some_iff.1 hr
        rw [List.getD_eq_getElem?_getD, hz]
        obtain ⟨a, b, c⟩ := z
        exact far1_any a b c Z))
    rw [List.length_map, any_all x.vs (0, 0, 0) farB, show (x.vs.all fun x => !farB x) = b from hb.out] at hC
    clear hx hx1 hx2 hu ht ot kO
    go_enter Try.func73, Try.ntmps73
    go_upto_region 1 with fail
    rw [← hX]
    clear hX
    go_wp2_with fail
    refine hC.out.mono ?_
    rintro e w2 ⟨rfl, hl2⟩
    go_wp2_with fail
    go_ret
    exact ⟨ret_bool (by first | (simp; done) | (rw [decide_eq_true h]; simp)), hl.trans hl2⟩
  · have hi : (64 : Int) < n := by omega
    clear hx hx1 hx2 hu ht ot kO
    go_enter Try.func73, Try.ntmps73
    go_upto_region 1 with fail
    rw [← hX]
    clear hX
    go_wp2_with fail
    go_ret
    exact ⟨ret_bool (by first | rfl | (rw [decide_eq_false h]; rfl)), hl⟩
set_option maxRecDepth 100000 in
set_option maxHeartbeats 2000000 in
theorem holds8_any (s : Scn) (x : SObj) (k : Int) (W : World) (hx : x.Ok W) (hvl : x.vs.length ≤ 1000000) :
    Calls Try.prog 73 #[s.V, .int .i64 k, x.V, .int .i64 8] W fun e w' => e = .returned (.bool (decide (x.ts.length ≤ 64) && triAll x.vs.length x.ts)) ∧ Later W w' := by
  obtain ⟨X, hX⟩ : ∃ X, X = (W.alloc (.cells s.row.toArray 28)).alloc (.cells x.row.toArray 37) := ⟨_, rfl⟩
  have hl : Later W X := by rw [hX]; exact ((Later.refl W).alloc _).alloc _
  have kO : ObjB X (W.heap.size + 1) x := by rw [hX]; exact push_new _ _ (by simp)
  have ou := kO.uv
  have ot := kO.ut
  obtain ⟨au, cu, hu⟩ := hx.1.form
  obtain ⟨at', ct, ht⟩ := hx.2.form
  have hx1 := hx.1
  have hx2 := hx.2
  rw [hu] at ou hx1
  rw [ht] at ot hx2
  rw [List.length_map] at ou ot hx1 hx2
  obtain ⟨n, hn⟩ : ∃ n, Hid (x.ts.length = n) := ⟨_, rfl⟩
  obtain ⟨b, hb⟩ : ∃ b, Hid (triAll x.vs.length x.ts = b) := ⟨_, rfl⟩
  rw [hn.out] at ot hx2
  rw [hb.out, hn.out]
  by_cases h : n ≤ 64
  · have hi : (n : Int) ≤ 64 := by omega
    have hC := Lib.hid (cff_out (W.heap.size + 1) (x.ts.map trow) (.slice at' n ct) (fun k => !triB x.vs.length (x.ts.getD k (0, 0, 0, 0))) X (hx2.later hl) (by rw [List.length_map]; have := hn.out; omega) (by intro r hr; obtain ⟨z, _, rfl⟩ := List.mem_map.1 hr; rfl)
      (fun j r Z hr hZ => by
        rw [List.getElem?_map] at hr
        obtain ⟨z, hz, rfl⟩ := Option.map_eq_some_iff.1 hr
        rw [List.getD_eq_getElem?_getD, hz]
        exact out1_any z x.vs.length (W.heap.size + 1) Z au cu (hZ.cell ou) hvl))
    rw [List.length_map, any_all x.ts (0, 0, 0, 0) (fun t => !triB x.vs.length t), show (x.ts.all fun t => !(!triB x.vs.length t)) = b from hb.out] at hC
    clear hx hx1 hx2 hu ht ou kO
    go_enter Try.func73, Try.ntmps73
    go_upto_region 1 with fail
    rw [← hX]
    clear hX
    go_wp2_with fail
    refine hC.out.mono ?_
    rintro e w2 ⟨rfl, hl2⟩
    go_wp2_with fail
    go_ret
    exact ⟨ret_bool (by first | (simp; done) | (rw [decide_eq_true h]; simp)), hl.trans hl2⟩
  · have hi : (64 : Int) < n := by omega
    clear hx hx1 hx2 hu ht ou kO
    go_enter Try.func73, Try.ntmps73
    go_upto_region 1 with fail
    rw [← hX]
    clear hX
    go_wp2_with fail
    go_ret
    exact ⟨ret_bool (by first | rfl | (rw [decide_eq_false h]; rfl)), hl⟩
end Go.Proofs.Ytackbajbladhhaa
