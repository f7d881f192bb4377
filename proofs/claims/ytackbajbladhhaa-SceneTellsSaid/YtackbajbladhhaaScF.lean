/-
  Chapter 6: whether an object keeps a rule: matrices.
-/
import Derived.Test.YtackbajbladhhaaScE
namespace Go.Proofs.Ytackbajbladhhaa
open Go.RowKit Go.Shelf
set_option linter.unusedVariables false
set_option linter.unusedSimpArgs false
attribute [local go_sem] Oper.semAt_some

theorem wpList_load_row_w {P : Program} {ops : Array Oper} {rest : List Oper} {o : Oper} {a : Act} {w : World} {Q : Exit → Act → World → Prop} (hgd : Region.wanted o (yielded ops a.tmps) = true) (ty : TypeId) (x : Operand) (ho : o.op = .load ty x)
    (g : Nat) (hx : a.eval x = .pointer (some ⟨g, 0, none⟩)) (t : TypeId) (cs : Array Value) (fr : Nat × Nat) (d : TypeDesc) (hg : w.heap[g]? = some (.cells cs t fr))
    (hu : P.underlying ty = some d) (hd : (match d with | .struct _ | .array _ _ => true | _ => false) = true) (hi : (P.info? ty).map (·.size) = some cs.size)
    (h : wpList P ops Q rest (a.put o.dst (.agg cs)) w) : wpList P ops Q (o :: rest) a w := by
  unfold wpList
  rw [if_pos hgd]
  exact .inl (wp_load_row ty x ho g hx t cs fr d hg hu hd hi h)
set_option maxRecDepth 100000 in
set_option maxHeartbeats 2000000 in
theorem holds5_any (s : Scn) (x : SObj) (k : Int) (W : World) :
    Calls Try.prog 73 #[s.V, .int .i64 k, x.V, .int .i64 5] W fun e w' => e = .returned (.bool (decide (Within 16777216 16 x.m))) ∧ Later W w' := by
  have hC := Lib.hid (fun W => check_any x.m 16777216 W (by omega))
  by_cases h : Within 16777216 16 x.m
  all_goals
    first
      | (rw [if_pos h] at hC; rw [decide_eq_true h])
      | (rw [if_neg h] at hC; rw [decide_eq_false h])
    clear h
    obtain ⟨X, hX⟩ : ∃ X, X = (W.alloc (.cells s.row.toArray 28)).alloc (.cells x.row.toArray 37) := ⟨_, rfl⟩
    have hl : Later W X := by rw [hX]; exact ((Later.refl W).alloc _).alloc _
    have kS : ScnB X W.heap.size s := by rw [hX]; exact push_one (heap_alloc_new _ _) _
    have kO : ObjB X (W.heap.size + 1) x := by rw [hX]; exact push_new _ _ (by simp)
    have om := kO.mat
    have sc := kS.cam
    have hsm := len_mat x.m
    have hsc := len_mat s.cam
    go_enter Try.func73, Try.ntmps73
    go_upto_region 1 with fail
    rw [← hX]
    clear hX
    go_wp2_with (refine wpList_load_mid rfl _ _ rfl (W.heap.size + 1) 1 rfl _ _ om Try.underlying25 rfl hsm ?_)
    refine (hC.out _).mono ?_
    rintro e w2 ⟨rfl, hl2⟩
    go_wp2_with fail
    go_ret
    exact ⟨rfl, hl.trans hl2⟩
set_option maxRecDepth 100000 in
set_option maxHeartbeats 2000000 in
theorem holds6_any (s : Scn) (x : SObj) (k : Int) (W : World) (b : Bool) (hb : b = true ↔ (mulMay s.cam x.m ∧ Within 67108864 16 (mulQ s.cam x.m))) :
    Calls Try.prog 73 #[s.V, .int .i64 k, x.V, .int .i64 6] W fun e w' => e = .returned (.bool b) ∧ Later W w' := by
  by_cases h : mulMay s.cam x.m
  · have hM := Lib.hid (fun W => mul_yes s.cam x.m W h)
    have hC := Lib.hid (fun W => check_any (mulQ s.cam x.m) 67108864 W (by omega))
    obtain ⟨X, hX⟩ : ∃ X, X = (W.alloc (.cells s.row.toArray 28)).alloc (.cells x.row.toArray 37) := ⟨_, rfl⟩
    have hl : Later W X := by rw [hX]; exact ((Later.refl W).alloc _).alloc _
    have kS : ScnB X W.heap.size s := by rw [hX]; exact push_one (heap_alloc_new _ _) _
    have kO : ObjB X (W.heap.size + 1) x := by rw [hX]; exact push_new _ _ (by simp)
    have om := kO.mat
    have sc := kS.cam
    have hsm := len_mat x.m
    have hsc := len_mat s.cam
    go_enter Try.func73, Try.ntmps73
    go_upto_region 1 with fail
    rw [← hX]
    clear hX
    go_wp2_with (first | refine wpList_load_mid rfl _ _ rfl (W.heap.size + 1) 1 rfl _ _ om Try.underlying25 rfl hsm ?_ | refine wpList_load_mid rfl _ _ rfl W.heap.size 2 rfl _ _ sc Try.underlying25 rfl hsc ?_)
    refine (hM.out _).mono ?_
    rintro e w2 ⟨rfl, hl2⟩
    have hnew := heap_alloc_new w2 (.cells #[.int .i64 0, .int .i64 0, .int .i64 0, .int .i64 0, .int .i64 0, .int .i64 0, .int .i64 0, .int .i64 0, .int .i64 0, .int .i64 0, .int .i64 0, .int .i64 0, .int .i64 0, .int .i64 0, .int .i64 0, .int .i64 0] 25)
    have hz2 : (#[.int .i64 0, .int .i64 0, .int .i64 0, .int .i64 0, .int .i64 0, .int .i64 0, .int .i64 0, .int .i64 0, .int .i64 0, .int .i64 0, .int .i64 0, .int .i64 0, .int .i64 0, .int .i64 0, .int .i64 0, .int .i64 0] : Array Value).size = (rowV 16 (mulQ s.cam x.m)).size := by rw [rowV_size]; rfl
    have hnew2 : matB ((w2.alloc (.cells #[.int .i64 0, .int .i64 0, .int .i64 0, .int .i64 0, .int .i64 0, .int .i64 0, .int .i64 0, .int .i64 0, .int .i64 0, .int .i64 0, .int .i64 0, .int .i64 0, .int .i64 0, .int .i64 0, .int .i64 0, .int .i64 0] 25)).setRow w2.heap.size (rowV 16 (mulQ s.cam x.m))) w2.heap.size (mulQ s.cam x.m) := setRow_heap _ _ _ _ _ _ hnew
    go_wp2_with (first | refine wpList_store_row rfl 25 _ _ rfl w2.heap.size (rowV 16 (mulQ s.cam x.m)) rfl rfl 25 #[.int .i64 0, .int .i64 0, .int .i64 0, .int .i64 0, .int .i64 0, .int .i64 0, .int .i64 0, .int .i64 0, .int .i64 0, .int .i64 0, .int .i64 0, .int .i64 0, .int .i64 0, .int .i64 0, .int .i64 0, .int .i64 0] hnew (size_mat _) hz2 (rowV_one 16 _) ?_ | refine wpList_load_row_w rfl _ _ rfl w2.heap.size rfl _ _ (0, 0) _ hnew2 Try.underlying25 rfl (size_mat _) ?_)
    refine (hC.out _).mono ?_
    rintro e w3 ⟨rfl, hl3⟩
    have hfin := (hl.trans hl2).trans ((((Later.refl w2).alloc _).setRow (Nat.le_refl _) _).trans hl3)
    by_cases hw : Within 67108864 16 (mulQ s.cam x.m)
    · rw [if_pos hw]
      go_wp2_with fail
      go_ret
      exact ⟨ret_bool (hb.2 ⟨h, hw⟩).symm, hfin⟩
    · rw [if_neg hw]
      go_wp2_with fail
      go_ret
      exact ⟨ret_bool (by cases b; rfl; exact absurd (hb.1 rfl).2 hw), hfin⟩
  · have hM := Lib.hid (fun W => mul_no s.cam x.m W h)
    obtain ⟨X, hX⟩ : ∃ X, X = (W.alloc (.cells s.row.toArray 28)).alloc (.cells x.row.toArray 37) := ⟨_, rfl⟩
    have hl : Later W X := by rw [hX]; exact ((Later.refl W).alloc _).alloc _
    have kS : ScnB X W.heap.size s := by rw [hX]; exact push_one (heap_alloc_new _ _) _
    have kO : ObjB X (W.heap.size + 1) x := by rw [hX]; exact push_new _ _ (by simp)
    have om := kO.mat
    have sc := kS.cam
    have hsm := len_mat x.m
    have hsc := len_mat s.cam
    go_enter Try.func73, Try.ntmps73
    go_upto_region 1 with fail
    rw [← hX]
    clear hX
    go_wp2_with (first | refine wpList_load_mid rfl _ _ rfl (W.heap.size + 1) 1 rfl _ _ om Try.underlying25 rfl hsm ?_ | refine wpList_load_mid rfl _ _ rfl W.heap.size 2 rfl _ _ sc Try.underlying25 rfl hsc ?_)
    refine (hM.out _).mono ?_
    rintro e w2 ⟨rfl, hl2⟩
    have hnew := heap_alloc_new w2 (.cells #[.int .i64 0, .int .i64 0, .int .i64 0, .int .i64 0, .int .i64 0, .int .i64 0, .int .i64 0, .int .i64 0, .int .i64 0, .int .i64 0, .int .i64 0, .int .i64 0, .int .i64 0, .int .i64 0, .int .i64 0, .int .i64 0] 25)
    have hz2 : (#[.int .i64 0, .int .i64 0, .int .i64 0, .int .i64 0, .int .i64 0, .int .i64 0, .int .i64 0, .int .i64 0, .int .i64 0, .int .i64 0, .int .i64 0, .int .i64 0, .int .i64 0, .int .i64 0, .int .i64 0, .int .i64 0] : Array Value).size = (rowV 16 (fun _ => (0 : Int))).size := by rw [rowV_size]; rfl
    go_wp2_with (first | refine wpList_store_row rfl 25 _ _ rfl w2.heap.size (rowV 16 (fun _ => 0)) rfl rfl 25 #[.int .i64 0, .int .i64 0, .int .i64 0, .int .i64 0, .int .i64 0, .int .i64 0, .int .i64 0, .int .i64 0, .int .i64 0, .int .i64 0, .int .i64 0, .int .i64 0, .int .i64 0, .int .i64 0, .int .i64 0, .int .i64 0] hnew (size_mat _) hz2 (rowV_one 16 _) ?_)
    go_ret
    exact ⟨ret_bool (by cases b; rfl; exact absurd (hb.1 rfl).1 h), (hl.trans hl2).trans (((Later.refl w2).alloc _).setRow (Nat.le_refl _) _)⟩
end Go.Proofs.Ytackbajbladhhaa
