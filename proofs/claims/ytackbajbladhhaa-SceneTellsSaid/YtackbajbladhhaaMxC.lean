/-
  Chapter 3: are a matrix' numbers within a bound?
-/
import Derived.Laws.Rows
import Derived.Test.YtackbajbladhhaaMxB
namespace Go.Proofs.Ytackbajbladhhaa
open Go.RowKit Go.Shelf
set_option linter.unusedVariables false
set_option linter.unusedSimpArgs false
attribute [local go_sem] Oper.semAt_some

/-- Numbers that are within a bound. -/
def Within (b : Int) (n : Nat) (f : Nat → Int) : Prop := ∀ k, k < n → -b ≤ f k ∧ f k ≤ b
instance (b : Int) (n : Nat) (f : Nat → Int) : Decidable (Within b n f) := by unfold Within; exact inferInstance
def AllIn (b : Int) (f : Nat → Int) (pre : List K16) : Prop := ∀ x ∈ pre, -b ≤ f x.1 ∧ f x.1 ≤ b
def OutOf (b : Int) (f : Nat → Int) : Prop := ∃ x : K16, ¬ (-b ≤ f x.1 ∧ f x.1 ≤ b)
theorem AllIn.within {b : Int} {f : Nat → Int} {ys : List K16} (h : AllIn b f ys) (hy : ys.map (·.1) = List.range 16) : Within b 16 f := fun k hk => by
  have hm : k ∈ ys.map (·.1) := by rw [hy]; exact List.mem_range.2 hk
  obtain ⟨x, hx, rfl⟩ := List.mem_map.1 hm
  exact h x hx
theorem OutOf.not {b : Int} {f : Nat → Int} (h : OutOf b f) : ¬ Within b 16 f := fun hw => by
  obtain ⟨x, hx⟩ := h
  exact hx (hw x.1 x.2)
theorem load_mat {W : World} {M : Nat} {f : Nat → Int} (h : matB W M f) : (loadVar 25 ⟨M, 0, none⟩).run Try.prog W = .ok (matV f) W := by
  have hs : (Try.prog.info? 25).map (·.size) = some 16 := by kernel_rfl
  exact run_loadVar_row W M 25 25 _ (0, 0) _ h Try.underlying25 rfl (by rw [hs, rowV_size])
theorem size_mat (f : Nat → Int) : (Try.prog.info? 25).map (·.size) = some (rowV 16 f).size := by
  have hs : (Try.prog.info? 25).map (·.size) = some 16 := by kernel_rfl
  rw [hs, rowV_size]
set_option maxRecDepth 100000 in
set_option maxHeartbeats 4000000 in
theorem check_any (f : Nat → Int) (b : Int) (W : World) (hb : 0 ≤ b ∧ b ≤ 4611686018427387904) :
    Calls Try.prog 38 #[matV f, .int .i64 b] W fun e w' => e = .returned (.int .i64 (if Within b 16 f then 0 else 30)) ∧ Later W w' := by
  refine (callsIn_wide (n := 4)).1 ?_
  refine callsIn_of_wp_marks Try.func38 rfl trivial ?_ rfl
  simp only [Try.ntmps38, List.size_toArray, List.length_cons, List.length_nil, Nat.reduceAdd, Nat.reduceSub, Array.replicate_succ, Array.replicate_zero, List.push_toArray, List.append_toArray, List.nil_append, List.cons_append]
  refine wpIn_wide.2 ?_
  obtain ⟨X, hX⟩ : ∃ X, X = ((W.alloc (.cells (rowV 16 f) 25)).alloc (.cells #[.int .i64 b] 2)).alloc (.cells #[.int .i64 0] 30) := ⟨_, rfl⟩
  have hlX : Later W X := by rw [hX]; exact (((Later.refl W).alloc _).alloc _).alloc _
  have kM : matB X W.heap.size f := by rw [hX]; exact push_one (push_one (heap_alloc_new _ _) _) _
  have kb : X.heap[W.heap.size + 1]? = some (.cells #[.int .i64 b] 2 (0, 0)) := by rw [hX]; exact push_one (by simpa using heap_alloc_new (W.alloc _) _) _
  have kE : X.heap[W.heap.size + 1 + 1]? = some (.cells #[.int .i64 0] 30 (0, 0)) := by rw [hX]; simpa using heap_alloc_new ((W.alloc _).alloc _) _
  have hXs : X.heap.size = W.heap.size + 3 := by rw [hX]; simp
  go_wp2_with fail
  go_step3
  go_wp2_with fail
  rw [← hX]
  clear hX
  replace hXs := Lib.hid hXs
  refine wp_label ?_
  go_wp2_with (refine wpList_load_row rfl _ _ rfl W.heap.size rfl _ _ (0, 0) _ kM Try.underlying25 rfl (size_mat f) ?_)
  refine (numbers_any f _).mono ?_
  rintro e w3 ⟨rfl, rfl⟩
  obtain ⟨Y, hY⟩ : ∃ Y, Y = X.alloc (.cells (rowV 16 f) 25) := ⟨_, rfl⟩
  have hlY : Later X Y := by rw [hY]; exact (Later.refl X).alloc _
  have hYs : Y.heap.size = X.heap.size + 1 := by rw [hY]; simp
  have kM2 : matB Y X.heap.size f := by rw [hY]; exact heap_alloc_new _ _
  replace kb := hlY.row kb
  replace kE := hlY.row kE
  rw [← hY]
  obtain ⟨N, hN⟩ : ∃ N, Hid (W.heap.size = N) := ⟨_, rfl⟩
  obtain ⟨O, hO⟩ : ∃ O, Hid (N + 1 = O) := ⟨_, rfl⟩
  obtain ⟨E, hE⟩ : ∃ E, Hid (O + 1 = E) := ⟨_, rfl⟩
  obtain ⟨M, hM⟩ : ∃ M, Hid (X.heap.size = M) := ⟨_, rfl⟩
  have hNW : W.heap.size ≤ N := Nat.le_of_eq hN.out
  have hNO : N < O := by have := hO.out; omega
  have hOE : O < E := by have := hE.out; omega
  have hEM : E < M := by have := hM.out; have := hE.out; have := hO.out; have := hN.out; have := hXs.out; omega
  have hMY : M < Y.heap.size := by have := hM.out; omega
  rw [hN.out] at kM kb kE
  rw [hO.out] at kb kE
  rw [hE.out] at kE
  rw [hM.out] at kM2
  rw [hN.out, hO.out, hE.out, hM.out]
  have HS := Lib.hid (numbers_stops M f (fun k => k = O ∨ k = M) Y (.inr rfl) kM2)
  have hlW := hlX.trans hlY
  clear hXs hY hYs hN hO hE hM kM hlX hlY kM2
  go_wp2_with fail
  refine (wpIn_wide (n := 4)).1 ?_
  refine wpIn_rangeFunc_ownG rfl (by omega) (gf := 74) (lb := #[wp M]) rfl trivial (enters_of Try.func74 (by kernel_rfl) rfl)
    HS.out KeepS.trans (fun W l o o' hl _ _ _ => KeepS.putObj W l o' (fun k hk => by rcases hk with h | h <;> omega)) (Below.refl _ _) (fun _ => rfl)
    (fun (pre : List K16) W' => AllIn b f pre ∧ W'.heap[O]? = some (.cells #[.int .i64 b] 2 (0, 0)) ∧ W'.heap[E]? = some (.cells #[.int .i64 0] 30 (0, 0)) ∧ Y.heap.size ≤ W'.heap.size ∧ W.grownBy W' none)
    (fun c pre W' => c = .exit 0 ∧ OutOf b f ∧ W'.heap[E]? = some (.cells #[.int .i64 30] 30 (0, 0)) ∧ W.grownBy W' none)
    (OwnFrom.and (ownFrom_pure _ _) (OwnFrom.and (ownFrom_row (by omega)) (OwnFrom.and (ownFrom_row (by omega)) (OwnFrom.and (ownFrom_size _ _) (ownFrom_none hlW.size)))))
    (fun c => OwnFrom.and (ownFrom_pure _ _) (OwnFrom.and (ownFrom_pure _ _) (OwnFrom.and (ownFrom_row (by omega)) (ownFrom_none hlW.size))))
    ⟨fun x hx => by simp at hx, kb, kE, Nat.le_refl _, hlW.grown⟩
    (fun x => { tmps := #[matV f, .int .i64 b, wp N, wp O, .int .i64 0, wp E, undef, .int .i64 (f x.1), matV f, .func (.func 74) #[] #[wp M], .agg #[.int .i64 ((x.1 / 4 : Nat) : Int), .int .i64 ((x.1 % 4 : Nat) : Int)], .int .i64 (f x.1), undef, undef, undef, undef, undef, undef, undef, undef, undef, undef, undef, undef, undef, undef], defers := [] }) ?assign ?body ?done ?stop
  case assign =>
    intro l x W K hK
    gi_wp2
    exact hK
  case body =>
    rintro l pre x W1 ⟨hpre, kb1, kE1, hs1, hG⟩ hlt
    have cb := cell_1 kb1
    have ce := cell_1 kE1
    have cf := fun k => frozen_r kE1 k
    obtain ⟨y, hy⟩ : ∃ y, Hid (f x.1 = y) := ⟨_, rfl⟩
    rw [hy.out]
    by_cases h : -b ≤ y ∧ y ≤ b
    · gi_wp2_with fail
      refine ⟨KeepsFrom.refl _ _, KeepS.refl _ _, ?_, kb1, kE1, hs1, hG⟩
      intro z hz
      rcases List.mem_append.1 hz with hz | hz
      · exact hpre z hz
      · rw [List.mem_singleton] at hz; rw [hz, hy.out]; exact h
    · have hv : OutOf b f := ⟨x, by rw [hy.out]; exact h⟩
      have hEW : E < W1.heap.size := (Array.getElem?_eq_some_iff.1 kE1).1
      by_cases d : y < -b
      · gi_wp2_with fail
        first
          | exact ⟨keepsFrom_set (KeepsFrom.refl _ _) (by omega), rfl, hv, heap_setC kE1, grown_none hG (grownBy_set _ _ _ _) (fun r e => by cases e; omega)⟩
          | exact ⟨keepsFrom_set (KeepsFrom.refl _ _) (by omega), rfl, heap_setC kE1, grown_none hG (grownBy_set _ _ _ _) (fun r e => by cases e; omega)⟩
      · have d2 : b < y := by omega
        gi_wp2_with fail
        first
          | exact ⟨keepsFrom_set (KeepsFrom.refl _ _) (by omega), rfl, hv, heap_setC kE1, grown_none hG (grownBy_set _ _ _ _) (fun r e => by cases e; omega)⟩
          | exact ⟨keepsFrom_set (KeepsFrom.refl _ _) (by omega), rfl, heap_setC kE1, grown_none hG (grownBy_set _ _ _ _) (fun r e => by cases e; omega)⟩
  case done =>
    rintro D ys W' hD hys ⟨hpre, kb1, kE1, hs1, hG⟩ hK
    have ce := cell_1 kE1
    go_wp2_with fail
    rw [Exit.noGoto_ret]
    refine ⟨by simp, .inl ⟨_, _, rfl, run_takeDeferred hK, ?_⟩⟩
    exact ⟨_, results_tmp rfl _ _ _, by rw [if_pos (hpre.within hys)]; rfl, Below.trans (Later.of_grown hG) (belowK_b (w := Y) hlW.size W' D _ _ hD hK rfl rfl)⟩
  case stop =>
    rintro D c pre W' hD hsp ⟨rfl, hv, kE1, hG⟩ hK
    have ce := cell_1 kE1
    refine wpIn_wide.2 ?_
    go_wp2_with fail
    rw [Exit.noGoto_ret]
    refine ⟨by simp, .inl ⟨_, _, rfl, run_takeDeferred hK, ?_⟩⟩
    exact ⟨_, results_tmp rfl _ _ _, by rw [if_neg hv.not]; rfl, Below.trans (Later.of_grown hG) (belowK_b (w := Y) hlW.size W' D _ _ hD hK rfl rfl)⟩
end Go.Proofs.Ytackbajbladhhaa
