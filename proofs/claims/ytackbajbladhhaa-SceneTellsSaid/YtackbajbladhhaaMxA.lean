/-
  Chapter 3: a row by a column.
-/
import Derived.Laws.Rows
import Derived.Test.YtackbajbladhhaaWdI
namespace Go.Proofs.Ytackbajbladhhaa
open Go.RowKit Go.Shelf
set_option linter.unusedVariables false
set_option linter.unusedSimpArgs false
attribute [local go_sem] Oper.semAt_some

/-- Four numbers by value. -/
abbrev vecV (f : Nat → Int) : Value := .agg #[.int .i64 (f 0), .int .i64 (f 1), .int .i64 (f 2), .int .i64 (f 3)]
abbrev vecB (W : World) (M : Nat) (t : TypeId) (f : Nat → Int) : Prop := W.heap[M]? = some (.cells #[.int .i64 (f 0), .int .i64 (f 1), .int .i64 (f 2), .int .i64 (f 3)] t (0, 0))
theorem four_of_box {W : World} {M : Nat} {t : TypeId} {f : Nat → Int} (h : vecB W M t f) : Four W M 0 f := fun k hk => by
  rw [Nat.zero_add]
  refine (cell_of_row W M k _ _ _ h).trans ?_
  rcases k with _ | _ | _ | _ | k
  · rfl
  · rfl
  · rfl
  · rfl
  · omega
/-- A row by a column: the number, or that it is too great. -/
def dotQ (f g : Nat → Int) : Int := (f 0 * g 0 + f 1 * g 1 + f 2 * g 2 + f 3 * g 3) / 65536
def dotMay (f g : Nat → Int) : Prop := -4611686018427387904 ≤ dotQ f g ∧ dotQ f g ≤ 4611686018427387904
theorem dot_acc (f g : Nat → Int) : acc (prs f g 4) / 65536 = dotQ f g := by rw [acc_four]; rfl
theorem acc_b126 {f g : Nat → Int} (hf : B4 f) (hg : B4 g) : -85070591730234615865843651857942052864 ≤ acc (prs f g 4) ∧ acc (prs f g 4) ≤ 85070591730234615865843651857942052864 := by
  have h0 := mul_bound (hf 0 (by omega)) (hg 0 (by omega))
  have h1 := mul_bound (hf 1 (by omega)) (hg 1 (by omega))
  have h2 := mul_bound (hf 2 (by omega)) (hg 2 (by omega))
  have h3 := mul_bound (hf 3 (by omega)) (hg 3 (by omega))
  rw [acc_four]; omega

set_option maxRecDepth 100000 in
set_option maxHeartbeats 2000000 in
theorem msum_yes (f g : Nat → Int) (W : World) (hfb : B4 f) (hgb : B4 g) (hm : dotMay f g) :
    Calls Try.prog 39 #[vecV f, vecV g] W fun e w' => e = .returned (.tuple #[.int .i64 (dotQ f g), .int .i64 0]) ∧ Later W w' := by
  have hab := acc_b126 hfb hgb
  have hqe := dot_acc f g
  obtain ⟨s, hs⟩ : ∃ s, Hid (acc (prs f g 4) = s) := ⟨_, rfl⟩
  obtain ⟨q, hq⟩ : ∃ q, Hid (dotQ f g = q) := ⟨_, rfl⟩
  have hSum := Lib.hid (fun (a b : Nat) (W : World) (hf : Four W a 0 f) (hg : Four W b 0 g) => sum_4 a b 0 0 f g W hf hg hfb hgb)
  rw [hs.out] at hab hqe hSum
  rw [hq.out] at hqe
  have hDiv := Lib.hid (fun W => div_any s W (by omega))
  rw [hqe] at hDiv
  have hqb : InW q := by unfold InW; omega
  obtain ⟨X, hX⟩ : ∃ X, X = (W.alloc (.cells #[.int .i64 (f 0), .int .i64 (f 1), .int .i64 (f 2), .int .i64 (f 3)] 23)).alloc (.cells #[.int .i64 (g 0), .int .i64 (g 1), .int .i64 (g 2), .int .i64 (g 3)] 23) := ⟨_, rfl⟩
  have kf : vecB X W.heap.size 23 f := by rw [hX]; exact push_one (heap_alloc_new _ _) _
  have kg : vecB X (W.heap.size + 1) 23 g := by rw [hX]; show ((W.alloc _).alloc _).heap[W.heap.size + 1]? = _; have := heap_alloc_new (W.alloc (.cells #[.int .i64 (f 0), .int .i64 (f 1), .int .i64 (f 2), .int .i64 (f 3)] 23)) (.cells #[.int .i64 (g 0), .int .i64 (g 1), .int .i64 (g 2), .int .i64 (g 3)] 23); rwa [World.size_alloc] at this
  have hl : Later W X := by rw [hX]; exact ((Later.refl W).alloc _).alloc _
  have ff := Lib.hid (four_of_box kf)
  have fg := Lib.hid (four_of_box kg)
  clear hqe hab kf kg hfb hgb
  go_enter Try.func39, Try.ntmps39
  go_wp2_with fail
  rw [← hX]
  clear hX
  go_cut [6, 7] from 12 to 17 (fun u v wx => NewW X (hiW s) (loW s) u wx ∧ v = .int .i64 0)
  case first =>
    go_region_with (first | (go_at_call 60; refine (hSum.out _ _ _ (ff.out.later (Later.refl _).drew) (fg.out.later (Later.refl _).drew)).mono ?_; rintro e V1 ⟨rfl, hL⟩; obtain ⟨hc1, hf1⟩ := bcell hL; have hL1 : Later X V1 := (by exact (Later.refl X).drew.trans hL)) | (go_at_call 60; refine (hSum.out _ _ _ (ff.out.later ((Later.refl _).alloc _).drew) (fg.out.later ((Later.refl _).alloc _).drew)).mono ?_; rintro e V1 ⟨rfl, hL⟩; obtain ⟨hc1, hf1⟩ := bcell hL; have hL1 : Later X V1 := (by exact ((Later.refl X).alloc _).drew.trans hL)))
    all_goals
      go_wp2_with fail
      go_meet
      refine ⟨?_, rfl⟩
      first
        | exact newW_one hL1
        | exact newW_two hL1 hL
  case rest =>
    obtain ⟨⟨Q, rfl, hlQ, hQ, kQ⟩, rfl⟩ := hcut
    have t0 := (cells_2 kQ).1
    have t1 := (cells_2 kQ).2
    go_wp2_with fail
    refine (hDiv.out _).mono ?_
    rintro e w2 ⟨rfl, hl2⟩
    have hm' := hm
    unfold dotMay at hm'
    rw [hq.out] at hm'
    have hC := Lib.hid (fun W => clamp_k q W (by omega))
    rw [show max (-4611686018427387904) (min q 4611686018427387904) = q by omega] at hC
    go_wp2_with fail
    have hlW := (hl.trans hlQ).trans hl2
    refine (int_yes q _ (by omega)).mono ?_
    rintro e w3 ⟨rfl, hl3⟩
    go_wp2_with fail
    refine (hC.out _).mono ?_
    rintro e w4 ⟨rfl, rfl⟩
    go_wp2_with fail
    go_ret2
    exact ⟨ret_2 (int_v hq.out.symm) rfl, (hlW.alloc _).trans hl3⟩
set_option maxRecDepth 100000 in
set_option maxHeartbeats 2000000 in
theorem msum_no (f g : Nat → Int) (W : World) (hfb : B4 f) (hgb : B4 g) (hm : ¬ dotMay f g) :
    Calls Try.prog 39 #[vecV f, vecV g] W fun e w' => e = .returned (.tuple #[.int .i64 0, .int .i64 30]) ∧ Later W w' := by
  have hab := acc_b126 hfb hgb
  have hqe := dot_acc f g
  obtain ⟨s, hs⟩ : ∃ s, Hid (acc (prs f g 4) = s) := ⟨_, rfl⟩
  obtain ⟨q, hq⟩ : ∃ q, Hid (dotQ f g = q) := ⟨_, rfl⟩
  have hSum := Lib.hid (fun (a b : Nat) (W : World) (hf : Four W a 0 f) (hg : Four W b 0 g) => sum_4 a b 0 0 f g W hf hg hfb hgb)
  rw [hs.out] at hab hqe hSum
  rw [hq.out] at hqe
  have hDiv := Lib.hid (fun W => div_any s W (by omega))
  rw [hqe] at hDiv
  have hqb : InW q := by unfold InW; omega
  obtain ⟨X, hX⟩ : ∃ X, X = (W.alloc (.cells #[.int .i64 (f 0), .int .i64 (f 1), .int .i64 (f 2), .int .i64 (f 3)] 23)).alloc (.cells #[.int .i64 (g 0), .int .i64 (g 1), .int .i64 (g 2), .int .i64 (g 3)] 23) := ⟨_, rfl⟩
  have kf : vecB X W.heap.size 23 f := by rw [hX]; exact push_one (heap_alloc_new _ _) _
  have kg : vecB X (W.heap.size + 1) 23 g := by rw [hX]; show ((W.alloc _).alloc _).heap[W.heap.size + 1]? = _; have := heap_alloc_new (W.alloc (.cells #[.int .i64 (f 0), .int .i64 (f 1), .int .i64 (f 2), .int .i64 (f 3)] 23)) (.cells #[.int .i64 (g 0), .int .i64 (g 1), .int .i64 (g 2), .int .i64 (g 3)] 23); rwa [World.size_alloc] at this
  have hl : Later W X := by rw [hX]; exact ((Later.refl W).alloc _).alloc _
  have ff := Lib.hid (four_of_box kf)
  have fg := Lib.hid (four_of_box kg)
  clear hqe hab kf kg hfb hgb
  go_enter Try.func39, Try.ntmps39
  go_wp2_with fail
  rw [← hX]
  clear hX
  go_cut [6, 7] from 12 to 17 (fun u v wx => NewW X (hiW s) (loW s) u wx ∧ v = .int .i64 0)
  case first =>
    go_region_with (first | (go_at_call 60; refine (hSum.out _ _ _ (ff.out.later (Later.refl _).drew) (fg.out.later (Later.refl _).drew)).mono ?_; rintro e V1 ⟨rfl, hL⟩; obtain ⟨hc1, hf1⟩ := bcell hL; have hL1 : Later X V1 := (by exact (Later.refl X).drew.trans hL)) | (go_at_call 60; refine (hSum.out _ _ _ (ff.out.later ((Later.refl _).alloc _).drew) (fg.out.later ((Later.refl _).alloc _).drew)).mono ?_; rintro e V1 ⟨rfl, hL⟩; obtain ⟨hc1, hf1⟩ := bcell hL; have hL1 : Later X V1 := (by exact ((Later.refl X).alloc _).drew.trans hL)))
    all_goals
      go_wp2_with fail
      go_meet
      refine ⟨?_, rfl⟩
      first
        | exact newW_one hL1
        | exact newW_two hL1 hL
  case rest =>
    obtain ⟨⟨Q, rfl, hlQ, hQ, kQ⟩, rfl⟩ := hcut
    have t0 := (cells_2 kQ).1
    have t1 := (cells_2 kQ).2
    go_wp2_with fail
    refine (hDiv.out _).mono ?_
    rintro e w2 ⟨rfl, hl2⟩
    have hm' := hm
    unfold dotMay at hm'
    rw [hq.out] at hm'
    by_cases h64 : -9223372036854775808 ≤ q ∧ q ≤ 9223372036854775807
    · have hC := Lib.hid (fun W => clamp_k q W (by omega))
      obtain ⟨c, hc⟩ : ∃ c, Hid (max (-4611686018427387904) (min q 4611686018427387904) = c) := ⟨_, rfl⟩
      have hcq : (c == q) = false := by have := hc.out; simp; omega
      rw [hc.out] at hC
      clear hm hm'
      go_wp2_with fail
      have hlW := (hl.trans hlQ).trans hl2
      refine (int_yes q _ h64).mono ?_
      rintro e w3 ⟨rfl, hl3⟩
      go_wp2_with fail
      refine (hC.out _).mono ?_
      rintro e w4 ⟨rfl, rfl⟩
      go_wp2_with fail
      go_ret2
      exact ⟨rfl, (hlW.alloc _).trans hl3⟩
    · clear hm hm'
      go_wp2_with fail
      have hlW := (hl.trans hlQ).trans hl2
      refine (int_no q _ h64 hqb).mono ?_
      rintro e w3 ⟨rfl, hl3⟩
      clear h64
      go_wp2_with fail
      go_ret2
      exact ⟨rfl, (hlW.alloc _).trans hl3⟩
end Go.Proofs.Ytackbajbladhhaa
