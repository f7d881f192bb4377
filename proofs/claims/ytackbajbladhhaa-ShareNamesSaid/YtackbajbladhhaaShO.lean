/-
  Chapter 8's law of names: the walk.
-/
import Derived.Test.YtackbajbladhhaaShN
namespace Go.Proofs.Ytackbajbladhhaa
open Go.RowKit Go.Shelf
set_option linter.unusedVariables false
set_option linter.unusedSimpArgs false
attribute [local go_sem] Oper.semAt_some
attribute [-go_sem] Instr.build

def zS : Scn := { W := 0, H := 0, cam := fun _ => 0, uo := .slice none 0 0, os := [] }
theorem zS_ok (w : World) : zS.Ok w := ⟨⟨none, 0, rfl, ⟨Nat.le_refl _, fun _ => rfl⟩, fun k x hx => by simp [zS] at hx⟩, fun x hx => by cases hx⟩
theorem zS_no (M : List Int) : mayQ zS M = false := by
  unfold mayQ
  have : wrongQ zS = (1, -1) := by unfold wrongQ; rw [if_pos (by simp [sizeMay, allIn, zS])]
  rw [this]; simp
theorem build_zS (w : World) : (Instr.build 28 #[]).run Try.prog w = .ok zS.V w := by kernel_rfl
theorem Ex8.own {S : Scn} {w : World} (h : Ex8 S w) (M : List Int) (id : Int) : ownE S M id = if memB M = true then (if ownQ [4, 7, 9] M id < 0 then (0, 80) else (ownQ [4, 7, 9] M id, 0)) else (0, 80) := by
  unfold ownE; rw [h.may, h.ids]
theorem own8 {S : Scn} {W : World} (h : Ex8 S W) (M : List Int) (v : Value) (id : Int) (r k : Int) (hv : IntsO W v M) (hr : (if memB M = true then (if ownQ [4, 7, 9] M id < 0 then ((0 : Int), (80 : Int)) else (ownQ [4, 7, 9] M id, 0)) else (0, 80)) = (r, k)) :
    Calls Try.prog 28 #[S.V, v, .int .i64 id] W fun e w' => e = .returned (.tuple #[.int .i64 r, .int .i64 k]) ∧ Later W w' := by
  have := owner_any S M v id W h.ok hv
  rw [h.own, hr] at this
  exact this
theorem mem8 {M : List Int} {b : Bool} (hM : memB M = b) (W : World) (v : Value) (hv : IntsO W v M) : Calls Try.prog 30 #[v] W fun e w' => e = .returned (.bool b) ∧ Later W w' :=
  (members_any v M W hv).mono fun e w' ⟨he, hw⟩ => ⟨by rw [he, hM], by rw [hw]; exact Later.refl _⟩
set_option maxRecDepth 100000 in
set_option maxHeartbeats 4000000 in
theorem names_any (W : World) :
    Calls Try.prog 8 #[] W fun e w' => e = .returned (.bool true) ∧ Later W w' := by
  have hX := Lib.hid (fun W => ex8_any W)
  have hAl := Lib.hid (fun W => alive8_any W)
  have hbz := fun w => build_zS w
  have hz := Lib.hid (fun (w : World) (v : Value) (hv : IntsO w v [0]) => all_no zS [0] v w (zS_ok w) hv (zS_no _))
  obtain ⟨Z, hZ⟩ : ∃ Z, Hid (zS = Z) := ⟨_, rfl⟩
  rw [hZ.out] at hbz hz
  have q1 := Lib.hid (fun (S : Scn) (U : World) (h : Ex8 S U) (v : Value) (hv : IntsO U v [2, 5]) => of_no S [2, 5] v 3 U h.ok hv (by rw [show ([2, 5] : List Int).contains 3 = false from by decide, Bool.and_false]))
  have q2 := Lib.hid (fun (S : Scn) (U : World) (h : Ex8 S U) (v : Value) (hv : IntsO U v [0, 1, 2]) => own8 h [0, 1, 2] v 7 1 0 hv (by decide))
  have q3 := Lib.hid (fun (S : Scn) (U : World) (h : Ex8 S U) (v u : Value) (hv : IntsO U v [2, 5]) (hu : IntsO U u [2]) => mov_yes S [2, 5] [2] v u U h.ok hv hu (by rw [h.may]; decide) (by decide))
  have q4 := Lib.hid (fun (S : Scn) (U : World) (h : Ex8 S U) (v : Value) (hv : IntsO U v [0]) => own8 h [0] v 5 0 80 hv (by decide))
  have q5 := Lib.hid (fun (S : Scn) (U : World) (h : Ex8 S U) (v : Value) (hv : IntsO U v [1, 0]) => own8 h [1, 0] v 7 0 80 hv (by decide))
  have q7 := Lib.hid (fun (S : Scn) (U : World) (h : Ex8 S U) (v u : Value) (hv : IntsO U v [0]) (hu : IntsO U u []) => mov_no S [0] [] v u U h.ok hv hu (by rw [show memB [] = false from by decide, Bool.and_false]))
  have q9 := Lib.hid (fun (S : Scn) (U : World) (h : Ex8 S U) (v : Value) (hv : IntsO U v [0, 1]) => most_yes S [0, 1] v U h.ok hv (by rw [h.may]; decide))
  go_enter Try.func8, Try.ntmps8
  go_wp2_with fail
  refine (hX.out _).mono ?_
  rintro e w1 ⟨S1, rfl, h1, x1⟩
  go_wp2_with fail
  refine (q1.out S1 _ (x1.later ((Later.refl _).alloc _)) _ (intsV_new w1 [2, 5] 2 3).o).mono ?_
  rintro e w2 ⟨rfl, h2⟩
  have g2 : Later W w2 := (h1.alloc _).trans h2
  go_wp2_with fail
  refine (hX.out _).mono ?_
  rintro e w3 ⟨S2, rfl, h3, x3⟩
  go_wp2_with fail
  refine (q2.out S2 _ (x3.later ((Later.refl _).alloc _)) _ (intsV_new w3 [0, 1, 2] 3 3).o).mono ?_
  rintro e w4 ⟨rfl, h4⟩
  have g4 : Later W w4 := g2.trans ((h3.alloc _).trans h4)
  go_wp2_with fail
  refine (hX.out _).mono ?_
  rintro e w5 ⟨S3, rfl, h5, x5⟩
  go_wp2_with fail
  have v1 : IntsO ((w5.alloc (.cells #[.int .i64 2, .int .i64 5] 3)).alloc (.cells #[.int .i64 2] 3)) (.slice (some ⟨w5.heap.size, 0, none⟩) 2 2) [2, 5] := (show IntsV (w5.alloc (.cells #[.int .i64 2, .int .i64 5] 3)) (.slice (some ⟨w5.heap.size, 0, none⟩) 2 2) [2, 5] from intsV_new w5 [2, 5] 2 3).o.later ((Later.refl _).alloc _)
  have v2 : IntsO ((w5.alloc (.cells #[.int .i64 2, .int .i64 5] 3)).alloc (.cells #[.int .i64 2] 3)) (.slice (some ⟨w5.heap.size + 1, 0, none⟩) 1 1) [2] := by
    have := (intsV_new (w5.alloc (.cells #[.int .i64 2, .int .i64 5] 3)) [2] 1 3).o
    rw [World.size_alloc] at this
    exact this
  refine (q3.out S3 _ (x5.later (((Later.refl _).alloc _).alloc _)) _ _ v1 v2).mono ?_
  rintro e w6 ⟨l, rfl, hl, h6⟩
  rw [show movQ (srt (idL S3)) [2, 5] [2] = [7] from by rw [x5.ids]; decide] at hl
  replace hl := hl.1
  obtain ⟨lo, lc, rfl⟩ := hl.form
  have g6 : Later W w6 := g4.trans (((h5.alloc _).alloc _).trans h6)
  replace hl := Lib.hid hl
  go_wp2_with fail
  refine (hX.out _).mono ?_
  rintro e w7 ⟨S4, rfl, h7, x7⟩
  go_wp2_with fail
  refine (q4.out S4 _ (x7.later ((Later.refl _).alloc _)) _ (intsV_new w7 [0] 1 3).o).mono ?_
  rintro e w8 ⟨rfl, h8⟩
  have g8 : Later w6 w8 := (h7.alloc _).trans h8
  go_wp2_with fail
  refine (hX.out _).mono ?_
  rintro e w9 ⟨S5, rfl, h9, x9⟩
  go_wp2_with fail
  refine (q5.out S5 _ (x9.later ((Later.refl _).alloc _)) _ (intsV_new w9 [1, 0] 2 3).o).mono ?_
  rintro e w10 ⟨rfl, h10⟩
  have g10 : Later w6 w10 := g8.trans ((h9.alloc _).trans h10)
  go_wp2_with fail
  refine (hz.out _ _ (intsV_new w10 [0] 1 3).o).mono ?_
  rintro e w11 ⟨rfl, h11⟩
  have g11 : Later w6 w11 := g10.trans (((Later.refl _).alloc _).trans h11)
  go_wp2_with fail
  refine (hX.out _).mono ?_
  rintro e w12 ⟨S6, rfl, h12, x12⟩
  go_wp2_with fail
  refine (q7.out S6 _ (x12.later ((Later.refl _).alloc _)) _ _ (intsV_new w12 [0] 1 3).o ⟨none, 0, rfl, fun k hk => by simp at hk⟩).mono ?_
  rintro e w13 ⟨rfl, h13⟩
  have g13 : Later w6 w13 := g11.trans ((h12.alloc _).trans h13)
  go_wp2_with fail
  refine (hAl.out _).mono ?_
  rintro e w14 ⟨rfl, h14⟩
  have g14 : Later w6 w14 := g13.trans h14
  go_wp2_with fail
  refine (ints_same _ _ [7] _ (hl.out.later (g14.alloc _)) (intsV_new w14 [7] 1 3) (by decide)).mono ?_
  rintro e w15 ⟨rfl, h15⟩
  have g15 : Later w6 w15 := g14.trans (((Later.refl _).alloc _).trans h15)
  go_wp2_with fail
  refine (mem8 (b := false) (by decide) w15 _ (show IntsO w15 (.slice none 0 0) [] from ⟨none, 0, rfl, fun k hk => by simp at hk⟩)).mono ?_
  rintro e w16 ⟨rfl, h16⟩
  have g16 := g15.trans h16
  go_wp2_with fail
  refine (mem8 (b := false) (by decide) _ _ (intsV_new w16 [64] 1 3).o).mono ?_
  rintro e w17 ⟨rfl, h17⟩
  have g17 : Later w6 w17 := g16.trans (((Later.refl _).alloc _).trans h17)
  go_wp2_with fail
  refine (mem8 (b := false) (by decide) _ _ (intsV_new w17 [-1] 1 3).o).mono ?_
  rintro e w18 ⟨rfl, h18⟩
  have g18 : Later w6 w18 := g17.trans (((Later.refl _).alloc _).trans h18)
  go_wp2_with fail
  refine (mem8 (b := true) (by decide) _ _ (intsV_new w18 [0, 63] 2 3).o).mono ?_
  rintro e w19 ⟨rfl, h19⟩
  have g19 : Later w6 w19 := g18.trans (((Later.refl _).alloc _).trans h19)
  go_wp2_with fail
  refine (hX.out _).mono ?_
  rintro e w20 ⟨S7, rfl, h20, x20⟩
  go_wp2_with fail
  refine (q9.out S7 _ (x20.later ((Later.refl _).alloc _)) _ (intsV_new w20 [0, 1] 2 3).o).mono ?_
  rintro e w21 ⟨rfl, h21⟩
  rw [show mxK (([0, 1] : List Int).map (ofQ (srt (idL S7)) [0, 1])) ([0, 1] : List Int).length = 2 from by rw [x20.ids]; decide]
  have g21 : Later w6 w21 := g19.trans ((h20.alloc _).trans h21)
  go_wp2_with fail
  go_ret
  exact ⟨rfl, g6.trans g21⟩
end Go.Proofs.Ytackbajbladhhaa
