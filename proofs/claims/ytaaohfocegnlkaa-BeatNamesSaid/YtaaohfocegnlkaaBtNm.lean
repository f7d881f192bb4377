/-
  BeatNames: the walk.
-/
import Derived.Test.YtaaohfocegnlkaaBtZ
namespace Go.Proofs.Ytaaohfocegnlkaa
open Go.RowKit Go.Shelf
set_option linter.unusedVariables false
set_option linter.unusedSimpArgs false
attribute [local go_sem] Oper.semAt_some

def n0 : Nat → Int := g0 1 3 4
def n1 : Nat → Int := tkN 3 n0
def n2 : Nat → Int := hdG n1 0
def n3 : Nat → Int := tk n2
def n4 : Nat → Int := tkN 3 n3
def n5 : Nat → Int := hdG n4 2
def m0 : Nat → Int := g0 0 1 4
def m1 : Nat → Int := tkN 9 m0
theorem hdG_none {g : Nat → Int} {x : Int} (h : (qd g x).isSome = false) : hdG g x = g := by unfold hdG; rw [h]; rfl
theorem one_int {W : World} : IntsV (W.alloc (.cells #[.int .i64 0] 3)) (.slice (some ⟨W.heap.size, 0, none⟩) 1 1) [0] :=
  two_ints (L := [0]) (cap := 1) (fun k hk => by
    obtain rfl : k = 0 := by simp at hk; omega
    simp)
theorem names_facts : (∀ i, i ≤ 3 → (tksL i n0).length ≤ 2000) ∧ (n0 1 = 3 ∧ n0 3 = 0) ∧ (n1 1 = 3 ∧ hdB n1 0 = false ∧ hdE n1 0 = 0) ∧ (n2 1 = 3 ∧ n2 3 = 3) ∧ (n3 1 = 3 ∧ n3 3 = 4) ∧
    (∀ i, i ≤ 3 → (tksL i n3).length ≤ 2000) ∧ tksL 3 n3 = [0] ∧ (n4 1 = 3 ∧ hdB n4 2 = true ∧ hdE n4 2 = 0) ∧ (n5 1 = 3 ∧ n5 3 = 7) ∧
    ((qd n5 1).isSome = false ∧ hdB n5 1 = false ∧ hdE n5 1 = 230) ∧ ((qd n5 3).isSome = false ∧ hdB n5 3 = false ∧ hdE n5 3 = 230) ∧ ((qd n5 (-1)).isSome = false ∧ hdB n5 (-1) = false ∧ hdE n5 (-1) = 230) ∧
    (((qd n5 0).map (·.2)).getD 0 = 4 ∧ (qd n5 0).isSome = true) ∧ (((qd n5 1).map (·.2)).getD 0 = 0) ∧ sus n5 = [0] ∧
    (m0 1 = 1 ∧ m0 3 = 0) ∧ (∀ i, i ≤ 9 → (tksL i m0).length ≤ 2000) ∧ tksL 9 m0 = [] ∧ (m1 0 = 0 ∧ m1 1 = 1) ∧ alvL m1 = [0] ∧ sus (fun _ => 0) = [] := by
  refine ⟨?_, ⟨?_, ?_⟩, ⟨?_, ?_, ?_⟩, ⟨?_, ?_⟩, ⟨?_, ?_⟩, ?_, ?_, ⟨?_, ?_, ?_⟩, ⟨?_, ?_⟩, ⟨?_, ?_, ?_⟩, ⟨?_, ?_, ?_⟩, ⟨?_, ?_, ?_⟩, ⟨?_, ?_⟩, ?_, ?_, ⟨?_, ?_⟩, ?_, ?_, ⟨?_, ?_⟩, ?_, ?_⟩ <;> decide +kernel

set_option maxRecDepth 100000 in
set_option maxHeartbeats 2000000 in
theorem beatNames_walk (W : World) : Calls Try.prog 6 #[] W fun e w' => e = .returned (.bool true) ∧ Later W w' := by
  obtain ⟨f1, ⟨f2, f3⟩, ⟨f4, f5, f6⟩, ⟨f7, f8⟩, ⟨f9, f10⟩, f11, f12, ⟨f13, f14, f15⟩, ⟨f16, f17⟩, ⟨f18, f19, f20⟩, ⟨f21, f22, f23⟩, ⟨f24, f25, f26⟩, ⟨f27, f28⟩, f29, f30, ⟨f31, f32⟩, f33, f34, ⟨f35, f36⟩, f37, f38⟩ := names_facts
  have HN0 := Lib.hid (fun w => new_ok 1 3 4 w (by decide) (by decide) (by decide) (by decide) (by decide) (by decide))
  have HT0 := Lib.hid (fun b w (h : WB w b n0) => ticks_any b 3 n0 w h (by omega) (by omega) (by omega) f1)
  have HH1 := Lib.hid (fun b w (h : WB w b n1) => heard_any b n1 0 w h (by omega))
  rw [f5, f6] at HH1
  have HK2 := Lib.hid (fun b w (h : WB w b n2) => tick_any b n2 w h (by omega) (by omega))
  have HT3 := Lib.hid (fun b w (h : WB w b n3) => ticks_any b 3 n3 w h (by omega) (by omega) (by omega) f11)
  rw [f12] at HT3
  have HH4 := Lib.hid (fun b w (h : WB w b n4) => heard_any b n4 2 w h (by omega))
  rw [f14, f15] at HH4
  have HHa := Lib.hid (fun b w (h : WB w b n5) => heard_any b n5 1 w h (by omega))
  rw [f19, f20, hdG_none f18] at HHa
  have HHb := Lib.hid (fun b w (h : WB w b n5) => heard_any b n5 3 w h (by omega))
  rw [f22, f23, hdG_none f21] at HHb
  have HHc := Lib.hid (fun b w (h : WB w b n5) => heard_any b n5 (-1) w h (by omega))
  rw [f25, f26, hdG_none f24] at HHc
  have HQ0 := Lib.hid (fun b w (h : WB w b n5) => quiet_any b n5 0 w h (by omega))
  rw [f27, f28] at HQ0
  have HQ1 := Lib.hid (fun b w (h : WB w b n5) => quiet_any b n5 1 w h (by omega))
  rw [f29, f18] at HQ1
  have HS := Lib.hid (fun b w (h : WB w b n5) => suspects_any b n5 w h (by omega))
  rw [f30] at HS
  have HW := Lib.hid (fun b w (h : WB w b n5) => now_any b n5 w h (by omega))
  rw [f17] at HW
  have HD := Lib.hid (fun b w (h : WB w b n5) => due_any b n5 w h (by omega))
  rw [f17, show ((7 : Int).tmod 2 == 0) = false from by decide] at HD
  have HM0 := Lib.hid (fun w => new_ok 0 1 4 w (by decide) (by decide) (by decide) (by decide) (by decide) (by decide))
  have HTm := Lib.hid (fun b w (h : WB w b m0) => ticks_any b 9 m0 w h (by omega) (by omega) (by omega) f33)
  rw [f34] at HTm
  have HAm := Lib.hid (fun b w (h : WB w b m1) => alive_nodes b m1 w h (by omega))
  rw [alv_eq (by omega), f37] at HAm
  have HSz := Lib.hid (fun b w (h : WB w b (fun _ => 0)) => suspects_any b (fun _ => 0) w h ⟨Int.le_refl _, by decide⟩)
  rw [f38] at HSz
  have HI := Lib.hid (fun v u W h1 h2 => ints_any v u [0] [0] W h1 h2 (by decide) (by decide))
  rw [decide_eq_true rfl] at HI
  obtain ⟨Z, hZ⟩ : ∃ Z, Hid (rowV 68 (fun _ => 0) = Z) := ⟨_, rfl⟩
  have hz := zero_watch
  rw [hZ.out] at hz
  have hzs : Z.size = 68 := by rw [← hZ.out, rowV_size]
  have hze : ¬ Z = #[] := fun e => by rw [e] at hzs; cases hzs
  clear f1 f2 f3 f4 f5 f6 f7 f8 f9 f10 f11 f12 f13 f14 f15 f16 f17 f18 f19 f20 f21 f22 f23 f24 f25 f26 f27 f28 f29 f30 f31 f32 f33 f34 f35 f36 f37 f38
  go_enter Try.func6, Try.ntmps6
  go_wp2_with fail
  refine (HN0.out _).mono ?_
  rintro e w1 ⟨b, rfl, hw, hb, hl⟩
  replace hw : WB w1 b n0 := hw
  go_wp2_with fail
  refine (HT0.out b _ hw).mono ?_
  rintro e w2 ⟨u0, rfl, _, hw2, hg⟩
  replace hl := grown_later hl hg hb
  replace hw : WB w2 b n1 := hw2
  clear hg hw2
  go_wp2_with fail
  refine (HH1.out b _ hw).mono ?_
  rintro e w3 ⟨rfl, hw2, hg⟩
  replace hl := grown_later hl hg hb
  replace hw : WB w3 b n2 := hw2
  clear hg hw2
  go_wp2_with fail
  refine (HK2.out b _ hw).mono ?_
  rintro e w4 ⟨u1, rfl, _, hw2, hg⟩
  replace hl := grown_later hl hg hb
  replace hw : WB w4 b n3 := hw2
  clear hg hw2
  have hb3 := hw.lt
  go_wp2_with fail
  refine (HT3.out b _ hw).mono ?_
  rintro e w5 ⟨va, rfl, hva, hw2, hg⟩
  replace hl := grown_later hl hg hb
  replace hw : WB w5 b n4 := hw2
  clear hg hw2
  go_wp2_with fail
  refine (HH4.out b _ hw).mono ?_
  rintro e w6 ⟨rfl, hw2, hg⟩
  replace hl := grown_later hl hg hb
  replace hva := hva.grownF hg hb3
  replace hw : WB w6 b n5 := hw2
  clear hg hw2
  go_wp2_with fail
  refine (HHa.out b _ hw).mono ?_
  rintro e w7 ⟨rfl, hw2, hg⟩
  replace hl := grown_later hl hg hb
  replace hva := hva.grownF hg hb3
  replace hw : WB w7 b n5 := hw2
  clear hg hw2
  go_wp2_with fail
  refine (HHb.out b _ hw).mono ?_
  rintro e w8 ⟨rfl, hw2, hg⟩
  replace hl := grown_later hl hg hb
  replace hva := hva.grownF hg hb3
  replace hw : WB w8 b n5 := hw2
  clear hg hw2
  go_wp2_with fail
  refine (HHc.out b _ hw).mono ?_
  rintro e w9 ⟨rfl, hw2, hg⟩
  replace hl := grown_later hl hg hb
  replace hva := hva.grownF hg hb3
  replace hw : WB w9 b n5 := hw2
  clear hg hw2
  clear HN0 HT0 HH1 HK2 HT3 HH4 HHa HHb HHc hb3
  obtain ⟨⟨ao, cap, rfl, hva0⟩, _⟩ := hva
  have hva : IntsV _ (.slice ao ([0] : List Int).length cap) [0] := ⟨ao, cap, rfl, hva0⟩
  clear hva0
  go_wp2_with fail
  refine (HQ0.out b _ hw).mono ?_
  rintro e w10 ⟨rfl, hr⟩
  replace hl := hl.trans hr
  replace hw : WB w10 b n5 := Row.later hw hr
  replace hva := hva.later hr
  clear hr
  go_wp2_with fail
  refine (HQ1.out b _ hw).mono ?_
  rintro e w11 ⟨rfl, hr⟩
  replace hl := hl.trans hr
  replace hw : WB w11 b n5 := Row.later hw hr
  replace hva := hva.later hr
  clear hr
  as_aux_lemma =>
    go_wp2_with fail
    refine (HI.out _ _ _ (hva.later ((Later.refl _).alloc _)) one_int).mono ?_
    rintro e w12 ⟨rfl, hr⟩
    replace hr := Later.trans ((Later.refl _).alloc _) hr
    replace hl := hl.trans hr
    replace hw : WB w12 b n5 := Row.later hw hr
    clear hr hva
    go_wp2_with fail
    refine (HS.out b _ hw).mono ?_
    rintro e w13 ⟨vs, rfl, hvs, hr⟩
    replace hl := hl.trans hr
    replace hw : WB w13 b n5 := Row.later hw hr
    clear hr
    go_wp2_with fail
    refine (HI.out _ _ _ (hvs.later ((Later.refl _).alloc _)) one_int).mono ?_
    rintro e w14 ⟨rfl, hr⟩
    replace hr := Later.trans ((Later.refl _).alloc _) hr
    replace hl := hl.trans hr
    replace hw : WB w14 b n5 := Row.later hw hr
    clear hr hvs
    go_wp2_with fail
    refine (HW.out b _ hw).mono ?_
    rintro e w15 ⟨rfl, hr⟩
    replace hl := hl.trans hr
    replace hw : WB w15 b n5 := Row.later hw hr
    clear hr
    go_wp2_with fail
    refine (HD.out b _ hw).mono ?_
    rintro e w16 ⟨rfl, hr⟩
    replace hl := hl.trans hr
    clear hr
    clear hw hb HQ0 HQ1 HS HW HD
    go_wp2_with fail
    refine (new_bad 0 0 4 _ (by decide)).mono ?_
    rintro e w17 ⟨rfl, hr⟩
    replace hl := hl.trans hr
    clear hr
    go_wp2_with fail
    refine (new_bad 0 1 3 _ (by decide)).mono ?_
    rintro e w18 ⟨rfl, hr⟩
    replace hl := hl.trans hr
    clear hr
    go_wp2_with fail
    refine (new_bad 1 1 4 _ (by decide)).mono ?_
    rintro e w19 ⟨rfl, hr⟩
    replace hl := hl.trans hr
    clear hr
    go_wp2_with fail
    refine (new_bad 0 65 4 _ (by decide)).mono ?_
    rintro e w20 ⟨rfl, hr⟩
    replace hl := hl.trans hr
    clear hr
    go_wp2_with fail
    refine (new_bad 0 1 1001 _ (by decide)).mono ?_
    rintro e w21 ⟨rfl, hr⟩
    replace hl := hl.trans hr
    clear hr
    go_wp2_with fail
    refine (HM0.out _).mono ?_
    rintro e w22 ⟨c, rfl, hw, hc, hr⟩
    replace hw : WB w22 c m0 := hw
    replace hc := Nat.le_trans hl.size hc
    replace hl := hl.trans hr
    clear hr
    go_wp2_with fail
    refine (HTm.out c _ hw).mono ?_
    rintro e w23 ⟨vm, rfl, hvm, hw2, hg⟩
    replace hl := grown_later hl hg hc
    replace hw : WB w23 c m1 := hw2
    clear hg hw2
    obtain ⟨⟨aom, capm, rfl, _⟩, _⟩ := hvm
    as_aux_lemma =>
      go_upto_region 22 with fail
      obtain ⟨X, hX⟩ : ∃ X, X = w23.alloc (.cells Z 59) := ⟨_, rfl⟩
      obtain ⟨zb, hzb⟩ : ∃ n, Hid (w23.heap.size = n) := ⟨_, rfl⟩
      rw [← hX, hzb.out]
      have hr : Later w23 X := by rw [hX]; exact (Later.refl _).alloc _
      have hw0 : WB X zb (fun _ => 0) := by rw [hX, ← hzb.out]; unfold WB Row; rw [hZ.out]; exact heap_alloc_new _ _
      replace hw : WB X c m1 := Row.later hw hr
      replace hl := hl.trans hr
      clear hr hX hzb hz hzs hze hZ
      go_wp2_with fail
      refine (heard_nil _ 0).mono ?_
      rintro e w24 ⟨rfl, hr⟩
      replace hl := hl.trans hr
      replace hw : WB w24 c m1 := Row.later hw hr
      replace hw0 : WB w24 zb (fun _ => 0) := Row.later hw0 hr
      clear hr
      go_wp2_with fail
      refine (heard_zero zb _ _ hw0 rfl 0).mono ?_
      rintro e w25 ⟨rfl, hr⟩
      replace hl := hl.trans hr
      replace hw : WB w25 c m1 := Row.later hw hr
      replace hw0 : WB w25 zb (fun _ => 0) := Row.later hw0 hr
      clear hr
      go_wp2_with fail
      refine (quiet_nil 0 _).mono ?_
      rintro e w26 ⟨rfl, hr⟩
      replace hl := hl.trans hr
      replace hw : WB w26 c m1 := Row.later hw hr
      replace hw0 : WB w26 zb (fun _ => 0) := Row.later hw0 hr
      clear hr
      go_wp2_with fail
      simp only [List.append_eq, List.cons_append, List.nil_append]
      go_wp2_with fail
      refine (alive_any _).mono ?_
      rintro e w27 ⟨rfl, hr⟩
      replace hl := hl.trans hr
      replace hw : WB w27 c m1 := Row.later hw hr
      replace hw0 : WB w27 zb (fun _ => 0) := Row.later hw0 hr
      clear hr
      go_wp2_with fail
      refine (HAm.out c _ hw).mono ?_
      rintro e w28 ⟨vs, rfl, hvs, hr⟩
      replace hl := hl.trans hr
      replace hw0 : WB w28 zb (fun _ => 0) := Row.later hw0 hr
      clear hr
      go_wp2_with fail
      refine (HI.out _ _ _ (hvs.later ((Later.refl _).alloc _)) one_int).mono ?_
      rintro e w29 ⟨rfl, hr⟩
      replace hr := Later.trans ((Later.refl _).alloc _) hr
      replace hl := hl.trans hr
      replace hw0 : WB w29 zb (fun _ => 0) := Row.later hw0 hr
      clear hr hvs
      go_wp2_with fail
      refine (tick_nil _).mono ?_
      rintro e w30 ⟨rfl, hr⟩
      replace hl := hl.trans hr
      replace hw0 : WB w30 zb (fun _ => 0) := Row.later hw0 hr
      clear hr
      go_wp2_with fail
      refine (HSz.out zb _ hw0).mono ?_
      rintro e w31 ⟨vz, rfl, ⟨az, cz, rfl, _⟩, hr⟩
      replace hl := hl.trans hr
      replace hw0 : WB w31 zb (fun _ => 0) := Row.later hw0 hr
      clear hr
      go_wp2_with fail
      refine (alive_nil _).mono ?_
      rintro e w32 ⟨rfl, hr⟩
      replace hl := hl.trans hr
      replace hw0 : WB w32 zb (fun _ => 0) := Row.later hw0 hr
      clear hr
      go_wp2_with fail
      refine (alive_zero zb _ _ hw0 rfl).mono ?_
      rintro e w33 ⟨rfl, hr⟩
      replace hl := hl.trans hr
      replace hw0 : WB w33 zb (fun _ => 0) := Row.later hw0 hr
      clear hr
      go_wp2_with fail
      refine (due_nil _).mono ?_
      rintro e w34 ⟨rfl, hr⟩
      replace hl := hl.trans hr
      replace hw0 : WB w34 zb (fun _ => 0) := Row.later hw0 hr
      clear hr
      go_wp2_with fail
      refine (due_zero zb _ _ hw0 rfl).mono ?_
      rintro e w35 ⟨rfl, hr⟩
      replace hl := hl.trans hr
      replace hw0 : WB w35 zb (fun _ => 0) := Row.later hw0 hr
      clear hr
      go_wp2_with fail
      refine (now_nil _).mono ?_
      rintro e w36 ⟨rfl, hr⟩
      replace hl := hl.trans hr
      replace hw0 : WB w36 zb (fun _ => 0) := Row.later hw0 hr
      clear hr
      go_wp2_with fail
      refine (copy_zero zb _ _ hw0 rfl).mono ?_
      rintro e w37 ⟨rfl, hr⟩
      replace hl := hl.trans hr
      clear hr
      go_wp2_with fail
      go_ret
      exact ⟨rfl, hl⟩
end Go.Proofs.Ytaaohfocegnlkaa
