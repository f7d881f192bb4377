/-
  Chapter 2: numbers of 128 bits: the walks of Add, Int, parts, Div (by 65536).
-/
import Derived.Test.YtackbajbladhhaaWdB
import Derived.Test.YtackbajbladhhaaWdC
namespace Go.Proofs.Ytackbajbladhhaa
open Go.RowKit Go.Shelf
set_option linter.unusedVariables false
set_option linter.unusedSimpArgs false
attribute [local go_sem] Oper.semAt_some

theorem int_yes (z : Int) (W : World) (h : -9223372036854775808 ≤ z ∧ z ≤ 9223372036854775807) :
    Calls Try.prog 62 #[wdV z] W fun e w' => e = .returned (.tuple #[.int .i64 z, .int .i64 0]) ∧ Later W w' := by
  have hb := loW_b z
  have hn : wrap64 (loW z) = z := by
    rw [loW_eq]; simp only [wrap64]; omega
  go_enter Try.func62, Try.ntmps62
  go_wp2_with fail
  have q0 : (W.alloc (.cells #[.int .i64 (hiW z), .int .u64 (loW z)] 107)).cell? ⟨W.heap.size, 0, none⟩ = some (.int .i64 (hiW z)) := by go_simp
  have q1 : (W.alloc (.cells #[.int .i64 (hiW z), .int .u64 (loW z)] 107)).cell? ⟨W.heap.size, 1, none⟩ = some (.int .u64 (loW z)) := by go_simp
  go_region_held3 (fun V => V.cell? ⟨W.heap.size, 0, none⟩ = some (.int .i64 (hiW z)) ∧ V.cell? ⟨W.heap.size, 1, none⟩ = some (.int .u64 (loW z))) ((go_split_ands; (repeat' apply And.intro) <;> first | assumption | exact (Later.refl _).drew.cell (by assumption) | exact ((Later.refl _).alloc _).cell (by assumption) | exact cell_setCell_o (by assumption) (by omega) | exact Later.cell hL (by assumption))) (first | (go_at_call 82; refine (of_any z _ h).mono ?_; rintro e V0 ⟨rfl, hL⟩; have hL0 := hL))
  go_wp2_with fail
  go_ret2
  exact ⟨rfl, (((Later.refl W).alloc _).drew).trans hL0⟩
theorem int_no (z : Int) (W : World) (h : ¬ (-9223372036854775808 ≤ z ∧ z ≤ 9223372036854775807)) (hz : InW z) :
    Calls Try.prog 62 #[wdV z] W fun e w' => e = .returned (.tuple #[.int .i64 0, .int .i64 20]) ∧ Later W w' := by
  have hb := loW_b z
  obtain ⟨n, hne⟩ : ∃ n, wrap64 (loW z) = n := ⟨_, rfl⟩
  have hnb : -9223372036854775808 ≤ n ∧ n ≤ 9223372036854775807 := by rw [← hne]; simp only [wrap64]; omega
  have hn : wrap64 (loW z) = n := hne
  have hlo : (hiW n == hiW z) = false := by
    have h1 : loW n = loW z := by rw [← hne, loW_eq, loW_eq]; simp only [wrap64]; omega
    have h2 : hiW n ≠ hiW z := fun e => h (by
      have : n = z := wd_ext (by unfold InW; omega) hz e h1
      rw [← this]; exact hnb)
    simpa using h2
  clear hne
  go_enter Try.func62, Try.ntmps62
  go_wp2_with fail
  have q0 : (W.alloc (.cells #[.int .i64 (hiW z), .int .u64 (loW z)] 107)).cell? ⟨W.heap.size, 0, none⟩ = some (.int .i64 (hiW z)) := by go_simp
  have q1 : (W.alloc (.cells #[.int .i64 (hiW z), .int .u64 (loW z)] 107)).cell? ⟨W.heap.size, 1, none⟩ = some (.int .u64 (loW z)) := by go_simp
  go_region_held3 (fun V => V.cell? ⟨W.heap.size, 0, none⟩ = some (.int .i64 (hiW z)) ∧ V.cell? ⟨W.heap.size, 1, none⟩ = some (.int .u64 (loW z))) ((go_split_ands; (repeat' apply And.intro) <;> first | assumption | exact (Later.refl _).drew.cell (by assumption) | exact ((Later.refl _).alloc _).cell (by assumption) | exact cell_setCell_o (by assumption) (by omega) | exact Later.cell hL (by assumption))) (first | (go_at_call 82; refine (of_any n _ hnb).mono ?_; rintro e V0 ⟨rfl, hL⟩; have hL0 := hL))
  go_wp2_with fail
  go_ret2
  exact ⟨rfl, (((Later.refl W).alloc _).drew).trans hL0⟩
theorem div64_any (hi lo : Int) (W : World) (hh : 0 ≤ hi ∧ hi < 65536) (hl : 0 ≤ lo ∧ lo < 18446744073709551616) :
    Calls Try.prog 106 #[.int .u64 hi, .int .u64 lo, .int .u64 65536] W fun e w' => e = .returned (.tuple #[.int .u64 ((hi * 18446744073709551616 + lo) / 65536), .int .u64 (lo % 65536)]) ∧ Later W w' := by
  by_cases h0 : hi = 0
  · subst h0
    have := div64_zero lo W hl
    rw [Int.zero_mul, Int.zero_add]
    exact this
  · exact div64_some hi lo W (by omega) hl
theorem parts_any (x : Int) (W : World) (hx : 0 ≤ x ∧ x < 170141183460469231731687303715884105728) :
    Calls Try.prog 79 #[wdV x, .int .u64 65536] W fun e w' => e = .returned (.tuple #[wdV (x / 65536), .int .u64 (x % 65536)]) ∧ Later W w' := by
  have hb := loW_b x
  have hb2 : 0 ≤ hiW x ∧ hiW x < 9223372036854775808 := by rw [hiW_eq]; omega
  have hD := fun w => div64_zero (hiW x) w (by omega)
  obtain ⟨r, hr⟩ : ∃ r, Hid (hiW x % 65536 = r) := ⟨_, rfl⟩
  have hrb : 0 ≤ r ∧ r < 65536 := by have := hr.out; omega
  obtain ⟨q, hq⟩ : ∃ r, Hid (hiW x / 65536 = r) := ⟨_, rfl⟩
  have hqb : 0 ≤ q ∧ q < 9223372036854775808 := by have := hq.out; omega
  rw [hr.out, hq.out] at hD
  have hE := fun w => div64_any r (loW x) w hrb hb
  have e1 : (r * 18446744073709551616 + loW x) / 65536 = loW (x / 65536) := by
    have := hr.out
    rw [hiW_eq] at this
    rw [loW_eq, loW_eq]; omega
  have e2 : loW x % 65536 = x % 65536 := by rw [loW_eq]; omega
  have e3 : q = hiW (x / 65536) := by
    have := hq.out
    rw [hiW_eq] at this
    rw [hiW_eq]; omega
  rw [e1, e2] at hE
  obtain ⟨d, hd⟩ : ∃ d, Hid (x / 65536 = d) := ⟨_, rfl⟩
  rw [hd.out] at hE e3 ⊢
  obtain ⟨m, hm⟩ : ∃ d, Hid (x % 65536 = d) := ⟨_, rfl⟩
  rw [hm.out] at hE ⊢
  have e3 := Lib.hid e3
  clear e1 e2
  have hbd := loW_b d
  go_enter Try.func79, Try.ntmps79
  go_wp2_with fail
  refine (hD _).mono ?_
  rintro e w1 ⟨rfl, h1⟩
  obtain ⟨hc_h1, hf_h1⟩ := bcell h1
  have hz_h1 := Later.size h1
  (try simp only [World.size_alloc, World.size_drew, World.size_setCell] at hz_h1)
  have hl_h1_W0_0 : W.heap.size < w1.heap.size := by omega
  have hl_h1_W1_0 : W.heap.size + 1 < w1.heap.size := by omega
  have tc1 : w1.cell? ⟨W.heap.size, 1, none⟩ = some (.int .u64 (loW x)) := h1.cell (by go_simp)
  have tc2 : w1.cell? ⟨W.heap.size + 1, 0, none⟩ = some (.int .i64 0) := h1.cell (by go_simp)
  have tc3 : w1.cell? ⟨W.heap.size + 1, 1, none⟩ = some (.int .u64 0) := h1.cell (by go_simp)
  go_wp2_with fail
  refine (hE _).mono ?_
  rintro e w2 ⟨rfl, h2⟩
  obtain ⟨hc_h2, hf_h2⟩ := bcell h2
  have hz_h2 := Later.size h2
  (try simp only [World.size_alloc, World.size_drew, World.size_setCell] at hz_h2)
  have hl_h2_W0_0 : W.heap.size < w2.heap.size := by omega
  have hl_h2_W1_0 : W.heap.size + 1 < w2.heap.size := by omega
  have td2 : w2.cell? ⟨W.heap.size + 1, 0, none⟩ = some (.int .i64 0) := h2.cell tc2
  have td3 : w2.cell? ⟨W.heap.size + 1, 1, none⟩ = some (.int .u64 0) := h2.cell tc3
  have tf : ∀ o, w2.frozen? ⟨W.heap.size + 1, o, none⟩ = false := fun o => (hf_h2 _ _ (by omega)).trans ((hf_h1 _ _ (by simp only [World.size_alloc]; omega)).trans (by go_simp))
  go_wp2_with fail
  refine bodyPost_ret (v := .tuple #[wdV d, .int .u64 m]) ?_ rfl ⟨rfl, ?_⟩
  · simp only [results]; go_simp
  · refine Later.setCell (Later.setCell (Later.trans (Later.trans (((Later.refl W).alloc _).alloc _) h1) h2) ?_ _) ?_ _ <;> (show W.heap.size ≤ W.heap.size + 1; omega)
end Go.Proofs.Ytackbajbladhhaa
