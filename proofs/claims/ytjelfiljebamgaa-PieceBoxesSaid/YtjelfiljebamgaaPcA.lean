/-
  Chapter 21: may a piece be; a piece's bytes.
-/
import Derived.Test.YtjelfiljebamgaaPkX
namespace Go.Proofs.Ytjelfiljebamgaa
open Go.RowKit Go.Shelf
set_option linter.unusedVariables false
set_option linter.unusedSimpArgs false
attribute [local go_sem] Oper.semAt_some

abbrev pcV (id at_ of : Int) (u : Value) : Value := .agg #[.int .u64 id, .int .i64 at_, .int .i64 of, u]
def May (id at_ of : Int) (n : Nat) : Prop := id < 4611686018427387904 ∧ 1 ≤ of ∧ of ≤ 4096 ∧ 0 ≤ at_ ∧ at_ < of ∧ n ≤ 880
theorem bytV_form {W : World} {u : Value} {D : List Int} (hu : BytV W u D) : ∃ ao cap, u = .slice ao D.length cap := by
  obtain ⟨_, ao, cap, e, _⟩ := hu
  exact ⟨ao, cap, e⟩
set_option maxRecDepth 10000 in
theorem may_yes (id at_ of : Int) (u : Value) (D : List Int) (W : World) (hu : BytV W u D) (h : May id at_ of D.length) :
    Calls Try.prog 41 #[pcV id at_ of u] W fun e w' => e = .returned (.bool true) ∧ Later W w' := by
  obtain ⟨ao, cap, rfl⟩ := bytV_form hu
  obtain ⟨n, hn⟩ : ∃ n, Hid (D.length = n) := ⟨_, rfl⟩
  rw [hn.out] at h ⊢
  obtain ⟨h1, h2, h3, h4, h5, h6⟩ := h
  clear hu
  go_enter Try.func41, Try.ntmps41
  go_wp2_with fail
  go_ret
  exact ⟨by first | rfl | exact ret_bool (by simp; omega), (Later.refl _).alloc _⟩
set_option maxRecDepth 10000 in
theorem may_no (id at_ of : Int) (u : Value) (D : List Int) (W : World) (hu : BytV W u D) (h : ¬ May id at_ of D.length) :
    Calls Try.prog 41 #[pcV id at_ of u] W fun e w' => e = .returned (.bool false) ∧ Later W w' := by
  obtain ⟨ao, cap, rfl⟩ := bytV_form hu
  obtain ⟨n, hn⟩ : ∃ n, Hid (D.length = n) := ⟨_, rfl⟩
  rw [hn.out] at h ⊢
  have h := Lib.hid h
  clear hu
  go_enter Try.func41, Try.ntmps41
  go_wp2_with fail
  all_goals
    go_ret
    refine ⟨?_, (Later.refl _).alloc _⟩
    have h := h.out
    unfold May at h
    first | rfl | exact ret_bool (by simp; omega)
set_option maxRecDepth 10000 in
theorem may21_yes (id at_ of : Int) (u : Value) (D : List Int) (W : World) (hu : BytV W u D) (h : May id at_ of D.length) :
    Calls Try.prog 47 #[pcV id at_ of u] W fun e w' => e = .returned (.bool true) ∧ Later W w' := by
  obtain ⟨ao, cap, rfl⟩ := bytV_form hu
  obtain ⟨n, hn⟩ : ∃ n, Hid (D.length = n) := ⟨_, rfl⟩
  rw [hn.out] at h ⊢
  obtain ⟨h1, h2, h3, h4, h5, h6⟩ := h
  clear hu
  go_enter Try.func47, Try.ntmps47
  go_wp2_with fail
  go_ret
  exact ⟨by first | rfl | exact ret_bool (by simp; omega), (Later.refl _).alloc _⟩
set_option maxRecDepth 10000 in
theorem may21_no (id at_ of : Int) (u : Value) (D : List Int) (W : World) (hu : BytV W u D) (h : ¬ May id at_ of D.length) :
    Calls Try.prog 47 #[pcV id at_ of u] W fun e w' => e = .returned (.bool false) ∧ Later W w' := by
  obtain ⟨ao, cap, rfl⟩ := bytV_form hu
  obtain ⟨n, hn⟩ : ∃ n, Hid (D.length = n) := ⟨_, rfl⟩
  rw [hn.out] at h ⊢
  have h := Lib.hid h
  clear hu
  go_enter Try.func47, Try.ntmps47
  go_wp2_with fail
  all_goals
    go_ret
    refine ⟨?_, (Later.refl _).alloc _⟩
    have h := h.out
    unfold May at h
    first | rfl | exact ret_bool (by simp; omega)
end Go.Proofs.Ytjelfiljebamgaa
