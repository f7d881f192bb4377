/-
  Chapter 21's document: a message is cut.
-/
import Derived.Test.YtjelfiljebamgaaPcQ
namespace Go.Proofs.Ytjelfiljebamgaa
open Go.RowKit Go.Shelf
set_option linter.unusedVariables false
set_option linter.unusedSimpArgs false
attribute [local go_sem] Oper.semAt_some

set_option maxRecDepth 100000 in
theorem cut21_bad (id s : Int) (u : Value) (L : List Int) (W : World) (hu : BytV W u L) (h : ¬ CutOk id L.length s) :
    Calls Try.prog 16 #[.int .u64 id, u, .int .i64 s] W fun e w' => e = .returned (.tuple #[.slice none 0 0, .int .i64 210]) ∧ Later W w' := by
  obtain ⟨ao, cap, rfl⟩ := bytV_form hu
  obtain ⟨n, hn⟩ : ∃ n, Hid (L.length = n) := ⟨_, rfl⟩
  rw [hn.out] at h ⊢
  have hbad : ¬ (((id < 4611686018427387904 ∧ (n : Int) ≤ 131072) ∧ 1 ≤ s) ∧ s ≤ 880) := fun hh => h ⟨hh.1.1.1, by omega, hh.1.2, hh.2⟩
  clear hu h
  go_enter Try.func16, Try.ntmps16
  have d : (decide ((4611686018427387904 : Int) ≤ id) || decide ((131072 : Int) < n) || decide ((s : Int) < 1) || decide ((880 : Int) < s)) = true := by
    rw [Bool.or_eq_true, Bool.or_eq_true, Bool.or_eq_true, decide_eq_true_eq, decide_eq_true_eq, decide_eq_true_eq, decide_eq_true_eq]; omega
  go_upto_region 3 with fail
  all_goals first
    | (exfalso; omega)
    | (go_ret2; exact ⟨rfl, Later.refl _⟩)
    | trace_state
end Go.Proofs.Ytjelfiljebamgaa
