/-
  Chapter 5: a reader's calls.
-/
import Derived.Test.YtjelfiljebamgaaPkO
import Derived.Test.YtjelfiljebamgaaPkX
namespace Go.Proofs.Ytjelfiljebamgaa
open Go.RowKit Go.Shelf
set_option linter.unusedVariables false
set_option linter.unusedSimpArgs false
attribute [local go_sem] Oper.semAt_some

theorem size_u8 (W : World) : (sizeOf 5).run Try.prog W = .ok 1 W := by
  obtain ⟨i, hi, h0, h1, h2⟩ := info_parts info_u8
  simp [sizeOf, typeInfo, hi, h1]
theorem elem_u8 : Try.prog.elem 23 = 5 := by kernel_rfl
theorem und_u8 : Try.prog.underlying 23 = some (.slice (Try.prog.elem 23)) := by kernel_rfl
theorem add_plain (g o k : Nat) : (⟨g, o, none⟩ : Addr).add k = ⟨g, o + k, none⟩ := by unfold Addr.add; split <;> simp_all
/-- Bytes from a place on. -/
theorem slice_low (ao : Option Addr) (n cap k : Nat) (hk : k ≤ n) (hn : n ≤ cap) : ∃ ao', ∀ W', (Instr.slice 23 (.slice ao n cap) (some (.int .i64 k)) none none).run Try.prog W' = .ok (.slice ao' (n - k) (cap - k)) W' ∧
    (∀ W2 (L : List Int), L.length = n → BytV W2 (.slice ao n cap) L → BytV W2 (.slice ao' (n - k) (cap - k)) (L.drop k)) ∧ (∀ Pg, In (.slice ao n cap) Pg → In (.slice ao' (n - k) (cap - k)) Pg) := by
  refine ⟨if cap = k then ao else ao.map (·.add (k * 1)), fun W' => ⟨?_, ?_, ?_⟩⟩
  · rw [run_slice_l W' 23 ao n cap und_u8 .i64 (k : Int) (by omega) (by omega), elem_u8, size_u8]
    simp [Result.andThen, sliced]
  · rintro W2 L hL ⟨hb, a, c, e, hc, hv⟩
    injection e with e1 e2 e3
    subst e1 e3
    refine ⟨hb.drop k, _, _, by rw [List.length_drop, hL], ⟨by rw [List.length_drop]; omega, fun h => ?_⟩, fun j hj => ?_⟩
    · split at h
      · omega
      · have : ao = none := by cases ao with | none => rfl | some _ => cases h
        have := hc.2 this; omega
    · rw [List.length_drop] at hj
      obtain ⟨g, o, rfl, h1⟩ := hv (k + j) (by omega)
      refine ⟨g, o + k, ?_, ?_⟩
      · rw [if_neg (by omega), Nat.mul_one]
        simp only [Option.map_some, add_plain]
      · rw [show o + k + j = o + (k + j) by omega, h1, List.getD_eq_getElem?_getD, List.getD_eq_getElem?_getD, List.getElem?_drop]
  · intro Pg h g o s len c e hl
    injection e with e1 e2 e3
    split at e1
    · exact h g o s n cap (by rw [e1]) (by omega)
    · cases ao with
      | none => cases e1
      | some ad =>
        simp only [Option.map_some, Option.some.injEq] at e1
        obtain ⟨b, o', s'⟩ := ad
        refine h g o' s' n cap ?_ (by omega)
        unfold Addr.add at e1
        split at e1
        all_goals (try (injection e1 with e1 e4 e5; subst e1; rfl))
        all_goals simp_all
/-- .. and up to a place. -/
theorem slice_high (ao : Option Addr) (n cap k : Nat) (hk : k ≤ n) (hn : n ≤ cap) : ∃ ao', ∀ W', (Instr.slice 23 (.slice ao n cap) none (some (.int .i64 k)) none).run Try.prog W' = .ok (.slice ao' k cap) W' ∧
    (∀ W2 (L : List Int), L.length = n → BytV W2 (.slice ao n cap) L → BytV W2 (.slice ao' k cap) (L.take k)) := by
  refine ⟨if cap = 0 then ao else ao.map (·.add (0 * 1)), fun W' => ⟨?_, ?_⟩⟩
  · rw [run_slice_h W' 23 ao n cap und_u8 .i64 (k : Int) (by omega) (by omega), elem_u8, size_u8]
    simp [Result.andThen, sliced]
  · rintro W2 L hL ⟨hb, a, c, e, hc, hv⟩
    injection e with e1 e2 e3
    subst e1 e3
    have hlt : (L.take k).length = k := by rw [List.length_take]; omega
    refine ⟨hb.take k, _, _, by rw [hlt], ⟨by rw [hlt]; omega, fun h => ?_⟩, fun j hj => ?_⟩
    · split at h
      · omega
      · have : ao = none := by cases ao with | none => rfl | some _ => cases h
        have := hc.2 this; omega
    · rw [hlt] at hj
      obtain ⟨g, o, rfl, h1⟩ := hv j (by omega)
      refine ⟨g, o, ?_, ?_⟩
      · rw [if_neg (by omega)]
        simp only [Option.map_some, add_plain, Nat.add_zero, Nat.zero_mul]
      · rw [h1, List.getD_eq_getElem?_getD, List.getD_eq_getElem?_getD, List.getElem?_take_of_lt hj]
end Go.Proofs.Ytjelfiljebamgaa
