/-
  Bytes from one place up to another.
-/
import Derived.Test.YtjelfiljebamgaaPcM
namespace Go.Proofs.Ytjelfiljebamgaa
open Go.RowKit Go.Shelf
set_option linter.unusedVariables false
set_option linter.unusedSimpArgs false
attribute [local go_sem] Oper.semAt_some

theorem slice_both (ao : Option Addr) (n cap j k : Nat) (hj : j ≤ k) (hk : k ≤ n) (hn : n ≤ cap) : ∃ ao', ∀ W', (Instr.slice 23 (.slice ao n cap) (some (.int .i64 j)) (some (.int .i64 k)) none).run Try.prog W' = .ok (.slice ao' (k - j) (cap - j)) W' ∧
    (∀ W2 (L : List Int), L.length = n → BytV W2 (.slice ao n cap) L → BytV W2 (.slice ao' (k - j) (cap - j)) ((L.take k).drop j)) := by
  refine ⟨if cap = j then ao else ao.map (·.add (j * 1)), fun W' => ⟨?_, ?_⟩⟩
  · rw [run_slice_lh W' 23 ao n cap und_u8 .i64 .i64 (j : Int) (k : Int) (by omega) (by omega) (by omega), elem_u8, size_u8]
    simp [Result.andThen, sliced]
  · rintro W2 L hL ⟨hb, a, c, e, hc, hv⟩
    injection e with e1 e2 e3
    subst e1 e3
    have hlen : ((L.take k).drop j).length = k - j := by rw [List.length_drop, List.length_take]; omega
    refine ⟨(hb.take k).drop j, _, _, by rw [hlen], ⟨by rw [hlen]; omega, fun h => ?_⟩, fun i hi => ?_⟩
    · split at h
      · omega
      · have : ao = none := by cases ao with | none => rfl | some _ => cases h
        have := hc.2 this; omega
    · rw [hlen] at hi
      obtain ⟨g, o, rfl, h1⟩ := hv (j + i) (by omega)
      refine ⟨g, o + j, ?_, ?_⟩
      · rw [if_neg (by omega), Nat.mul_one]
        simp only [Option.map_some, add_plain]
      · rw [show o + j + i = o + (j + i) by omega, h1, List.getD_eq_getElem?_getD, List.getD_eq_getElem?_getD, List.getElem?_drop, List.getElem?_take_of_lt (by omega)]
end Go.Proofs.Ytjelfiljebamgaa
