/-
  Chapter 21's document: two lists of bytes are alike.
-/
import Derived.Test.YtjelfiljebamgaaPcN
namespace Go.Proofs.Ytjelfiljebamgaa
open Go.RowKit Go.Shelf
set_option linter.unusedVariables false
set_option linter.unusedSimpArgs false
attribute [local go_sem] Oper.semAt_some

/-- The cells of a list of bytes. -/
def BssV (W : World) (v : Value) (Ls : List (List Int)) : Prop :=
  ∃ ao cap, v = .slice ao Ls.length cap ∧ ∀ k, k < Ls.length → ∃ g o u, ao = some ⟨g, o, none⟩ ∧ W.cell? ⟨g, o + k, none⟩ = some u ∧ BytV W u (Ls.getD k [])
theorem BssV.later {W W' : World} {v : Value} {Ls : List (List Int)} (h : BssV W v Ls) (hl : Later W W') : BssV W' v Ls := by
  obtain ⟨ao, cap, rfl, hv⟩ := h
  refine ⟨ao, cap, rfl, fun k hk => ?_⟩
  obtain ⟨g, o, u, e, h1, h2⟩ := hv k hk
  exact ⟨g, o, u, e, hl.cell h1, h2.later hl⟩
theorem bss_of {W : World} {B : Nat} {v : Value} {vs : List Value} {Ls : List (List Int)} (h : W.ownsRow B 23 1 v Ls.length vs) (hp : Pcs W B vs Ls) (hb : ∀ D ∈ Ls, Byt D) : BssV W v Ls := by
  obtain ⟨ao, cap, rfl⟩ := own_form h
  refine ⟨ao, cap, rfl, fun k hk => ?_⟩
  obtain ⟨u, h1, h2⟩ := pcs_at hp hb (k := k) (D := Ls[k]) (List.getElem?_eq_getElem hk)
  rcases h.2 with ⟨e, h0⟩ | ⟨g, cap', cur, e, _⟩
  · injection e with _ e2 _; omega
  · injection e with e1 _ _
    subst e1
    refine ⟨g, 0, u, rfl, ?_, ?_⟩
    · rw [Nat.zero_add]; exact (h.cellAt k (by omega)).trans h1
    · rw [List.getD_eq_getElem?_getD, List.getElem?_eq_getElem hk]; exact h2
set_option maxRecDepth 100000 in
theorem lists_same (v v' : Value) (Ls : List (List Int)) (W : World) (h : BssV W v Ls) (h' : BssV W v' Ls) (hlen : Ls.length ≤ 1000000) :
    Calls Try.prog 17 #[v, v'] W fun e w' => e = .returned (.bool true) ∧ Later W w' := by
  obtain ⟨ao, cap, rfl, hv⟩ := h
  obtain ⟨ao', cap', rfl, hv'⟩ := h'
  obtain ⟨n, hn⟩ : ∃ n, Hid (Ls.length = n) := ⟨_, rfl⟩
  rw [hn.out] at hv hv' hlen ⊢
  have hv := Lib.hid hv
  have hv' := Lib.hid hv'
  go_enter Try.func17, Try.ntmps17
  go_wp2_with fail
  go_loopg [5] (n + 1) (fun g y wr => Later W wr ∧ ∃ i : Nat, g = n + 1 - i ∧ i ≤ n ∧ y = .int .i64 i)
  case atStart => exact ⟨Later.refl _, 0, rfl, Nat.zero_le _, rfl⟩
  case round =>
    obtain ⟨hl, i, rfl, hi, rfl⟩ := hrel
    obtain ⟨wo, rfl⟩ : ∃ wo : World, wo = wr := ⟨_, rfl⟩
    by_cases hin : i < n
    · obtain ⟨g, o, u, rfl, c1, b1⟩ := hv.out i hin
      obtain ⟨g', o', u', rfl, c2, b2⟩ := hv'.out i hin
      have gin : (i : Int) < (n : Int) := by omega
      replace c1 := hl.cell c1
      replace c2 := hl.cell c2
      obtain ⟨T, hT⟩ : ∃ T, Hid (strOfNums (Ls.getD i []) = T) := ⟨_, rfl⟩
      have s1 : ∀ k, (convert 23 9 u).run Try.prog (wo.drewN k) = .ok (.string T) (wo.drewN k) := fun k => by rw [← hT.out]; exact bytV_string (b1.later (hl.drewN k))
      have s2 : ∀ k, (convert 23 9 u').run Try.prog (wo.drewN k) = .ok (.string T) (wo.drewN k) := fun k => by rw [← hT.out]; exact bytV_string (b2.later (hl.drewN k))
      obtain ⟨m1, a1, q1, rfl⟩ := bytV_sl b1
      obtain ⟨m2, a2, q2, rfl⟩ := bytV_sl b2
      clear b1 b2
      go_wp2_with fail
      go_quiet (fail)
      go_wp2_with fail
      go_roundg (n - i)
      case measure => omega
      case rel => exact ⟨hl.drewN _, i + 1, by omega, by omega, by go_num⟩
    · obtain rfl : i = n := by omega
      go_wp2_with fail
      go_ret
      exact ⟨rfl, hl⟩
end Go.Proofs.Ytjelfiljebamgaa
