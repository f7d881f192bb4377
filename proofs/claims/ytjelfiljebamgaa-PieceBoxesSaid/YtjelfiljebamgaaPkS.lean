/-
  Chapter 5: a reader's calls: their contracts.
-/
import Derived.Test.YtjelfiljebamgaaPkP
namespace Go.Proofs.Ytjelfiljebamgaa
open Go.RowKit Go.Shelf
set_option linter.unusedVariables false
set_option linter.unusedSimpArgs false
attribute [local go_sem] Oper.semAt_some

theorem bytV_form' {W : World} {u : Value} {D : List Int} (hu : BytV W u D) : ∃ ao cap, u = .slice ao D.length cap := by
  obtain ⟨_, ao, cap, e, _⟩ := hu
  exact ⟨ao, cap, e⟩
/-- What a reader tells, and what is left. -/
def rU (m : Nat) (L : List Int) (lost : Bool) : Nat × List Int × Bool :=
  if lost then (0, L, true) else match num L with
    | some (n, k) => if n ≤ m then (n, L.drop k, false) else (0, L, true)
    | none => (0, L, true)
theorem RdB.later {W W' : World} {p : Nat} {v : Value} {L : List Int} {lost : Bool} (h : RdB W p v L lost) (hl : Later W W') : RdB W' p v L lost := ⟨(hl.block p h.lt).trans h.head, h.val.later hl, h.ne, h.ty.later hl⟩
theorem heap_set3c (W : World) (b : Nat) (x y z : Value) (t : TypeId) (u : Value) (h : W.heap[b]? = some (.cells #[x, y, z] t (0, 0))) : (W.setCell ⟨b, 2, none⟩ u).heap[b]? = some (.cells #[x, y, u] t (0, 0)) := by
  obtain ⟨hlt, hb⟩ := Array.getElem?_eq_some_iff.1 h
  show (W.heap.modify b _)[b]? = _
  rw [Array.getElem?_eq_getElem (by rw [Array.size_modify]; exact hlt), Array.getElem_modify_self, hb]
  rfl
theorem RdB.lose {W : World} {p : Nat} {v : Value} {L : List Int} {lost : Bool} (h : RdB W p v L lost) : RdB (W.setCell ⟨p, 2, none⟩ (.bool true)) p v L true :=
  ⟨heap_set3c W p _ _ _ _ _ h.head, h.val.grown (grownBy_set W p 2 _) h.ne, h.ne, h.ty.setO h.ne 2 _⟩
theorem RdB.take {W : World} {p : Nat} {v v' : Value} {L L' : List Int} {lost : Bool} (h : RdB W p v L lost) (hv : BytV W v' L') (hi : In v' (· ≠ p)) (ht : U8b W v') : RdB (W.setCell ⟨p, 0, none⟩ v') p v' L' lost :=
  ⟨heap_set3 W p _ _ _ _ _ h.head, hv.grown (grownBy_set W p 0 _) hi, hi, ht.setO hi 0 _⟩
theorem fineR_any (p : Nat) (v : Value) (L : List Int) (lost : Bool) (W : World) (h : RdB W p v L lost) :
    Calls Try.prog 77 #[wp p] W fun e w' => e = .returned (.bool (!lost)) ∧ W = w' := by
  have c1 : W.cell? ⟨p, 1, none⟩ = some (.bool true) := h.cell 1
  have c2 : W.cell? ⟨p, 2, none⟩ = some (.bool lost) := h.cell 2
  go_enter Try.func77, Try.ntmps77
  go_wp2
  go_ret
  exact ⟨rfl, rfl⟩
theorem rnone_any (p : Nat) (v : Value) (L : List Int) (lost : Bool) (W : World) (h : RdB W p v L lost) :
    Calls Try.prog 85 #[wp p] W fun e w' => e = .returned (.bool lost) ∧ W = w' := by
  have HF := Lib.hid (fineR_any p v L lost W h)
  go_enter Try.func85, Try.ntmps85
  go_wp2_with fail
  refine HF.out.mono ?_
  rintro e w1 ⟨rfl, rfl⟩
  go_wp2_with fail
  go_ret
  exact ⟨ret_bool (by cases lost <;> rfl), rfl⟩
/-- A number is taken. -/
def Took (p : Nat) (R : Nat × List Int × Bool) (W w' : World) : Prop := (∃ v', RdB w' p v' R.2.1 R.2.2) ∧ W.grownBy w' (some p)
set_option maxRecDepth 100000 in
theorem upto_any (p m : Nat) (M : Int) (v : Value) (L : List Int) (lost : Bool) (W : World) (h : RdB W p v L lost) (hM : (m : Int) = M) (hL : L.length ≤ 1000000) :
    Calls Try.prog 83 #[wp p, .int .u64 M] W fun e w' => e = .returned (.int .u64 (rU m L lost).1) ∧ Took p (rU m L lost) W w' := by
  have HN := Lib.hid (rnone_any p v L lost W h)
  cases lost with
  | true =>
    have hT : Took p (rU m L true) W W := ⟨⟨v, h⟩, World.grownBy.refl _ _⟩
    have hr : (rU m L true).1 = 0 := rfl
    rw [hr]
    obtain ⟨R, hR⟩ : ∃ R, rU m L true = R := ⟨_, rfl⟩
    rw [hR] at hT ⊢
    clear hR hr h
    replace hT := Lib.hid hT
    go_enter Try.func83, Try.ntmps83
    go_wp2_with fail
    refine HN.out.mono ?_
    rintro e w1 ⟨rfl, rfl⟩
    go_wp2_with fail
    go_ret
    exact ⟨rfl, hT.out⟩
  | false =>
    have HU := Lib.hid (number_any p v L false W h hL)
    have c2 : W.cell? ⟨p, 2, none⟩ = some (.bool false) := h.cell 2
    have f2 := frozen_row h.head 2
    cases hn : num L with
    | none =>
      have hr : rU m L false = (0, L, true) := by unfold rU; rw [hn]; rfl
      have hT : Took p (rU m L false) W (W.setCell ⟨p, 2, none⟩ (.bool true)) := by rw [hr]; exact ⟨⟨v, h.lose⟩, grownBy_set W p 2 _⟩
      have hnR : numR L = .tuple #[.int .u64 0, .int .i64 0] := by unfold numR; rw [hn]
      rw [hnR] at HU
      clear hnR
      rw [hr] at hT ⊢
      replace hT := Lib.hid hT
      clear h hr hn
      go_enter Try.func83, Try.ntmps83
      go_wp2_with fail
      refine HN.out.mono ?_
      rintro e w1 ⟨rfl, rfl⟩
      go_wp2_with fail
      refine HU.out.mono ?_
      rintro e w1 ⟨rfl, rfl⟩
      go_wp2_with fail
      go_ret
      exact ⟨rfl, hT.out⟩
    | some nk =>
      obtain ⟨n, k⟩ := nk
      obtain ⟨hn64, hk, R, hLR⟩ := num_some h.val.1 hn
      have hk1 := fm_len n
      rw [← hk] at hk1
      have hkL : k ≤ L.length := by rw [hLR, List.length_append, ← hk]; omega
      have hnR : numR L = .tuple #[.int .u64 n, .int .i64 k] := by unfold numR; rw [hn]
      rw [hnR] at HU
      clear hnR
      have hkz : ((k : Int) == 0) = false := by simp; omega
      obtain ⟨N, hN⟩ : ∃ N : Int, Hid ((n : Int) = N) := ⟨_, rfl⟩
      by_cases hnm : n ≤ m
      · have hr : rU m L false = (n, L.drop k, false) := by unfold rU; rw [hn]; simp [hnm]
        have hNM : ¬ M < N := by have := hN.out; omega
        obtain ⟨hb, ao, cap, hv, hc, _⟩ := id h.val
        obtain ⟨ao', hs⟩ := slice_low ao L.length cap k hkL hc.1
        have c0 : W.cell? ⟨p, 0, none⟩ = some v := h.cell 0
        have f0 := frozen_row h.head 0
        have hrun : ∀ W', _ := fun W' => (hs W').1
        have hT : Took p (rU m L false) W (W.setCell ⟨p, 0, none⟩ (.slice ao' (L.length - k) (cap - k))) := by
          rw [hr]
          have h1 := h
          rw [hv] at h1
          exact ⟨⟨_, h1.take ((hs W).2.1 W L rfl h1.val) ((hs W).2.2 _ h1.ne) ((hs W).2.2 _ h1.ty)⟩, grownBy_set W p 0 _⟩
        rw [hr] at hT ⊢
        rw [hv] at c0
        rw [hN.out] at HU
        show Calls _ _ _ _ fun e w' => e = .returned (.int .u64 (n : Int)) ∧ _
        rw [hN.out]
        obtain ⟨nn, hnn⟩ : ∃ x, Hid (L.length = x) := ⟨_, rfl⟩
        rw [hnn.out] at hrun hT c0 hkL
        replace hT := Lib.hid hT
        have hkl : (k : Int) ≤ (nn : Int) := by omega
        clear h hr hn hs hLR hk hv hn64 hb hc hnm hM
        go_enter Try.func83, Try.ntmps83
        go_wp2_with fail
        refine HN.out.mono ?_
        rintro e w1 ⟨rfl, rfl⟩
        go_wp2_with fail
        refine HU.out.mono ?_
        rintro e w1 ⟨rfl, rfl⟩
        go_wp2_with fail
        go_ret
        exact ⟨rfl, hT.out⟩
      · have hr : rU m L false = (0, L, true) := by unfold rU; rw [hn]; simp [hnm]
        have hNM : M < N := by have := hN.out; omega
        have hT : Took p (rU m L false) W (W.setCell ⟨p, 2, none⟩ (.bool true)) := by rw [hr]; exact ⟨⟨v, h.lose⟩, grownBy_set W p 2 _⟩
        rw [hr] at hT ⊢
        rw [hN.out] at HU
        replace hT := Lib.hid hT
        clear h hr hn hLR hk hn64 hnm hM
        go_enter Try.func83, Try.ntmps83
        go_wp2_with fail
        refine HN.out.mono ?_
        rintro e w1 ⟨rfl, rfl⟩
        go_wp2_with fail
        refine HU.out.mono ?_
        rintro e w1 ⟨rfl, rfl⟩
        go_wp2_with fail
        go_ret
        exact ⟨rfl, hT.out⟩
end Go.Proofs.Ytjelfiljebamgaa
