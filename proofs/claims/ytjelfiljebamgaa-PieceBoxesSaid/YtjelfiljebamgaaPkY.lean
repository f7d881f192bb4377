/-
  Chapter 5: a reader takes bytes.
-/
import Derived.Test.YtjelfiljebamgaaPkT
namespace Go.Proofs.Ytjelfiljebamgaa
open Go.RowKit Go.Shelf
set_option linter.unusedVariables false
set_option linter.unusedSimpArgs false
attribute [local go_sem] Oper.semAt_some

/-- What a reader tells of bytes, and what is left. -/
def rT (m : Nat) (L : List Int) (lost : Bool) : List Int × List Int × Bool :=
  if lost then ([], L, true) else
    if (rU m L false).2.2 = true ∨ (rU m L false).2.1.length < (rU m L false).1 then ([], L, true)
    else ((rU m L false).2.1.take (rU m L false).1, (rU m L false).2.1.drop (rU m L false).1, false)
theorem rU_len (m : Nat) (L : List Int) (lost : Bool) : (rU m L lost).2.1.length ≤ L.length := by
  unfold rU
  split
  · exact Nat.le_refl _
  · split
    · split
      · rw [List.length_drop]; omega
      · exact Nat.le_refl _
    · exact Nat.le_refl _
def TookB (p : Nat) (R : List Int × List Int × Bool) (W : World) (u : Value) (w' : World) : Prop := (∃ v', RdB w' p v' R.2.1 R.2.2) ∧ w'.ownsRow W.heap.size 5 1 u R.1.length (encB R.1) ∧ W.grownBy w' (some p)

set_option maxRecDepth 100000 in
theorem rtext_any (p m : Nat) (v : Value) (L : List Int) (lost : Bool) (W : World) (h : RdB W p v L lost) (hm : m ≤ 1000000000000) (hL : L.length ≤ 1000000) :
    Calls Try.prog 53 #[wp p, .int .i64 m] W fun e w' => ∃ u, e = .returned u ∧ TookB p (rT m L lost) W u w' := by
  have HN := Lib.hid (rnone_any p v L lost W h)
  cases lost with
  | true =>
    have hT : TookB p (rT m L true) W (.slice none 0 0) W := ⟨⟨v, h⟩, World.ownsRow_nil _ _ _ _, World.grownBy.refl _ _⟩
    replace hT := Lib.hid hT
    clear h
    go_enter Try.func53, Try.ntmps53
    go_wp2_with fail
    refine HN.out.mono ?_
    rintro e w1 ⟨rfl, rfl⟩
    go_wp2_with fail
    go_ret
    exact ⟨_, rfl, hT.out⟩
  | false =>
    have HS := Lib.hid (rsmall_any p m v L false W h hm hL)
    have hlen := rU_len m L false
    have hrT : rT m L false = if (rU m L false).2.2 = true ∨ (rU m L false).2.1.length < (rU m L false).1 then ([], L, true) else ((rU m L false).2.1.take (rU m L false).1, (rU m L false).2.1.drop (rU m L false).1, false) := rfl
    rw [hrT]
    clear hrT
    obtain ⟨R, hR⟩ : ∃ R, rU m L false = R := ⟨_, rfl⟩
    rw [hR] at HS hlen ⊢
    obtain ⟨n, L1, b1⟩ := R
    dsimp only at hlen HS ⊢
    have c0 : W.cell? ⟨p, 0, none⟩ = some v := h.cell 0
    have hpl := h.lt
    have hval := h.val
    have hne := h.ne
    have hty := h.ty
    obtain ⟨ao, cap, hv⟩ := bytV_form' h.val
    obtain ⟨N, hN⟩ : ∃ M : Int, Hid ((n : Int) = M) := ⟨_, rfl⟩
    rw [hN.out] at HS
    by_cases hbad : b1 = true ∨ L1.length < n
    · rw [if_pos hbad]
      rw [hv] at c0
      obtain ⟨ln, hln⟩ : ∃ x, Hid (L.length = x) := ⟨_, rfl⟩
      rw [hln.out] at c0 hv
      have hvv := Lib.hid hv
      have hval' := Lib.hid hval
      have hne' := Lib.hid hne
      have hty' := Lib.hid hty
      clear h hR hval hv hne hty
      go_enter Try.func53, Try.ntmps53
      go_wp2_with fail
      refine HN.out.mono ?_
      rintro e w1 ⟨rfl, rfl⟩
      go_wp2_with fail
      refine HS.out.mono ?_
      rintro e w1 ⟨rfl, ⟨v1, h1⟩, hg⟩
      have k0 : w1.cell? ⟨p, 0, none⟩ = some v1 := h1.cell 0
      have k2 : w1.cell? ⟨p, 2, none⟩ = some (.bool b1) := h1.cell 2
      have f0 := frozen_row h1.head 0
      have f2 := frozen_row h1.head 2
      obtain ⟨ao1, cap1, hv1⟩ := bytV_form' h1.val
      have hT : TookB p ([], L, true) W (.slice none 0 0) ((w1.setCell ⟨p, 0, none⟩ (.slice ao ln cap)).setCell ⟨p, 2, none⟩ (.bool true)) := by
        have hvW := hval'.out.grown hg hne'.out
        rw [hvv.out] at hvW
        have hn2 := hne'.out
        have ht2 := hty'.out.grown hg hne'.out
        rw [hvv.out] at hn2 ht2
        exact ⟨⟨_, (h1.take hvW hn2 ht2).lose⟩, World.ownsRow_nil _ _ _ _, grown_but (grown_but hg (grownBy_set w1 p 0 _) (fun r e => .inl (Option.some.inj e).symm)) (grownBy_set _ p 2 _) (fun r e => .inl (Option.some.inj e).symm)⟩
      replace hT := Lib.hid hT
      subst hv1
      obtain ⟨l1, hl1⟩ : ∃ x, Hid (L1.length = x) := ⟨_, rfl⟩
      rw [hl1.out] at k0 hbad
      clear h1 hg hval' hne' hvv
      cases b1 with
      | true =>
        go_wp2_with fail
        go_ret
        exact ⟨_, rfl, hT.out⟩
      | false =>
        have hlt : (l1 : Int) < N := by have := hN.out; rcases hbad with h | h; cases h; omega
        clear hbad
        go_wp2_with fail
        go_ret
        exact ⟨_, rfl, hT.out⟩
    · rw [if_neg hbad]
      have hb1 : b1 = false := by cases b1; rfl; exact absurd (.inl rfl) hbad
      have hnl : n ≤ L1.length := by omega
      subst hb1
      rw [hv] at c0
      obtain ⟨ln, hln⟩ : ∃ x, Hid (L.length = x) := ⟨_, rfl⟩
      rw [hln.out] at c0
      clear h hR hval hv hne hbad
      go_enter Try.func53, Try.ntmps53
      go_wp2_with fail
      refine HN.out.mono ?_
      rintro e w1 ⟨rfl, rfl⟩
      go_wp2_with fail
      refine HS.out.mono ?_
      rintro e w1 ⟨rfl, ⟨v1, h1⟩, hg⟩
      have k0 : w1.cell? ⟨p, 0, none⟩ = some v1 := h1.cell 0
      have k2 : w1.cell? ⟨p, 2, none⟩ = some (.bool false) := h1.cell 2
      have f0 := frozen_row h1.head 0
      obtain ⟨_, ao1, cap1, hv1, hc1, _⟩ := id h1.val
      obtain ⟨ah, hsh⟩ := slice_high ao1 L1.length cap1 n hnl hc1.1
      obtain ⟨al, hsl⟩ := slice_low ao1 L1.length cap1 n hnl hc1.1
      have hval1 := h1.val
      have hne1 := h1.ne
      have hty1 := h1.ty
      rw [hv1] at hval1 hne1 hty1 k0
      have hC := Lib.hid (clone_any (.slice ah n cap1) (L1.take n) w1 ((hsh w1).2 w1 L1 rfl hval1) (by rw [List.length_take]; omega))
      have hrl : ∀ W', _ := fun W' => (hsl W').1
      have hrh : ∀ W', _ := fun W' => (hsh W').1
      rw [hN.out] at hrl hrh
      have hvl := Lib.hid ((hsl w1).2.1 w1 L1 rfl hval1)
      have hnl1 := Lib.hid ((hsl w1).2.2 _ hne1)
      have htl1 : Hid (U8b w1 (.slice al (L1.length - n) (cap1 - n))) := Lib.hid ((hsl w1).2.2 _ hty1)
      have h1' := Lib.hid h1
      have hNl : N ≤ (L1.length : Int) := by have := hN.out; omega
      obtain ⟨l1, hl1⟩ : ∃ x, Hid (L1.length = x) := ⟨_, rfl⟩
      rw [hl1.out] at k0 hrl hrh hNl hvl hnl1 htl1
      have hN0 : 0 ≤ N := by have := hN.out; omega
      have hk0' : w1.cell? ⟨p, 0, none⟩ = some (.slice ao1 l1 cap1) := k0
      clear h1 hval1 hne1 hty1 hsh hsl hv1 hc1 hnl hlen
      go_wp2_with fail
      refine hC.out.mono ?_
      rintro e w2 ⟨u, rfl, hru, hl2⟩
      have j0 := hl2.cell hk0'
      have j0f := hl2.frozen hk0' f0
      have hT : TookB p (L1.take n, L1.drop n, false) W u (w2.setCell ⟨p, 0, none⟩ (.slice al (l1 - n) (cap1 - n))) := by
        have hr2 := h1'.out.later hl2
        refine ⟨⟨_, hr2.take (hvl.out.later hl2) hnl1.out (htl1.out.later hl2)⟩, row_mono (ownsRow_setCell_below hru (a := ⟨p, 0, none⟩) (show p < w1.heap.size from Nat.lt_of_lt_of_le hpl hg.size) _) hg.size, grown_but (grown_but hg hl2.grown (fun r e => by cases e)) (grownBy_set _ p 0 _) (fun r e => .inl (Option.some.inj e).symm)⟩
      replace hT := Lib.hid hT
      clear h1' hru hvl hnl1 htl1 hC
      go_wp2_with fail
      go_ret
      exact ⟨_, rfl, hT.out⟩
end Go.Proofs.Ytjelfiljebamgaa
