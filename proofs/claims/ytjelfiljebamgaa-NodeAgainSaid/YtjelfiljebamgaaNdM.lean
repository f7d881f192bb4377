/-
  Chapter 28, plain: what Write writes, Read reads; what Read read, Write writes again.
-/
import Derived.Test.YtjelfiljebamgaaNdHd
import Derived.Test.YtjelfiljebamgaaPcH
namespace Go.Proofs.Ytjelfiljebamgaa
open Go.RowKit Go.Shelf
set_option linter.unusedVariables false
set_option linter.unusedSimpArgs false

theorem rL_flat : ∀ (Ms R : List Int), (∀ x ∈ Ms, 0 ≤ x ∧ x ≤ 63) → rL Ms.length (flat Ms ++ R) false = (Ms, R, false)
  | [], R, _ => rfl
  | x :: Ms, R, h => by
    have hx := h x (by simp)
    have e : flat (x :: Ms) ++ R = fm x.toNat ++ (flat Ms ++ R) := by simp [flat]
    have e1 : rU 63 (flat (x :: Ms) ++ R) false = (x.toNat, flat Ms ++ R, false) := by rw [e]; exact rU_fm _ (by omega) (by omega)
    show rL (Ms.length + 1) _ false = _
    unfold rL
    rw [e1]
    dsimp only
    rw [rL_flat Ms R (fun y hy => h y (by simp [hy])), Int.toNat_of_nonneg hx.1]
theorem rL_ok : ∀ (n : Nat) {L : List Int} {lost : Bool}, Byt L → (rL n L lost).2.2 = false → lost = false ∧ L = flat (rL n L lost).1 ++ (rL n L lost).2.1
  | 0, L, lost, hb, h => ⟨h, rfl⟩
  | n + 1, L, lost, hb, h => by
    have h' : (rL n (rU 63 L lost).2.1 (rU 63 L lost).2.2).2.2 = false := h
    obtain ⟨h1, h2⟩ := rL_ok n (rU_byt 63 L lost hb) h'
    obtain ⟨h3, h4, _⟩ := rU_ok hb h1
    refine ⟨h3, ?_⟩
    show L = flat (((rU 63 L lost).1 : Int) :: (rL n (rU 63 L lost).2.1 (rU 63 L lost).2.2).1) ++ (rL n (rU 63 L lost).2.1 (rU 63 L lost).2.2).2.1
    have e : ∀ (x : Nat) (l : List Int), flat ((x : Int) :: l) = fm x ++ flat l := fun x l => by simp [flat]
    rw [e, List.append_assoc, ← h2]
    exact h4
/-- A message's bytes. -/
def Msg.W (m : Msg) : List Int := wrM m.k m.eN m.eB m.Ms m.fr m.ro m.mf m.mt m.sf m.st m.D
theorem tn {x : Int} (h : 0 ≤ x) : ((x.toNat : Nat) : Int) = x := Int.toNat_of_nonneg h
theorem rdT_wr {k : Int} {n y f r s t : Nat} {sf st : Int} {D : List Int} (h1 : 0 ≤ sf ∧ sf ≤ 4096) (h2 : 0 ≤ st ∧ st ≤ 4096) (hD : D.length ≤ 70000) :
    rdT k n y f r s t (fm sf.toNat ++ (fm st.toNat ++ (fm D.length ++ D))) false = fin ⟨k, n, y, [], f, r, s, t, sf, st, D⟩ [] false := by
  have e1 : rU 4096 (fm sf.toNat ++ (fm st.toNat ++ (fm D.length ++ D))) false = (sf.toNat, fm st.toNat ++ (fm D.length ++ D), false) := rU_fm _ (by omega) (by omega)
  have e2 : rU 4096 (fm st.toNat ++ (fm D.length ++ D)) false = (st.toNat, fm D.length ++ D, false) := rU_fm _ (by omega) (by omega)
  have e3 : rT 70000 (fm D.length ++ D) false = (D, [], false) := rT_fm D hD (by omega)
  unfold rdT
  rw [e1]; dsimp only; rw [e2]; dsimp only; rw [e3]; dsimp only
  rw [tn h1.1, tn h2.1]
theorem rd_wr {m : Msg} (h : m.May) (hN : 0 ≤ m.eN ∧ m.eN ≤ 4294967295) : rdM m.W = some m := by
  have hM := h
  obtain ⟨k, eN, eB, Ms, fr, ro, mf, mt, sf, st, D⟩ := m
  obtain ⟨hB1, hB2, hF1, hF2, hD1, ha1, ha2, hb1, hb2, hr1, hr2, hs1, hs2, hf1, hf2, hk⟩ := h
  dsimp only at hB1 hB2 hF1 hF2 hD1 ha1 ha2 hb1 hb2 hr1 hr2 hs1 hs2 hf1 hf2 hk hN
  have hk6 : 0 ≤ k ∧ k ≤ 6 := by omega
  have base : ∀ R, rdM (fm k.toNat ++ (fm eN.toNat ++ (fm eB.toNat ++ R))) = rdBM k.toNat eN.toNat eB.toNat R false := fun R => by
    have e1 : rU 6 (fm k.toNat ++ (fm eN.toNat ++ (fm eB.toNat ++ R))) false = (k.toNat, fm eN.toNat ++ (fm eB.toNat ++ R), false) := rU_fm _ (by omega) (by omega)
    have e2 : rU 4294967295 (fm eN.toNat ++ (fm eB.toNat ++ R)) false = (eN.toNat, fm eB.toNat ++ R, false) := rU_fm _ (by omega) (by omega)
    have e3 : rU 63 (fm eB.toNat ++ R) false = (eB.toNat, R, false) := rU_fm _ (by omega) (by omega)
    unfold rdM
    rw [e1]; dsimp only; rw [e2]; dsimp only; rw [e3]
  have frm : ∀ R, ¬ k = 1 → rdBM k.toNat eN.toNat eB.toNat (fm fr.toNat ++ R) false = rdFM k.toNat eN.toNat eB.toNat fr.toNat R false := fun R hk1 => by
    have e1 : rU 1000 (fm fr.toNat ++ R) false = (fr.toNat, R, false) := rU_fm _ (by omega) (by omega)
    unfold rdBM
    rw [if_neg (by omega), e1]
  have fine : fin ⟨k, eN, eB, Ms, fr, ro, mf, mt, sf, st, D⟩ [] false = some ⟨k, eN, eB, Ms, fr, ro, mf, mt, sf, st, D⟩ := fin_yes rfl hM
  unfold Msg.W
  dsimp only
  rcases hk with ⟨rfl, hr, rfl, h0, rfl, rfl, rfl, rfl, rfl⟩ | ⟨h236, hm0, h0, rfl, rfl, rfl, rfl, rfl⟩ | ⟨rfl, hm0⟩ | ⟨rfl, hm0, rfl, rfl⟩
  · have hRt : risen (-1) Ms = true := by
      cases hh : risen (-1) Ms with
      | true => rfl
      | false => rw [hh] at hr; cases hr
    have hmem : ∀ x ∈ Ms, 0 ≤ x ∧ x ≤ 63 := fun x hx => by have := risen_mem hRt x hx; omega
    have hlen := risen_len hRt (by omega) (by omega)
    have hD0 : D = [] := List.length_eq_zero_iff.1 (by omega)
    subst hD0
    have e1 : rU 64 (fm Ms.length ++ flat Ms) false = (Ms.length, flat Ms, false) := rU_fm _ (by omega) (by omega)
    have e2 : rL Ms.length (flat Ms) false = (Ms, [], false) := by have := rL_flat Ms [] hmem; rw [List.append_nil] at this; exact this
    rw [wrM_1, base]
    unfold rdBM
    rw [if_pos (by decide)]
    unfold rd1M
    rw [e1]; dsimp only; rw [e2]; dsimp only
    rw [tn hN.1, tn hB1]
    exact fine
  · have hk1 : ¬ k = 1 := by omega
    have hD0 : D = [] := List.length_eq_zero_iff.1 (by omega)
    have hM0 : Ms = [] := List.length_eq_zero_iff.1 hm0
    subst hD0 hM0
    rw [wrM_o hk1 (by omega) (by omega), base]
    have := frm [] hk1
    rw [List.append_nil] at this
    rw [this]
    unfold rdFM
    rw [if_neg (by omega), if_neg (by omega), tn hk6.1, tn hN.1, tn hB1, tn hF1]
    exact fine
  · have hM0 : Ms = [] := List.length_eq_zero_iff.1 hm0
    subst hM0
    rw [wrM_4, base, frm _ (by decide)]
    unfold rdFM
    rw [if_pos (by decide)]
    unfold rd4M
    have e1 : ∀ R, rU 6 (fm ro.toNat ++ R) false = (ro.toNat, R, false) := fun R => rU_fm _ (by omega) (by omega)
    have e2 : ∀ R, rU 63 (fm mf.toNat ++ R) false = (mf.toNat, R, false) := fun R => rU_fm _ (by omega) (by omega)
    have e3 : ∀ R, rU 63 (fm mt.toNat ++ R) false = (mt.toNat, R, false) := fun R => rU_fm _ (by omega) (by omega)
    rw [e1]; dsimp only; rw [e2]; dsimp only; rw [e3]; dsimp only
    rw [rdT_wr ⟨by omega, by omega⟩ ⟨by omega, by omega⟩ hD1, tn hN.1, tn hB1, tn hF1, tn hr1, tn ha1, tn hb1]
    exact fine
  · have hM0 : Ms = [] := List.length_eq_zero_iff.1 hm0
    subst hM0
    rw [wrM_5, base, frm _ (by decide)]
    unfold rdFM
    rw [if_neg (by decide), if_pos (by decide)]
    have e2 : ∀ R, rU 63 (fm mf.toNat ++ R) false = (mf.toNat, R, false) := fun R => rU_fm _ (by omega) (by omega)
    rw [e2]; dsimp only
    rw [rdT_wr ⟨by omega, by omega⟩ ⟨by omega, by omega⟩ hD1, tn hN.1, tn hB1, tn hF1, tn ha1]
    exact fine
theorem fin_ok {m m' : Msg} {L : List Int} {lost : Bool} (h : fin m L lost = some m') : m = m' ∧ m.May ∧ lost = false ∧ L = [] := by
  unfold fin at h
  split at h
  · rename_i hc
    have hE := hc.1
    unfold rE at hE
    by_cases hh : lost = true ∨ 0 < L.length
    · rw [if_pos hh] at hE; cases hE
    · rw [not_or] at hh
      exact ⟨Option.some.inj h, hc.2, Bool.eq_false_iff.2 hh.1, List.length_eq_zero_iff.1 (by omega)⟩
  · cases h
theorem rdT_ok {k : Int} {n y f r s t : Nat} {L : List Int} {lost : Bool} {m : Msg} (hb : Byt L) (h : rdT k n y f r s t L lost = some m) :
    lost = false ∧ m.May ∧ ∃ (a b : Nat) (D : List Int), m = ⟨k, n, y, [], f, r, s, t, a, b, D⟩ ∧ L = fm a ++ (fm b ++ (fm D.length ++ D)) := by
  obtain ⟨e, hm, hl, hL⟩ := fin_ok h
  have b1 := rU_byt 4096 L lost hb
  have b2 := rU_byt 4096 _ (rU 4096 L lost).2.2 b1
  obtain ⟨l2, e3⟩ := rT_ok b2 hl
  obtain ⟨l1, e2, _⟩ := rU_ok b1 l2
  obtain ⟨l0, e1, _⟩ := rU_ok hb l1
  refine ⟨l0, e ▸ hm, _, _, _, e.symm, ?_⟩
  rw [hL, List.append_nil] at e3
  rw [← e3, ← e2]
  exact e1
theorem wr_rd {b : List Int} {m : Msg} (hb : Byt b) (h : rdM b = some m) : m.W = b ∧ m.May ∧ 0 ≤ m.eN ∧ m.eN ≤ 4294967295 := by
  have b1 := rU_byt 6 b false hb
  have b2 := rU_byt 4294967295 _ (rU 6 b false).2.2 b1
  have b3 := rU_byt 63 _ (rU 4294967295 (rU 6 b false).2.1 (rU 6 b false).2.2).2.2 b2
  have n2 := rU_le 4294967295 (rU 6 b false).2.1 (rU 6 b false).2.2
  have base : (rU 63 (rU 4294967295 (rU 6 b false).2.1 (rU 6 b false).2.2).2.1 (rU 4294967295 (rU 6 b false).2.1 (rU 6 b false).2.2).2.2).2.2 = false →
      b = fm (rU 6 b false).1 ++ (fm (rU 4294967295 (rU 6 b false).2.1 (rU 6 b false).2.2).1 ++ (fm (rU 63 (rU 4294967295 (rU 6 b false).2.1 (rU 6 b false).2.2).2.1 (rU 4294967295 (rU 6 b false).2.1 (rU 6 b false).2.2).2.2).1 ++ (rU 63 (rU 4294967295 (rU 6 b false).2.1 (rU 6 b false).2.2).2.1 (rU 4294967295 (rU 6 b false).2.1 (rU 6 b false).2.2).2.2).2.1)) := fun hl => by
    obtain ⟨l2, e3, _⟩ := rU_ok b2 hl
    obtain ⟨l1, e2, _⟩ := rU_ok b1 l2
    obtain ⟨_, e1, _⟩ := rU_ok hb l1
    rw [← e3, ← e2]; exact e1
  unfold rdM at h
  revert h base b3 n2
  generalize (rU 6 b false).1 = k
  generalize (rU 4294967295 (rU 6 b false).2.1 (rU 6 b false).2.2).1 = n
  generalize rU 63 (rU 4294967295 (rU 6 b false).2.1 (rU 6 b false).2.2).2.1 (rU 4294967295 (rU 6 b false).2.1 (rU 6 b false).2.2).2.2 = R3
  obtain ⟨y, L3, l3⟩ := R3
  intro h b3 n2 base
  dsimp only at b3 base h
  have hn : 0 ≤ (n : Int) ∧ (n : Int) ≤ 4294967295 := by omega
  unfold rdBM at h
  split at h
  · rename_i hk
    subst hk
    obtain ⟨e, hm, hl, hL⟩ := fin_ok h
    obtain ⟨l4, e5⟩ := rL_ok _ (rU_byt 64 L3 l3 b3) hl
    obtain ⟨l0, e4, _⟩ := rU_ok b3 l4
    rw [hL, List.append_nil] at e5
    rw [e5] at e4
    have e6 := base l0
    rw [e4] at e6
    have hl4 := rL_length (rU 64 L3 l3).1 (rU 64 L3 l3).2.1 (rU 64 L3 l3).2.2
    subst e
    refine ⟨?_, hm, hn⟩
    unfold Msg.W
    dsimp only
    rw [wrM_1, hl4, e6]
    rfl
  · rename_i hk
    have hk1 : ¬ (k : Int) = 1 := by omega
    unfold rdFM at h
    have b4 := rU_byt 1000 L3 l3 b3
    split at h
    · rename_i hk4
      subst hk4
      unfold rd4M at h
      have c1 := rU_byt 6 _ (rU 1000 L3 l3).2.2 b4
      have c2 := rU_byt 63 _ (rU 6 (rU 1000 L3 l3).2.1 (rU 1000 L3 l3).2.2).2.2 c1
      have c3 := rU_byt 63 _ (rU 63 (rU 6 (rU 1000 L3 l3).2.1 (rU 1000 L3 l3).2.2).2.1 (rU 6 (rU 1000 L3 l3).2.1 (rU 1000 L3 l3).2.2).2.2).2.2 c2
      obtain ⟨q3, hm, a, b', D, e, eL⟩ := rdT_ok c3 h
      obtain ⟨q2, d3, _⟩ := rU_ok c2 q3
      obtain ⟨q1, d2, _⟩ := rU_ok c1 q2
      obtain ⟨q0, d1, _⟩ := rU_ok b4 q1
      obtain ⟨l0, d0, _⟩ := rU_ok b3 q0
      have e6 := base l0
      rw [d0, d1, d2, d3, eL] at e6
      subst e
      refine ⟨?_, hm, hn⟩
      unfold Msg.W
      dsimp only
      rw [wrM_4]
      exact e6.symm
    · rename_i hk4
      split at h
      · rename_i hk5
        subst hk5
        have c1 := rU_byt 63 _ (rU 1000 L3 l3).2.2 b4
        obtain ⟨q1, hm, a, b', D, e, eL⟩ := rdT_ok c1 h
        obtain ⟨q0, d1, _⟩ := rU_ok b4 q1
        obtain ⟨l0, d0, _⟩ := rU_ok b3 q0
        have e6 := base l0
        rw [d0, d1, eL] at e6
        subst e
        refine ⟨?_, hm, hn⟩
        unfold Msg.W
        dsimp only
        rw [wrM_5]
        exact e6.symm
      · rename_i hk5
        obtain ⟨e, hm, hl, hL⟩ := fin_ok h
        obtain ⟨l0, d0, _⟩ := rU_ok b3 hl
        rw [hL, List.append_nil] at d0
        have e6 := base l0
        rw [d0] at e6
        subst e
        refine ⟨?_, hm, hn⟩
        unfold Msg.W
        dsimp only
        rw [wrM_o hk1 (by omega) (by omega)]
        exact e6.symm
end Go.Proofs.Ytjelfiljebamgaa
