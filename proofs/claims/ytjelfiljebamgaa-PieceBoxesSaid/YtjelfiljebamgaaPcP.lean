/-
  The document's reader (chapter 5) in memory: a text.
-/
import Derived.Test.YtjelfiljebamgaaPcM1
import Derived.StillTailTactics
namespace Go.Proofs.Ytjelfiljebamgaa
open Go.RowKit Go.Shelf
set_option linter.unusedVariables false
set_option linter.unusedSimpArgs false
attribute [local go_sem] Oper.semAt_some

theorem rT_eq (m : Nat) (X : List Int) (lost : Bool) : rT m X lost = if (rU m X lost).2.2 = true ∨ (rU m X lost).2.1.length < (rU m X lost).1 then ([], X, true) else ((rU m X lost).2.1.take (rU m X lost).1, (rU m X lost).2.1.drop (rU m X lost).1, false) := by
  cases lost with
  | true => rfl
  | false => unfold rT; simp
def TookT05 (p : Nat) (v : Value) (L : List Int) (R : List Int × List Int × Bool) (W : World) (u : Value) (w' : World) : Prop := (∃ a, RrB w' p v L a R.2.2 ∧ L.drop a = R.2.1) ∧ w'.ownsRow W.heap.size 5 1 u R.1.length (encB R.1) ∧ W.grownBy w' (some p)
theorem RrB.setA {W : World} {p a : Nat} {v : Value} {L : List Int} {lost : Bool} (h : RrB W p v L a lost) {a' : Nat} (ha : a' ≤ L.length) : RrB (W.setCell ⟨p, 1, none⟩ (.int .i64 a')) p v L a' lost :=
  ⟨heap_set3b _ _ _ _ _ _ _ h.head, h.val.stay h.ne (fun g hg _ => Below.heap_setCell _ _ _ g hg), h.ne, ha⟩
theorem RrB.setL {W : World} {p a : Nat} {v : Value} {L : List Int} {lost : Bool} (h : RrB W p v L a lost) (b : Bool) : RrB (W.setCell ⟨p, 2, none⟩ (.bool b)) p v L a b :=
  ⟨heap_set3c _ _ _ _ _ _ _ h.head, h.val.stay h.ne (fun g hg _ => Below.heap_setCell _ _ _ g hg), h.ne, h.le⟩

set_option maxRecDepth 100000 in
set_option maxHeartbeats 1000000 in
theorem rtext05_any (p m : Nat) (v : Value) (L : List Int) (a : Nat) (lost : Bool) (W : World) (h : RrB W p v L a lost) (hm : m ≤ 1000000) (hL : L.length ≤ 1000000) :
    Calls Try.prog 57 #[wp p, .int .i64 m] W fun e w' => ∃ u, e = .returned u ∧ TookT05 p v L (rT m (L.drop a) lost) W u w' := by
  have hh := Lib.hid h
  have HS := Lib.hid (rsmall05_any p m v L a lost W h (by omega) hL)
  have c1 : W.cell? ⟨p, 1, none⟩ = some (.int .i64 a) := h.cell 1
  obtain ⟨ao, cap, rfl⟩ := bytV_form h.val
  have hale := h.le
  clear h
  rw [rT_eq]
  obtain ⟨R, hR⟩ : ∃ R, Hid (rU m (L.drop a) lost = R) := ⟨_, rfl⟩
  have hRm : R.1 ≤ 1000000 := by rw [← hR.out]; exact Nat.le_trans (rU_le _ _ _) hm
  rw [hR.out] at HS ⊢
  obtain ⟨r, X, lo⟩ := R
  obtain ⟨n, hn⟩ : ∃ n, Hid (L.length = n) := ⟨_, rfl⟩
  replace hale := Lib.hid hale
  obtain ⟨T, hT⟩ : ∃ T, Hid ((if lo = true ∨ X.length < r then (([] : List Int), L.drop a, true) else (X.take r, X.drop r, false)) = T) := ⟨_, rfl⟩
  show Calls _ _ _ _ fun e w' => ∃ u, e = .returned u ∧ TookT05 p _ L (if lo = true ∨ X.length < r then (([] : List Int), L.drop a, true) else (X.take r, X.drop r, false)) W u w'
  rw [hT.out]
  go_enter Try.func57, Try.ntmps57
  go_wp2_with fail
  refine HS.out.mono ?_
  rintro e w1 ⟨rfl, ⟨a1, h1, hX⟩, hg1⟩
  have d0 : w1.cell? ⟨p, 0, none⟩ = some (.slice ao n cap) := by rw [← hn.out]; exact h1.cell 0
  have d1 : w1.cell? ⟨p, 1, none⟩ = some (.int .i64 a1) := h1.cell 1
  have d2 : w1.cell? ⟨p, 2, none⟩ = some (.bool lo) := h1.cell 2
  have hXl : X.length + a1 = n := by
    have e1 : L.drop a1 = X := hX
    have := h1.le; have := hn.out; rw [← e1, List.length_drop]; omega
  have hnb : n ≤ 1000000 := by have := hn.out; omega
  have hBad : lo = true ∨ X.length < r → Hid (∀ w2, Later w1 w2 → TookT05 p (.slice ao L.length cap) L T W (.slice none 0 0) ((w2.setCell ⟨p, 1, none⟩ (.int .i64 a)).setCell ⟨p, 2, none⟩ (.bool true))) := fun hb => by
    refine Lib.hid fun w2 hl => ?_
    rw [← hT.out, if_pos hb]
    exact ⟨⟨a, ((h1.later hl).setA hale.out).setL true, rfl⟩, World.ownsRow_nil _ _ _ _, grown_set (grown_set (grown_after hg1 hl))⟩
  have k1 := Lib.hid h1
  have hXe : L.drop a1 = X := hX
  have hXe := Lib.hid hXe
  have hpW : p < W.heap.size := cell_lt c1
  clear hh c1 h1 hX
  cases lo with
  | true =>
    have hB := hBad (.inl rfl)
    clear hBad
    go_wp2_with fail
    go_quiet (fail)
    obtain ⟨w2, hw2⟩ : ∃ X, X = w1.drewN nq := ⟨_, rfl⟩
    have hl : Later w1 w2 := by rw [hw2]; exact (Later.refl _).drewN _
    rw [← hw2]
    clear hw2
    have e1 := hl.cell d1
    have e2 := hl.cell d2
    have f1 := k1.out.frozen hl
    go_wp2_with fail
    go_ret
    exact ⟨_, rfl, hB.out w2 hl⟩
  | false =>
    by_cases hlt : X.length < r
    · have hB := hBad (.inr hlt)
      have gd : decide (((n : Int) - (a1 : Int)) < (r : Int)) = true := decide_eq_true (by omega)
      have gi : ((n : Int) - (a1 : Int)) < (r : Int) := by omega
      clear hBad
      go_wp2_with fail
      go_quiet (fail)
      obtain ⟨w2, hw2⟩ : ∃ X, X = w1.drewN nq := ⟨_, rfl⟩
      have hl : Later w1 w2 := by rw [hw2]; exact (Later.refl _).drewN _
      rw [← hw2]
      clear hw2
      have e1 := hl.cell d1
      have e2 := hl.cell d2
      have f1 := k1.out.frozen hl
      go_wp2_with fail
      go_ret
      exact ⟨_, rfl, hB.out w2 hl⟩
    · have gd : decide (((n : Int) - (a1 : Int)) < (r : Int)) = false := decide_eq_false (by omega)
      have gi : ¬ ((n : Int) - (a1 : Int)) < (r : Int) := by omega
      clear hBad
      go_wp2_with fail
      go_quiet (fail)
      obtain ⟨w2, hw2⟩ : ∃ X, X = w1.drewN nq := ⟨_, rfl⟩
      have hl : Later w1 w2 := by rw [hw2]; exact (Later.refl _).drewN _
      rw [← hw2]
      clear hw2
      have h2 := Lib.hid (k1.out.later hl)
      obtain ⟨w3, hw3⟩ : ∃ X, X = w2.drew := ⟨_, rfl⟩
      have hl3 : Later w2 w3 := by rw [hw3]; exact (Later.refl _).drew
      have h3 := Lib.hid (h2.out.later hl3)
      have e0 := (hl.trans hl3).cell d0
      have e1 := (hl.trans hl3).cell d1
      have e6 : ∃ k, Hid (a1 + r = k) := ⟨_, rfl⟩
      obtain ⟨k, hk⟩ := e6
      have hkn : k ≤ n := by have := hk.out; omega
      have hak : (a1 : Int) + (r : Int) = (k : Int) := by have := hk.out; omega
      have h1k : a1 ≤ k := by have := hk.out; omega
      have hcap : n ≤ cap := by
        obtain ⟨_, a', c', e, hc, _⟩ := h3.out.val
        injection e with e1 e2 e3
        have := hn.out; omega
      obtain ⟨a', hsl⟩ := slice_both ao n cap a1 k h1k hkn hcap
      have hrun : ∀ W', _ := fun W' => (hsl W').1
      have cw : IntKind.i64.wrap (k : Int) = (k : Int) := by rw [IntKind.wrap_i64]; omega
      have g0 : (0 : Int) ≤ (k : Int) := by omega
      have g1 : (k : Int) ≤ (cap : Int) := by omega
      go_upto_region 8 with fail
      refine wp_region_still_tail 16 (by kernel_rfl) (by kernel_rfl) ?_
      change wpStill _ _ w2.drew (fun a' => wpList _ _ _ _ a' w2.drew) _ _
      rw [← hw3]
      have hl3' := Lib.hid hl3
      clear hw3 hl3
      simp only [List.take_succ_cons, List.take_zero, List.drop_succ_cons, List.drop_zero]
      repeat still_step
      refine wpStill_nil ?_
      obtain ⟨D, hD⟩ : ∃ D, Hid ((L.take k).drop a1 = D) := ⟨_, rfl⟩
      have hbv : BytV w3 (.slice a' (k - a1) (cap - a1)) D := by rw [← hD.out]; exact (hsl w3).2 w3 L hn.out (by have h := h3.out.val; rw [hn.out] at h; exact h)
      have hDl : D.length ≤ 1000000 := by rw [← hD.out, List.length_drop, List.length_take]; have := hn.out; omega
      have hbase : W.heap.size ≤ w3.heap.size := Nat.le_trans hg1.size (Nat.le_trans hl.size hl3'.out.size)
      have hnil : w3.ownsRow W.heap.size 5 1 (.slice none 0 0) ([] : List Int).length (encB []) := World.ownsRow_nil _ _ _ _
      have hlen2 : ([] : List Int).length + D.length ≤ 2000000 := by simp; omega
      clear hsl hrun
      refine wpList_append_bytes rfl _ _ rfl W.heap.size _ [] rfl hnil _ rfl D hbv hlen2 hbase ?_
      intro v2 w5 hr5 hg5 hn5
      have hl5 : Later w3 w5 := Later.of_grown hg5
      rw [List.nil_append] at hr5
      have e1' := hl5.cell e1
      have h5 := Lib.hid (h3.out.later hl5)
      have f1 : w5.frozen? ⟨p, 1, none⟩ = false := h5.out.frozen (Later.refl _) 1
      obtain ⟨v3, hv3⟩ : ∃ x, x = v2 := ⟨_, rfl⟩
      obtain ⟨m5, o5, cap5, hv5⟩ : ∃ m a c, v2 = .slice a m c := by
        obtain ⟨a1, c1, h⟩ := own_form hr5
        exact ⟨_, a1, c1, h⟩
      have hgW := grown_after hg1 (hl.trans (hl3'.out.trans hl5))
      clear hg5 hn5 hbv hnil hl5 e0 e1
      subst hv5
      go_wp2_with fail
      go_ret
      refine ⟨_, rfl, ?_⟩
      rw [← hT.out, if_neg (by intro h; rcases h with h | h; · cases h
                               · exact hlt h)]
      have hDX : X.take r = D := by rw [← hXe.out, ← hD.out, List.drop_take]; congr 1; have := hk.out; omega
      refine ⟨⟨k, h5.out.setA (by have := hn.out; omega), ?_⟩, ?_, grown_set hgW⟩
      · rw [← hXe.out, List.drop_drop, hk.out]
      · show World.ownsRow _ _ _ _ _ (X.take r).length (encB (X.take r))
        rw [hDX]
        exact ownsRow_setCell_below hr5 (a := ⟨p, 1, none⟩) hpW _
end Go.Proofs.Ytjelfiljebamgaa
