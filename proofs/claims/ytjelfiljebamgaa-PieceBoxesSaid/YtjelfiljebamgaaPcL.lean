/-
  The document's reader (chapter 5) in memory: numbers.
-/
import Derived.Test.YtjelfiljebamgaaPcK
namespace Go.Proofs.Ytjelfiljebamgaa
open Go.RowKit Go.Shelf
set_option linter.unusedVariables false
set_option linter.unusedSimpArgs false
attribute [local go_sem] Oper.semAt_some

/-- The document's reader: all bytes, and how many are read. -/
structure RrB (W : World) (p : Nat) (v : Value) (L : List Int) (at_ : Nat) (lost : Bool) : Prop where
  head : W.heap[p]? = some (.cells #[v, .int .i64 at_, .bool lost] 115 (0, 0))
  val : BytV W v L
  ne : In v (· ≠ p)
  le : at_ ≤ L.length
theorem RrB.lt {W : World} {p a : Nat} {v : Value} {L : List Int} {lost : Bool} (h : RrB W p v L a lost) : p < W.heap.size := (Array.getElem?_eq_some_iff.1 h.head).1
theorem RrB.cell {W : World} {p a : Nat} {v : Value} {L : List Int} {lost : Bool} (h : RrB W p v L a lost) (k : Nat) : W.cell? ⟨p, k, none⟩ = (#[v, .int .i64 a, .bool lost] : Array Value)[k]? := cell_of_row W p k _ _ _ h.head
theorem RrB.later {W W' : World} {p a : Nat} {v : Value} {L : List Int} {lost : Bool} (h : RrB W p v L a lost) (hl : Later W W') : RrB W' p v L a lost := ⟨(hl.block p h.lt).trans h.head, h.val.later hl, h.ne, h.le⟩
theorem RrB.frozen {W W' : World} {p a : Nat} {v : Value} {L : List Int} {lost : Bool} (h : RrB W p v L a lost) (hl : Later W W') (k : Nat) : W'.frozen? ⟨p, k, none⟩ = false := frozen_row (h.later hl).head k
theorem heap_set3b (W : World) (b : Nat) (x y z : Value) (t : TypeId) (u : Value) (h : W.heap[b]? = some (.cells #[x, y, z] t (0, 0))) : (W.setCell ⟨b, 1, none⟩ u).heap[b]? = some (.cells #[x, u, z] t (0, 0)) := by
  obtain ⟨hlt, hk⟩ := Array.getElem?_eq_some_iff.1 h
  show (W.heap.modify b _)[b]? = _
  rw [Array.getElem?_eq_getElem (by rw [Array.size_modify]; exact hlt), Array.getElem_modify_self, hk]
  rfl
def Took05 (p : Nat) (v : Value) (L : List Int) (R : Nat × List Int × Bool) (W w' : World) : Prop := (∃ a, RrB w' p v L a R.2.2 ∧ L.drop a = R.2.1) ∧ W.grownBy w' (some p)
theorem u64_nat {x : Nat} (h : x < 18446744073709551616) : IntKind.u64.wrap (x : Int) = x := by
  simp [IntKind.wrap, IntKind.bits, IntKind.signed]; omega
theorem sum_lt {acc q i : Nat} (ha : acc < 128 ^ i) (hq : q < 128) (hi : i ≤ 9) (h9 : ¬ (i = 9 ∧ 2 ≤ q)) : acc + q * 128 ^ i < 18446744073709551616 := by
  have h1 : (q + 1) * 128 ^ i = q * 128 ^ i + 128 ^ i := Nat.succ_mul _ _
  rcases Nat.lt_or_ge i 9 with h | h
  · have h2 : (q + 1) * 128 ^ i ≤ 128 * 128 ^ 8 := Nat.mul_le_mul (by omega) (Nat.pow_le_pow_right (by omega) (by omega))
    simp at h2; omega
  · obtain rfl : i = 9 := by omega
    have h2 : (q + 1) * 128 ^ 9 ≤ 2 * 128 ^ 9 := Nat.mul_le_mul (by omega) (Nat.le_refl _)
    simp at h1 h2 ha ⊢; omega
theorem wsum {acc q i : Nat} {A z Q : Int} (hA : (acc : Int) = A) (hQ : Q = q) (hz : z = (128 ^ i : Nat)) (ha : acc < 128 ^ i) (hq : q < 128) (hi : i ≤ 9) (h9 : ¬ (i = 9 ∧ 2 ≤ q)) :
    IntKind.u64.wrap (A + IntKind.u64.wrap (Q * z)) = ((acc + q * 128 ^ i : Nat) : Int) := by
  have hlt := sum_lt ha hq hi h9
  subst hA hQ hz
  have e2 : (q : Int) * ((128 ^ i : Nat) : Int) = ((q * 128 ^ i : Nat) : Int) := (Int.natCast_mul _ _).symm
  rw [e2]
  generalize q * 128 ^ i = x at hlt
  rw [u64_nat (by omega), show (acc : Int) + (x : Int) = ((acc + x : Nat) : Int) by omega, u64_nat hlt]
theorem wworth {i : Nat} {z : Int} (hz : z = (128 ^ i : Nat)) (hi : i ≤ 8) : IntKind.u64.wrap (z * 128) = (128 ^ (i + 1) : Nat) := by
  subst hz
  have e : ((128 ^ i : Nat) : Int) * 128 = ((128 ^ (i + 1) : Nat) : Int) := by rw [Nat.pow_succ]; exact (Int.natCast_mul _ _).symm
  rw [e, u64_nat]
  exact Nat.lt_of_le_of_lt (Nat.pow_le_pow_right (by omega) (show i + 1 ≤ 9 by omega)) (by decide)
theorem lost05 {W0 W : World} {p a : Nat} {v : Value} {L : List Int} (h : RrB W0 p v L a false) (hl : Later W0 W) : Took05 p v L (0, L.drop a, true) W0 (W.setCell ⟨p, 2, none⟩ (.bool true)) :=
  ⟨⟨a, ⟨heap_set3c _ _ _ _ _ _ _ (h.later hl).head, (h.later hl).val.stay h.ne (fun g hg _ => Below.heap_setCell _ _ _ g hg), h.ne, h.le⟩, rfl⟩, grown_set (grown_some hl.grown)⟩
theorem took05 {W0 W : World} {p a a' n : Nat} {v : Value} {L : List Int} (h : RrB W0 p v L a false) (hl : Later W0 W) (ha : a' ≤ L.length) : Took05 p v L (n, L.drop a', false) W0 (W.setCell ⟨p, 1, none⟩ (.int .i64 a')) :=
  ⟨⟨a', ⟨heap_set3b _ _ _ _ _ _ _ (h.later hl).head, (h.later hl).val.stay h.ne (fun g hg _ => Below.heap_setCell _ _ _ g hg), h.ne, ha⟩, rfl⟩, grown_set (grown_some hl.grown)⟩

set_option maxRecDepth 100000 in
set_option maxHeartbeats 1000000 in
theorem upto05_any (p m : Nat) (M : Int) (v : Value) (L : List Int) (a : Nat) (lost : Bool) (W : World) (h : RrB W p v L a lost) (hM : (m : Int) = M) (hL : L.length ≤ 1000000) :
    Calls Try.prog 86 #[wp p, .int .u64 M] W fun e w' => e = .returned (.int .u64 (rU m (L.drop a) lost).1) ∧ Took05 p v L (rU m (L.drop a) lost) W w' := by
  have hh := Lib.hid h
  have c0 : W.cell? ⟨p, 0, none⟩ = some v := h.cell 0
  have c1 : W.cell? ⟨p, 1, none⟩ = some (.int .i64 a) := h.cell 1
  have c2 : W.cell? ⟨p, 2, none⟩ = some (.bool lost) := h.cell 2
  have hale := h.le
  obtain ⟨hb, ao, cap, rfl, _, hc⟩ := h.val
  clear h
  obtain ⟨n, hn⟩ : ∃ n, Hid (L.length = n) := ⟨_, rfl⟩
  rw [hn.out] at c0 hc hL hale
  cases lost with
  | true =>
    have e1 : rU m (L.drop a) true = (0, L.drop a, true) := rfl
    rw [e1]
    go_enter Try.func86, Try.ntmps86
    go_wp2_with fail
    go_ret
    exact ⟨rfl, ⟨a, hh.out, rfl⟩, ⟨rfl, rfl, rfl, Nat.le_refl _, fun _ _ _ => rfl⟩⟩
  | false =>
    obtain ⟨R, hR⟩ : ∃ R, Hid (rU m (L.drop a) false = R) := ⟨_, rfl⟩
    rw [hR.out]
    have hc := Lib.hid hc
    have hb := Lib.hid hb
    go_enter Try.func86, Try.ntmps86
    go_wp2_with fail
    go_loopg [5, 6, 7, 8] (11) (fun g s5 s6 s7 y wr => Later W wr ∧ ∃ (i acc : Nat) (z : Int), g = 11 - i ∧ i ≤ 10 ∧ a + i ≤ n ∧ s5 = .int .u64 acc ∧ s6 = .int .u64 z ∧ (i ≤ 9 → z = (128 ^ i : Nat)) ∧ s7 = .int .i64 i ∧ acc < 128 ^ i ∧ nm ((L.drop a).drop i) i acc = num (L.drop a))
    case atStart => exact ⟨Later.refl _, 0, 0, 1, by omega, by omega, by omega, rfl, rfl, fun _ => rfl, rfl, by decide, rfl⟩
    case round =>
      obtain ⟨hl, i, acc, z, rfl, hi10, hin, rfl, rfl, hz, rfl, hacc, hnm⟩ := hrel
      obtain ⟨wo, rfl⟩ : ∃ wo : World, wo = wr := ⟨_, rfl⟩
      replace c0 := hl.cell c0
      replace c1 := hl.cell c1
      replace c2 := hl.cell c2
      by_cases h10 : i < 10
      · have g10 : (i : Int) < 10 := by omega
        by_cases hin2 : a + i < n
        · have gin : ((a : Int) + (i : Int) : Int) < (n : Int) := by omega
          have ginw : wrap64 ((a : Int) + (i : Int)) = ((a + i : Nat) : Int) := by unfold wrap64; omega
          obtain ⟨g, o, rfl, ca⟩ := hc.out (a + i) hin2
          replace ca := hl.cell ca
          have hcb := hb.out (L.getD (a + i) 0) (by rw [List.getD_eq_getElem?_getD, List.getElem?_eq_getElem (by have := hn.out; omega)]; exact List.getElem_mem _)
          have hd : (L.drop a).drop i = L.getD (a + i) 0 :: (L.drop a).drop (i + 1) := by rw [List.drop_drop, List.drop_drop, List.drop_eq_getElem_cons (by have := hn.out; omega), List.getD_eq_getElem?_getD, List.getElem?_eq_getElem (by have := hn.out; omega)]; rfl
          obtain ⟨c, hcc⟩ : ∃ c, L.getD (a + i) 0 = c := ⟨_, rfl⟩
          rw [hcc] at ca hcb hd
          rw [hd] at hnm
          clear hcc hd
          have gd : decide (((a : Int) + (i : Int) : Int) < (n : Int)) = true := decide_eq_true gin
          go_wp2_with fail
          go_quiet (fail)
          obtain ⟨w1, hw1⟩ : ∃ X, X = wo.drewN nq := ⟨_, rfl⟩
          have hl1 : Later wo w1 := by rw [hw1]; exact (Later.refl _).drewN _
          rw [← hw1]
          clear hw1
          replace c0 := hl1.cell c0
          replace c1 := hl1.cell c1
          replace c2 := hl1.cell c2
          replace ca := hl1.cell ca
          replace hl := hl.trans hl1
          clear hl1
          go_wp2_with fail
          go_quiet (fail)
          rename_i nq2
          obtain ⟨w2, hw2⟩ : ∃ X, X = w1.drewN nq := ⟨_, rfl⟩
          have hl1 : Later w1 w2 := by rw [hw2]; exact (Later.refl _).drewN _
          rw [← hw2]
          clear hw2
          replace c0 := hl1.cell c0
          replace c1 := hl1.cell c1
          replace c2 := hl1.cell c2
          replace hl := hl.trans hl1
          clear hl1 ca gd gin
          have hfz := hh.out.frozen hl
          obtain ⟨q, hq⟩ : ∃ q : Nat, q = (c % 128).toNat := ⟨_, rfl⟩
          have hq128 : q < 128 := by omega
          have hqc : c % 128 = q := by omega
          by_cases h9 : i = 9 ∧ 1 < c
          · have hno : num (L.drop a) = none := by
              rw [← hnm]
              unfold nm
              by_cases hcm : 10 ≤ i ∨ i = 9 ∧ 2 ≤ (c % 128).toNat
              · rw [if_pos hcm]
              · rw [if_neg hcm, if_pos (by omega)]
                cases (L.drop a).drop (i + 1) with
                | nil => rfl
                | cons x r => unfold nm; rw [if_pos (.inl (by omega))]
            have hRR : R = (0, L.drop a, true) := by rw [← hR.out]; unfold rU; rw [hno]; rfl
            subst hRR
            have i9 : (i : Int) = 9 := by omega
            have i9b : ((i : Int) == 9) = true := by simp [i9]
            have c9 : decide ((1 : Int) < c) = true := decide_eq_true h9.2
            clear hnm hno
            go_wp2_with fail
            go_ret
            exact ⟨rfl, lost05 hh.out hl⟩
          · have hz9 := hz (by omega)
            have e9 : (((i : Int) == 9) && decide ((1 : Int) < c)) = false := by
              rw [Bool.and_eq_false_iff, decide_eq_false_iff_not, beq_eq_false_iff_ne]; omega
            obtain ⟨A, hA⟩ : ∃ A : Int, Hid ((acc : Int) = A) := ⟨_, rfl⟩
            rw [hA.out]
            replace hz9 := Lib.hid hz9
            replace hacc := Lib.hid hacc
            replace hqc := Lib.hid hqc
            replace hnm := Lib.hid hnm
            replace h9 := Lib.hid h9
            clear hz hq
            have hq2 : ¬ (i = 9 ∧ 2 ≤ q) := by have := h9.out; have := hqc.out; omega
            have hws := Lib.hid (wsum hA.out hqc.out hz9.out hacc.out hq128 (by omega) hq2)
            have hstep := Lib.hid (acc_step hacc.out hq128)
            obtain ⟨acc', hacc'⟩ : ∃ x, Hid (acc + q * 128 ^ i = x) := ⟨_, rfl⟩
            rw [hacc'.out] at hws hstep
            have hnm2 := hnm.out
            unfold nm at hnm2
            rw [if_neg (by rw [hqc.out, Int.toNat_natCast]; omega), hqc.out, Int.toNat_natCast, hacc'.out] at hnm2
            have hnm2 := Lib.hid hnm2
            obtain ⟨S, hS⟩ : ∃ S : Int, IntKind.u64.wrap (A + IntKind.u64.wrap (c % 128 * z)) = S := ⟨_, rfl⟩
            have hSa : Hid (S = (acc' : Int)) := Lib.hid (hS.symm.trans hws.out)
            clear hws hacc' hnm
            by_cases c128 : 128 ≤ c
            · have i8 : i ≤ 8 := by have := h9.out; omega
              have hww := Lib.hid (wworth hz9.out i8)
              replace hnm2 := hnm2.out
              rw [if_pos c128] at hnm2
              replace hnm2 := Lib.hid hnm2
              go_wp2_with fail
              all_goals
                go_roundg (10 - i)
                case measure => omega
                case rel => exact ⟨hl, i + 1, acc', _, by omega, by omega, by omega, by rw [← hSa.out], rfl, fun _ => hww.out, by go_num, hstep.out, by rw [List.drop_drop] at hnm2 ⊢; exact hnm2.out⟩
            · have hRL : Hid (((0 < i ∧ c = 0) ∨ M < S) → R = (0, L.drop a, true)) := by
                refine Lib.hid fun hlost => ?_
                rw [← hR.out]
                have h2 := hnm2.out
                have h3 := hSa.out
                rw [if_neg c128] at h2
                unfold rU
                by_cases hz0 : c = 0 ∧ 0 < i
                · rw [if_pos hz0] at h2
                  rw [← h2]; rfl
                · rw [if_neg hz0] at h2
                  rw [← h2]
                  simp only [Bool.false_eq_true, if_false]
                  rw [if_neg (by omega)]
              have hRS : Hid (¬ (0 < i ∧ c = 0) → S ≤ M → R = (acc', L.drop (a + i + 1), false)) := by
                refine Lib.hid fun hz0 hle => ?_
                rw [← hR.out]
                have h2 := hnm2.out
                have h3 := hSa.out
                rw [if_neg c128, if_neg (by omega)] at h2
                unfold rU
                rw [← h2]
                simp only [Bool.false_eq_true, if_false]
                rw [if_pos (by omega), List.drop_drop]
                rfl
              have hT := Lib.hid (took05 (n := acc') (a' := a + i + 1) hh.out hl (by have := hn.out; omega))
              replace hz9 := hz9
              clear hnm2 hstep
              go_wp2_with fail
              all_goals
                (try simp only [beq_iff_eq, beq_eq_false_iff_ne, ne_eq] at *)
                first
                  | exact absurd (show i = 9 ∧ 1 < c by omega) h9.out
                  | go_ret
                first
                  | done
                  | (rw [hRL.out (by omega)]; exact ⟨rfl, lost05 hh.out hl⟩)
                  | (rw [hRS.out (by omega) (by omega)]
                     refine ⟨by rw [hSa.out]; rfl, ?_⟩
                     have ht := hT.out
                     rw [show ((a + i + 1 : Nat) : Int) = (a : Int) + (i : Int) + 1 by omega] at ht
                     first | exact ht | (rw [show ((a : Int) + 9 + 1) = (a : Int) + (i : Int) + 1 by omega]; exact ht))
        · have hno : num (L.drop a) = none := by
            rw [← hnm, List.drop_drop, List.drop_eq_nil_of_le (by have := hn.out; omega)]; rfl
          have hRR : R = (0, L.drop a, true) := by rw [← hR.out]; unfold rU; rw [hno]; rfl
          subst hRR
          have ginw : wrap64 ((a : Int) + (i : Int)) = ((a + i : Nat) : Int) := by unfold wrap64; omega
          have gd : decide (((a : Int) + (i : Int) : Int) < (n : Int)) = false := decide_eq_false (by omega)
          clear hnm hno
          go_wp2_with fail
          go_quiet (fail)
          have hl1 : Later wo (wo.drewN nq) := (Later.refl _).drewN _
          replace c0 := hl1.cell c0
          replace c1 := hl1.cell c1
          replace c2 := hl1.cell c2
          replace hl := hl.trans hl1
          have hfz := hh.out.frozen hl
          go_wp2_with fail
          go_ret
          exact ⟨rfl, lost05 hh.out hl⟩
      · obtain rfl : i = 10 := by omega
        have hno : num (L.drop a) = none := by
          rw [← hnm]
          cases (L.drop a).drop 10 with
          | nil => rfl
          | cons x r => unfold nm; rw [if_pos (.inl (by omega))]
        have hRR : R = (0, L.drop a, true) := by rw [← hR.out]; unfold rU; rw [hno]; rfl
        subst hRR
        clear hnm hno
        go_wp2_with fail
        go_quiet (fail)
        have hl1 : Later wo (wo.drewN nq) := (Later.refl _).drewN _
        replace c0 := hl1.cell c0
        replace c1 := hl1.cell c1
        replace c2 := hl1.cell c2
        replace hl := hl.trans hl1
        have hfz := hh.out.frozen hl
        go_wp2_with fail
        go_ret
        exact ⟨rfl, lost05 hh.out hl⟩
end Go.Proofs.Ytjelfiljebamgaa
