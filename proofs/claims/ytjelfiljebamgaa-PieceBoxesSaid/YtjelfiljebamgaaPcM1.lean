/-
  The document's reader (chapter 5) in memory: its short calls.
  Bytes from one place up to another.
  Chapter 21's document: two lists of bytes are alike.
-/
import Derived.Test.YtjelfiljebamgaaPcL
namespace Go.Proofs.Ytjelfiljebamgaa
open Go.RowKit Go.Shelf
set_option linter.unusedVariables false
set_option linter.unusedSimpArgs false
attribute [local go_sem] Oper.semAt_some

set_option maxRecDepth 100000 in
theorem ruint05_any (p : Nat) (v : Value) (L : List Int) (a : Nat) (lost : Bool) (W : World) (h : RrB W p v L a lost) (hL : L.length ≤ 1000000) :
    Calls Try.prog 55 #[wp p] W fun e w' => e = .returned (.int .u64 (rU 18446744073709551615 (L.drop a) lost).1) ∧ Took05 p v L (rU 18446744073709551615 (L.drop a) lost) W w' := by
  have HU := Lib.hid (upto05_any p 18446744073709551615 18446744073709551615 v L a lost W h rfl hL)
  clear h
  generalize rU 18446744073709551615 (L.drop a) lost = R at HU ⊢
  go_enter Try.func55, Try.ntmps55
  go_wp2_with fail
  refine HU.out.mono ?_
  rintro e w' ⟨rfl, ht⟩
  go_wp2_with fail
  go_ret
  exact ⟨rfl, ht⟩
set_option maxRecDepth 100000 in
theorem rsmall05_any (p m : Nat) (v : Value) (L : List Int) (a : Nat) (lost : Bool) (W : World) (h : RrB W p v L a lost) (hm : m ≤ 1000000000000) (hL : L.length ≤ 1000000) :
    Calls Try.prog 56 #[wp p, .int .i64 m] W fun e w' => e = .returned (.int .i64 (rU m (L.drop a) lost).1) ∧ Took05 p v L (rU m (L.drop a) lost) W w' := by
  have HU := Lib.hid (upto05_any p m m v L a lost W h rfl hL)
  have hle := rU_le m (L.drop a) lost
  clear h
  generalize rU m (L.drop a) lost = R at HU hle ⊢
  obtain ⟨r, hr⟩ : ∃ r, Hid (R.1 = r) := ⟨_, rfl⟩
  rw [hr.out] at HU hle ⊢
  have hm0 : ¬ ((m : Int) < 0) := by omega
  have hd : decide ((m : Int) < 0) = false := decide_eq_false hm0
  go_enter Try.func56, Try.ntmps56
  go_wp2_with fail
  refine HU.out.mono ?_
  rintro e w' ⟨rfl, ht⟩
  go_wp2_with fail
  go_ret
  exact ⟨rfl, ht⟩
set_option maxRecDepth 100000 in
theorem rend05_any (p : Nat) (v : Value) (L : List Int) (a : Nat) (lost : Bool) (W : World) (h : RrB W p v L a lost) (hL : L.length ≤ 1000000) :
    Calls Try.prog 58 #[wp p] W fun e w' => e = .returned (.int .i64 (rE (L.drop a) lost)) ∧ Later W w' := by
  have c0 : W.cell? ⟨p, 0, none⟩ = some v := h.cell 0
  have c1 : W.cell? ⟨p, 1, none⟩ = some (.int .i64 a) := h.cell 1
  have c2 : W.cell? ⟨p, 2, none⟩ = some (.bool lost) := h.cell 2
  have hle := h.le
  obtain ⟨ao, cap, rfl⟩ := bytV_form h.val
  clear h
  cases lost with
  | true =>
    rw [show rE (L.drop a) true = 50 from by unfold rE; rw [if_pos (.inl rfl)]]
    go_enter Try.func58, Try.ntmps58
    go_wp2_with fail
    go_quiet (fail)
    go_wp2_with fail
    go_ret
    exact ⟨rfl, (Later.refl _).drewN _⟩
  | false =>
    obtain ⟨n, hn⟩ : ∃ n, Hid (L.length = n) := ⟨_, rfl⟩
    by_cases hl : a < L.length
    · rw [show rE (L.drop a) false = 50 from by unfold rE; rw [if_pos (.inr (by rw [List.length_drop]; omega))]]
      rw [hn.out] at c0 hl
      have hd : decide ((a : Int) < (n : Int)) = true := decide_eq_true (by omega)
      go_enter Try.func58, Try.ntmps58
      go_wp2_with fail
      go_quiet (fail)
      go_wp2_with fail
      go_ret
      exact ⟨rfl, (Later.refl _).drewN _⟩
    · rw [show rE (L.drop a) false = 0 from by unfold rE; rw [if_neg (by rw [List.length_drop]; simp; omega)]]
      rw [hn.out] at c0 hl
      have hd : decide ((a : Int) < (n : Int)) = false := decide_eq_false (by omega)
      go_enter Try.func58, Try.ntmps58
      go_wp2_with fail
      go_quiet (fail)
      go_wp2_with fail
      go_ret
      exact ⟨rfl, (Later.refl _).drewN _⟩
end Go.Proofs.Ytjelfiljebamgaa
namespace Go.Proofs.Ytjelfiljebamgaa
open Go.RowKit Go.Shelf
set_option linter.unusedVariables false
set_option linter.unusedSimpArgs false
attribute [local go_sem] Oper.semAt_some

theorem slice_both (ao : Option Addr) (n cap j k : Nat) (hj : j ≤ k) (hk : k ≤ n) (hn : n ≤ cap) : ∃ ao', ∀ W', (Instr.slice 23 (.slice ao n cap) (some (.int .i64 j)) (some (.int .i64 k)) none).run Try.prog W' = .ok (.slice ao' (k - j) (cap - j)) W' ∧
    (∀ W2 (L : List Int), L.length = n → BytV W2 (.slice ao n cap) L → BytV W2 (.slice ao' (k - j) (cap - j)) ((L.take k).drop j)) := by
  refine ⟨if cap = j then ao else ao.map (·.add (j * 1)), fun W' => ⟨?_, ?_⟩⟩
  · rw [run_slice_lh W' 23 ao n cap und_u8 .i64 .i64 (j : Int) (k : Int) (by omega) (by omega) (by omega), elem_u8, size_u8]
    simp [Result.andThen, sliced]
  · rintro W2 L hL ⟨hb, a, c, e, hc, hv⟩
    injection e with e1 e2 e3
    subst e1 e3
    have hlen : ((L.take k).drop j).length = k - j := by rw [List.length_drop, List.length_take]; omega
    refine ⟨(hb.take k).drop j, _, _, by rw [hlen], ⟨by rw [hlen]; omega, fun h => ?_⟩, fun i hi => ?_⟩
    · split at h
      · omega
      · have : ao = none := by cases ao with | none => rfl | some _ => cases h
        have := hc.2 this; omega
    · rw [hlen] at hi
      obtain ⟨g, o, rfl, h1⟩ := hv (j + i) (by omega)
      refine ⟨g, o + j, ?_, ?_⟩
      · rw [if_neg (by omega), Nat.mul_one]
        simp only [Option.map_some, add_plain]
      · rw [show o + j + i = o + (j + i) by omega, h1, List.getD_eq_getElem?_getD, List.getD_eq_getElem?_getD, List.getElem?_drop, List.getElem?_take_of_lt (by omega)]
end Go.Proofs.Ytjelfiljebamgaa
namespace Go.Proofs.Ytjelfiljebamgaa
open Go.RowKit Go.Shelf
set_option linter.unusedVariables false
set_option linter.unusedSimpArgs false
attribute [local go_sem] Oper.semAt_some

/-- The cells of a list of bytes. -/
def BssV (W : World) (v : Value) (Ls : List (List Int)) : Prop :=
  ∃ ao cap, v = .slice ao Ls.length cap ∧ ∀ k, k < Ls.length → ∃ g o u, ao = some ⟨g, o, none⟩ ∧ W.cell? ⟨g, o + k, none⟩ = some u ∧ BytV W u (Ls.getD k [])
theorem BssV.later {W W' : World} {v : Value} {Ls : List (List Int)} (h : BssV W v Ls) (hl : Later W W') : BssV W' v Ls := by
  obtain ⟨ao, cap, rfl, hv⟩ := h
  refine ⟨ao, cap, rfl, fun k hk => ?_⟩
  obtain ⟨g, o, u, e, h1, h2⟩ := hv k hk
  exact ⟨g, o, u, e, hl.cell h1, h2.later hl⟩
theorem bss_of {W : World} {B : Nat} {v : Value} {vs : List Value} {Ls : List (List Int)} (h : W.ownsRow B 23 1 v Ls.length vs) (hp : Pcs W B vs Ls) (hb : ∀ D ∈ Ls, Byt D) : BssV W v Ls := by
  obtain ⟨ao, cap, rfl⟩ := own_form h
  refine ⟨ao, cap, rfl, fun k hk => ?_⟩
  obtain ⟨u, h1, h2⟩ := pcs_at hp hb (k := k) (D := Ls[k]) (List.getElem?_eq_getElem hk)
  rcases h.2 with ⟨e, h0⟩ | ⟨g, cap', cur, e, _⟩
  · injection e with _ e2 _; omega
  · injection e with e1 _ _
    subst e1
    refine ⟨g, 0, u, rfl, ?_, ?_⟩
    · rw [Nat.zero_add]; exact (h.cellAt k (by omega)).trans h1
    · rw [List.getD_eq_getElem?_getD, List.getElem?_eq_getElem hk]; exact h2
set_option maxRecDepth 100000 in
theorem lists_same (v v' : Value) (Ls : List (List Int)) (W : World) (h : BssV W v Ls) (h' : BssV W v' Ls) (hlen : Ls.length ≤ 1000000) :
    Calls Try.prog 17 #[v, v'] W fun e w' => e = .returned (.bool true) ∧ Later W w' := by
  obtain ⟨ao, cap, rfl, hv⟩ := h
  obtain ⟨ao', cap', rfl, hv'⟩ := h'
  obtain ⟨n, hn⟩ : ∃ n, Hid (Ls.length = n) := ⟨_, rfl⟩
  rw [hn.out] at hv hv' hlen ⊢
  have hv := Lib.hid hv
  have hv' := Lib.hid hv'
  go_enter Try.func17, Try.ntmps17
  go_wp2_with fail
  go_loopg [5] (n + 1) (fun g y wr => Later W wr ∧ ∃ i : Nat, g = n + 1 - i ∧ i ≤ n ∧ y = .int .i64 i)
  case atStart => exact ⟨Later.refl _, 0, rfl, Nat.zero_le _, rfl⟩
  case round =>
    obtain ⟨hl, i, rfl, hi, rfl⟩ := hrel
    obtain ⟨wo, rfl⟩ : ∃ wo : World, wo = wr := ⟨_, rfl⟩
    by_cases hin : i < n
    · obtain ⟨g, o, u, rfl, c1, b1⟩ := hv.out i hin
      obtain ⟨g', o', u', rfl, c2, b2⟩ := hv'.out i hin
      have gin : (i : Int) < (n : Int) := by omega
      replace c1 := hl.cell c1
      replace c2 := hl.cell c2
      obtain ⟨T, hT⟩ : ∃ T, Hid (strOfNums (Ls.getD i []) = T) := ⟨_, rfl⟩
      have s1 : ∀ k, (convert 23 9 u).run Try.prog (wo.drewN k) = .ok (.string T) (wo.drewN k) := fun k => by rw [← hT.out]; exact bytV_string (b1.later (hl.drewN k))
      have s2 : ∀ k, (convert 23 9 u').run Try.prog (wo.drewN k) = .ok (.string T) (wo.drewN k) := fun k => by rw [← hT.out]; exact bytV_string (b2.later (hl.drewN k))
      obtain ⟨m1, a1, q1, rfl⟩ := bytV_sl b1
      obtain ⟨m2, a2, q2, rfl⟩ := bytV_sl b2
      clear b1 b2
      go_wp2_with fail
      go_quiet (fail)
      go_wp2_with fail
      go_roundg (n - i)
      case measure => omega
      case rel => exact ⟨hl.drewN _, i + 1, by omega, by omega, by go_num⟩
    · obtain rfl : i = n := by omega
      go_wp2_with fail
      go_ret
      exact ⟨rfl, hl⟩
end Go.Proofs.Ytjelfiljebamgaa
