/-
  Chapter 11's laws: how often a triangle covers each pixel of a board.
-/
import Derived.Test.YtmpnojgciaoghaaCovV
namespace Go.Proofs.Ytmpnojgciaoghaa
open Go.RowKit Go.Shelf
set_option linter.unusedVariables false
set_option linter.unusedSimpArgs false
attribute [local go_sem] Oper.semAt_some

def CovRet (M : Nat) (f : Nat → Int) (a b c : C3) (w : World) (e : Ending) (w' : World) : Prop :=
  e = .returned (.bool (may3 a b c)) ∧ Board w' M (fun k => f k + cnt a b c k) ∧ w.grownBy w' (some M)

set_option maxRecDepth 100000 in
set_option maxHeartbeats 2000000 in
theorem covered_any (M : Nat) (f : Nat → Int) (a b c : C3) (w : World) (hf : ∀ k, 0 ≤ f k ∧ f k ≤ 100) (hB : Board w M f) :
    Calls Try.prog 24 #[.pointer (some ⟨M, 0, none⟩), crn a, crn b, crn c] w (CovRet M f a b c w) := by
  obtain ⟨L, hL⟩ : ∃ L, Hid (CL a b c 64 64 = L) := ⟨_, rfl⟩
  obtain ⟨m, hm⟩ : ∃ m, Hid (may3 a b c = m) := ⟨_, rfl⟩
  have H1 := Lib.hid (covCells_CL a b c 64 64)
  have hbd : Hid (∀ q ∈ L, 0 ≤ q.1 ∧ q.1 ≤ 63 ∧ 0 ≤ q.2.1 ∧ q.2.1 ≤ 63) := by
    rw [← hL.out]; intro q hq; have := CL64_bd hq; omega
  have hpw := CL64_pairwise a b c
  have hfin : Hid (∀ k, k < 4096 → met L L.length k = cnt a b c k) := by rw [← hL.out]; exact fun k hk => met_cnt a b c hk
  have hlen := CL_length a b c 64 64
  have hcn : cellsN (may3 a b c) 64 64 = if m then 0 else 110 := by rw [hm.out]; cases m <;> rfl
  rw [hL.out, hcn] at H1
  rw [hL.out] at hpw hlen
  have hf := Lib.hid hf
  have hpw := Lib.hid hpw
  unfold CovRet
  rw [hm.out]
  obtain ⟨n, hn⟩ : ∃ n, Hid (L.length = n) := ⟨_, rfl⟩
  rw [hn.out] at hlen
  obtain ⟨en, hen⟩ : ∃ n : Int, Hid ((if m then 0 else 110) = n) := ⟨_, rfl⟩
  rw [hen.out] at H1
  have hMlt := hB.lt
  clear hcn
  go_enter Try.func24, Try.ntmps24
  go_wp2_with fail
  refine (H1.out _).mono ?_
  rintro e w1 ⟨v, rfl, ⟨ao, cap, rfl, hv⟩, h1⟩
  rw [hn.out] at hv ⊢
  replace hv := Lib.hid hv
  have hl1 : Later w w1 := ((((Later.refl _).alloc _).alloc _).alloc _).trans h1
  replace hB : Board w1 M f := hB.later hl1
  clear h1
  go_wp2_with fail
  go_loopw [22] (fun y wr => ∃ i : Nat, i ≤ n ∧ y = .int .i64 i ∧ Board wr M (fun k => f k + met L i k) ∧ w1.grownBy wr (some M)) (fun y _ => (5000 - intOf y).toNat)
  case atStart => exact ⟨0, by omega, rfl, hB.ext (fun k _ => by rw [met_zero]; omega), World.grownBy.refl _ _⟩
  case round =>
    obtain ⟨i, hi, rfl, hb, hg⟩ := hrel
    obtain ⟨wi, rfl⟩ : ∃ wi : World, wi = wr := ⟨_, rfl⟩
    by_cases hin : i < n
    · obtain ⟨g, rfl, a0, a1, a2⟩ := hv.out i hin
      rw [Nat.mul_comm 3 i] at a0 a1 a2
      have hgM : g ≠ M := by
        rintro rfl
        by_cases hlt : i * 3 + 2 < 4096
        · rw [hB.cell hlt] at a2; cases a2
        · rw [hB.none (by omega)] at a2; cases a2
      rcases hq : L.getD i (0, 0, 0) with ⟨x, y, z⟩
      have hqm : (x, y, z) ∈ L := by
        rw [← hq, List.getD_eq_getElem?_getD, List.getElem?_eq_getElem (by rw [hn.out]; exact hin)]; exact List.getElem_mem _
      obtain ⟨b1, b2, b3, b4⟩ := hbd.out _ hqm
      rw [hq] at a0 a1
      obtain ⟨xn, rfl⟩ : ∃ k : Nat, x = k := ⟨x.toNat, by show x = _; have : 0 ≤ x := b1; omega⟩
      obtain ⟨yn, rfl⟩ : ∃ k : Nat, y = k := ⟨y.toNat, by show y = _; have : 0 ≤ y := b3; omega⟩
      dsimp only at a0 a1 b1 b2 b3 b4
      replace b2 : xn ≤ 63 := by omega
      replace b4 : yn ≤ 63 := by omega
      clear b1 b3 a2 hqm
      replace a0 := grown_cell hg a0 hgM
      replace a1 := grown_cell hg a1 hgM
      have hsucc := met_succ hpw.out (i := i) (by rw [hn.out]; exact hin)
      rw [hq] at hsucc
      have hpos : pos3 ((xn : Int), (yn : Int), z) = ((yn * 64 + xn : Nat) : Int) := by unfold pos3; simp
      rw [hpos] at hsucc
      replace hsucc := Lib.hid hsucc
      have c0 := hb.cell (k := yn * 64 + xn) (by omega)
      have f0 := hb.frozen (yn * 64 + xn)
      have hv0 : 0 ≤ f (yn * 64 + xn) + met L i (yn * 64 + xn) ∧ f (yn * 64 + xn) + met L i (yn * 64 + xn) ≤ 101 := by have := hf.out (yn * 64 + xn); have := met_01 L i (yn * 64 + xn); omega
      obtain ⟨u, hu⟩ : ∃ u, Hid (f (yn * 64 + xn) + met L i (yn * 64 + xn) = u) := ⟨_, rfl⟩
      have c0' : wi.cell? ⟨M, yn * 64 + xn, none⟩ = some (.int .i64 u) := by rw [← hu.out]; exact c0
      rw [hu.out] at hv0
      have hwu : IntKind.i64.wrap (u + 1) = u + 1 := by rw [IntKind.wrap_i64]; omega
      have hwu2 : wrap64 (u + 1) = u + 1 := w64 (by omega) (by omega)
      clear c0
      go_upto_region 7 with fail
      go_region
      go_wp2_with fail
      go_roundw
      case rel =>
        refine ⟨i + 1, by omega, by go_num, ?_, ?_⟩
        · refine BoardN.ext (BoardN.set hb (k := yn * 64 + xn) (by omega) (u + 1)) (fun k hk => ?_)
          rw [hsucc.out k]
          by_cases e : k = yn * 64 + xn
          · subst e; rw [if_pos rfl, if_pos rfl, ← hu.out]; omega
          · rw [if_neg e, if_neg (by omega)]
        · have hs := grownBy_set wi M (yn * 64 + xn) (.int .i64 (u + 1))
          exact grown_but (grown_but hg hs (fun r e => .inl (Option.some.inj e).symm)) (row := none) ⟨rfl, rfl, rfl, Nat.le_refl _, fun _ _ _ => rfl⟩ (fun r e => by cases e)
      case measure => simp [intOf]; omega
    · obtain rfl : i = n := by omega
      obtain rfl : (en == 0) = m := by rw [← hen.out]; cases m <;> rfl
      go_wp2_with fail
      go_ret
      exact ⟨rfl, hb.ext (fun k hk => by rw [← hfin.out k hk, hn.out]), grown_but (grown_some hl1.grown) hg (fun r e => .inl (Option.some.inj e).symm)⟩
end Go.Proofs.Ytmpnojgciaoghaa
