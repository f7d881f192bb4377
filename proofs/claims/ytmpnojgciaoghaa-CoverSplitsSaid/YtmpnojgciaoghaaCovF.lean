/-
  Chapter 11: the pixels about a triangle: the iterator.
-/
import Derived.RangeFuncNested
import Derived.RangeFuncBound
import Derived.RangeFuncCalls
import Derived.RangeFuncLeaves
import Derived.RangeFuncBox
import Derived.Shelf.Abstract
import Derived.WalkKit
import Derived.OwnWalkIn
import Derived.TacticsInMore
import Derived.LoopNIn
import Derived.LoopIn
import Derived.Maps.AppendAt
import Derived.Test.YtmpnojgciaoghaaBox
import Derived.Test.YtmpnojgciaoghaaCovE
import Derived.Test.YtmpnojgciaoghaaCovQ
import Derived.Test.YtmpnojgciaoghaaCovR
import Derived.Deep.DeepCutAuto
namespace Go.Proofs.Ytmpnojgciaoghaa
open Go.RowKit Go.Shelf
set_option linter.unusedVariables false
set_option linter.unusedSimpArgs false
attribute [local go_sem] Oper.semAt_some

/-- The least and the greatest of three, and where a row of pixels begins, as the machine reckons them. -/
def mn3 (a b c : Int) : Int := if c < if b < a then b else a then c else if b < a then b else a
def mx3 (a b c : Int) : Int := if (if a < b then b else a) < c then c else if a < b then b else a
def lo3 (a b c : Int) : Int := IntKind.i64.wrap ((if mn3 a b c < 0 then 0 else mn3 a b c).tdiv 16)
theorem mx3_bd {a b c : Int} (ha : -4096 ≤ a ∧ a ≤ 4096) (hb : -4096 ≤ b ∧ b ≤ 4096) (hc : -4096 ≤ c ∧ c ≤ 4096) : -4096 ≤ mx3 a b c ∧ mx3 a b c ≤ 4096 ∧ a ≤ mx3 a b c ∧ b ≤ mx3 a b c ∧ c ≤ mx3 a b c := by
  unfold mx3; omega
theorem lo3_bd {a b c : Int} (ha : -4096 ≤ a ∧ a ≤ 4096) (hb : -4096 ≤ b ∧ b ≤ 4096) (hc : -4096 ≤ c ∧ c ≤ 4096) : 0 ≤ lo3 a b c ∧ lo3 a b c ≤ 256 ∧ (∀ x : Int, 0 ≤ x → (a ≤ 16 * x + 8 ∨ b ≤ 16 * x + 8 ∨ c ≤ 16 * x + 8) → lo3 a b c ≤ x) := by
  have hm : -4096 ≤ mn3 a b c ∧ mn3 a b c ≤ 4096 ∧ mn3 a b c ≤ a ∧ mn3 a b c ≤ b ∧ mn3 a b c ≤ c := by unfold mn3; omega
  unfold lo3
  generalize mn3 a b c = m at hm
  rw [IntKind.wrap_i64, Int.tdiv_eq_ediv_of_nonneg (by omega)]
  refine ⟨by omega, by omega, fun x hx h => by omega⟩

abbrev encp (p : Int × Int) : Array Value := #[.int .i64 p.1, .int .i64 p.2]

/-- Where the rows, and the pixels of one, end. -/
def gX (w : Int) (a b c : C3) : Int := min w ((mx3 a.x b.x c.x + 15) / 16)
def eY (h : Int) (a b c : C3) : Int := min h ((mx3 a.y b.y c.y + 15) / 16)

set_option maxRecDepth 100000 in
set_option maxHeartbeats 2000000 in
theorem pixels1_in (l T Hb Wb n₀ o : Nat) (a b c : C3) (h w : Int) (J Jx : List (Int × Int) → World → Prop) (W : World) (ha : MayP a) (hb : MayP b) (hc : MayP c) (hh : 1 ≤ h ∧ h ≤ 64) (hw : 1 ≤ w ∧ w ≤ 64)
    (hT : T < n₀ ∧ T ≠ o) (hHb : Hb < n₀ ∧ Hb ≠ o) (hWb : Wb < n₀ ∧ Wb ≠ o) (hJ : AbidesFrom W.heap.size J)
    (hY : ∀ pre x W1, (0 ≤ x.1 ∧ x.1 ≤ 63 ∧ 0 ≤ x.2 ∧ x.2 ≤ 63) → J pre W1 → pre.length < 4096 → YieldAt Fence.wide 2 Try.prog l (encp x) W1 fun e W' =>
      (e = .returned (.bool true) ∧ J (pre ++ [x]) W' ∧ Apart n₀ o W1 W') ∨ (e = .returned (.bool false) ∧ Jx (pre ++ [x]) W'))
    (t0 : W.cell? ⟨T, 0, none⟩ = some (.int .i64 a.x)) (t1 : W.cell? ⟨T, 1, none⟩ = some (.int .i64 a.y)) (t3 : W.cell? ⟨T, 3, none⟩ = some (.int .i64 b.x)) (t4 : W.cell? ⟨T, 4, none⟩ = some (.int .i64 b.y))
    (t6 : W.cell? ⟨T, 6, none⟩ = some (.int .i64 c.x)) (t7 : W.cell? ⟨T, 7, none⟩ = some (.int .i64 c.y)) (th : W.cell? ⟨Hb, 0, none⟩ = some (.int .i64 h)) (tw : W.cell? ⟨Wb, 0, none⟩ = some (.int .i64 w)) (h0 : J [] W) :
    CallsIn Fence.wide 3 Try.prog 36 #[.func (.yield l) #[] #[], .pointer (some ⟨T, 0, none⟩), .pointer (some ⟨Hb, 0, none⟩), .pointer (some ⟨Wb, 0, none⟩)] W fun e W' =>
      (∃ v, e = .returned v) ∧ ((∃ xs, xs = pix (lo3 a.x b.x c.x) (gX w a b c) (lo3 a.y b.y c.y) (eY h a b c) ∧ J xs W') ∨ (∃ pre, True ∧ Jx pre W')) := by
  unfold MayP at ha hb hc
  obtain ⟨ha1, ha2, ha3, ha4, _⟩ := ha
  obtain ⟨hb1, hb2, hb3, hb4, _⟩ := hb
  obtain ⟨hc1, hc2, hc3, hc4, _⟩ := hc
  have bX := lo3_bd (a := a.x) (b := b.x) (c := c.x) ⟨ha1, ha2⟩ ⟨hb1, hb2⟩ ⟨hc1, hc2⟩
  have bY := lo3_bd (a := a.y) (b := b.y) (c := c.y) ⟨ha3, ha4⟩ ⟨hb3, hb4⟩ ⟨hc3, hc4⟩
  have mX := mx3_bd (a := a.x) (b := b.x) (c := c.x) ⟨ha1, ha2⟩ ⟨hb1, hb2⟩ ⟨hc1, hc2⟩
  have mY := mx3_bd (a := a.y) (b := b.y) (c := c.y) ⟨ha3, ha4⟩ ⟨hb3, hb4⟩ ⟨hc3, hc4⟩
  obtain ⟨f, hf⟩ : ∃ f, Hid (lo3 a.x b.x c.x = f) := ⟨_, rfl⟩
  obtain ⟨t, ht⟩ : ∃ f, Hid (lo3 a.y b.y c.y = f) := ⟨_, rfl⟩
  obtain ⟨p, hp⟩ : ∃ f, Hid (mx3 a.x b.x c.x = f) := ⟨_, rfl⟩
  obtain ⟨q, hq⟩ : ∃ f, Hid (mx3 a.y b.y c.y = f) := ⟨_, rfl⟩
  unfold gX eY
  rw [hf.out, ht.out, hp.out, hq.out]
  rw [hf.out] at bX; rw [ht.out] at bY; rw [hp.out] at mX; rw [hq.out] at mY
  obtain ⟨f0, f1, _⟩ := bX
  obtain ⟨g0, g1, _⟩ := bY
  obtain ⟨p0, p1, _⟩ := mX
  obtain ⟨q0, q1, _⟩ := mY
  obtain ⟨g, hg⟩ : ∃ g, Hid (min w ((p + 15) / 16) = g) := ⟨_, rfl⟩
  obtain ⟨e, he⟩ : ∃ g, Hid (min h ((q + 15) / 16) = g) := ⟨_, rfl⟩
  rw [hg.out, he.out]
  have Hg : Hid (∀ x : Int, (x < w ∧ 16 * x < p) ↔ x < g) := by intro x; rw [← hg.out]; omega
  have He : Hid (∀ y : Int, (y < h ∧ 16 * y < q) ↔ y < e) := by intro y; rw [← he.out]; omega
  have hg64 : g ≤ 64 := by rw [← hg.out]; omega
  have he64 : e ≤ 64 := by rw [← he.out]; omega
  clear hg he
  clear ha1 ha2 ha3 ha4 hb1 hb2 hb3 hb4 hc1 hc2 hc3 hc4
  refine callsIn_of_wp Try.func36 rfl trivial ?_ rfl
  simp only [Try.ntmps36, List.size_toArray, List.length_cons, List.length_nil, Nat.reduceAdd, Nat.reduceSub, Array.replicate_succ, Array.replicate_zero, List.push_toArray, List.append_toArray, List.nil_append, List.cons_append]
  refine wpIn_wide.2 ?_
  go_upto_region 0 with fail
  go_cut [5, 6] (fun u v wx => u = .int .i64 f ∧ v = .int .i64 p ∧ wx = W.drew)
  case first =>
    go_region_held3 (fun W => W.cell? ⟨T, 0, none⟩ = some (.int .i64 a.x) ∧ W.cell? ⟨T, 3, none⟩ = some (.int .i64 b.x) ∧ W.cell? ⟨T, 6, none⟩ = some (.int .i64 c.x)) ((go_split_ands; (repeat' apply And.intro) <;> first | assumption | exact (Later.refl _).drew.cell (by assumption) | exact ((Later.refl _).alloc _).cell (by assumption) | exact cell_setCell_o (by assumption) (by omega) | exact Later.cell t0 (by assumption))) (fail)
    all_goals (rename_i JJ KK hj hk hh; refine hk _ _ (Met.intro (hj _ _ ?_)); (repeat apply Exists.intro); exact ⟨⟨int_v hf.out, int_v hp.out, rfl⟩, rfl⟩)
  case rest =>
    obtain ⟨rfl, rfl, rfl⟩ := hcut
    go_upto_region 1 with fail
    go_cut [7, 8] (fun u v wx => u = .int .i64 t ∧ v = .int .i64 q ∧ wx = W.drew.drew)
    case first =>
      go_region_held3 (fun W => W.cell? ⟨T, 1, none⟩ = some (.int .i64 a.y) ∧ W.cell? ⟨T, 4, none⟩ = some (.int .i64 b.y) ∧ W.cell? ⟨T, 7, none⟩ = some (.int .i64 c.y)) ((go_split_ands; (repeat' apply And.intro) <;> first | assumption | exact (Later.refl _).drew.cell (by assumption) | exact ((Later.refl _).alloc _).cell (by assumption) | exact cell_setCell_o (by assumption) (by omega) | exact Later.cell t0 (by assumption))) (fail)
      all_goals (rename_i JJ KK hj hk hh; refine hk _ _ (Met.intro (hj _ _ ?_)); (repeat apply Exists.intro); exact ⟨⟨int_v ht.out, int_v hq.out, rfl⟩, rfl⟩)
    case rest =>
      obtain ⟨rfl, rfl, rfl⟩ := hcut
      have hJ0 : J [] W.drew.drew := hJ [] _ _ none h0 ⟨rfl, rfl, rfl, Nat.le_refl _, fun _ _ _ => rfl⟩ (fun _ e => by cases e)
      obtain ⟨W0, hW0⟩ : ∃ X, X = W.drew.drew := ⟨_, rfl⟩
      have th' : W0.cell? ⟨Hb, 0, none⟩ = some (.int .i64 h) := by rw [hW0]; exact th
      have tw' : W0.cell? ⟨Wb, 0, none⟩ = some (.int .i64 w) := by rw [hW0]; exact tw
      rw [← hW0] at hJ0 ⊢
      clear t0 t1 t3 t4 t6 t7 th tw h0 hJ hW0
      go_wp2_with fail
      go_loopw [9] (fun y wr => ∃ k : Int, t ≤ k ∧ k ≤ max e t ∧ y = .int .i64 k ∧ J (pix f g t k) wr ∧ Apart n₀ o W0 wr) (fun y _ => (300 - intOf y).toNat)
      case atStart => exact ⟨t, Int.le_refl _, by omega, rfl, by rw [pix_nil (Int.le_refl _)]; exact hJ0, Apart.refl _ _ _⟩
      case round =>
        obtain ⟨k, hk1, hk2, rfl, hJk, hbk⟩ := hrel
        obtain ⟨wo, rfl⟩ : ∃ wo : World, wo = wr := ⟨_, rfl⟩
        have th := (hbk.cell (p := ⟨Hb, 0, none⟩) hHb).trans th'
        have hkb : k ≤ 256 := by omega
        by_cases hy : k < h ∧ 16 * k < q
        · obtain ⟨hy1, hy2⟩ := hy
          have hke := (He.out k).1 ⟨hy1, hy2⟩
          go_wp2_with fail
          go_loopw [10] (fun x wr => ∃ j : Int, f ≤ j ∧ j ≤ max g f ∧ x = .int .i64 j ∧ J (pix f g t k ++ prow f j k) wr ∧ Apart n₀ o W0 wr) (fun x _ => (300 - intOf x).toNat)
          case atStart => exact ⟨f, Int.le_refl _, by omega, rfl, by rw [show prow f f k = [] from by unfold prow; rw [irange_nil (Int.le_refl _)]; rfl, List.append_nil]; exact hJk, hbk⟩
          case round =>
            obtain ⟨j, hj1, hj2, rfl, hJj, hbj⟩ := hrel
            obtain ⟨wi, rfl⟩ : ∃ wi : World, wi = wr := ⟨_, rfl⟩
            have tw := (hbj.cell (p := ⟨Wb, 0, none⟩) hWb).trans tw'
            have hjb : j ≤ 256 := by omega
            by_cases hx : j < w ∧ 16 * j < p
            · obtain ⟨hx1, hx2⟩ := hx
              have hjg := (Hg.out j).1 ⟨hx1, hx2⟩
              have hlen : (pix f g t k ++ prow f j k).length < 4096 := by
                rw [List.length_append, pix_length, prow_length]
                have := Nat.mul_le_mul (show (k - t).toNat ≤ 63 by omega) (show (g - f).toNat ≤ 64 by omega)
                omega
              obtain ⟨fn, tmps, assign, body, hy, hR⟩ := hY _ (j, k) wi ⟨by show 0 ≤ j; omega, by show j ≤ 63; omega, by show 0 ≤ k; omega, by show k ≤ 63; omega⟩ hJj hlen
              clear hlen
              dsimp only [encp] at hy
              go_upto_region 8 with fail
              refine (wpIn_wide (n := 3)).1 ?_
              gi_wp2
              refine hR.mono ?_
              rintro e' W3 (⟨rfl, hJ3, hk3⟩ | ⟨rfl, hJx3⟩)
              · gi_wp2
                go_wp2_with fail
                go_roundw
                case rel => exact ⟨j + 1, by omega, by omega, by go_num, by rw [prow_succ hj1, ← List.append_assoc]; exact hJ3, hbj.trans hk3⟩
                case measure => simp [intOf]; omega
              · gi_wp2
                go_wp2_with fail
                refine bodyPost_ret (results_none rfl _ _ _) rfl ?_
                first | exact ⟨⟨_, rfl⟩, .inr ⟨_, trivial, hJx3⟩⟩ | exact ⟨⟨_, rfl⟩, .inr ⟨_, hJx3⟩⟩
            · have hgj : g ≤ j := by
                have := mt (Hg.out j).2
                omega
              have hrow : J (pix f g t (k + 1)) wi := by
                rw [pix_succ hk1]
                rcases (show j = g ∨ (j = f ∧ g ≤ f) by omega) with rfl | ⟨rfl, hgf⟩
                · exact hJj
                · rw [show prow j g k = prow j j k from by unfold prow; rw [irange_nil hgf, irange_nil (Int.le_refl _)]]; exact hJj
              by_cases hx1 : j < w
              · have hx2 : decide (16 * j < p) = false := by simp; omega
                go_wp2_with fail
                go_roundw
                case rel => exact ⟨k + 1, by omega, by omega, by go_num, hrow, hbj⟩
                case measure => simp [intOf]; omega
              · go_wp2_with fail
                go_roundw
                case rel => exact ⟨k + 1, by omega, by omega, by go_num, hrow, hbj⟩
                case measure => simp [intOf]; omega
        · have hke : e ≤ k := by
            have := mt (He.out k).2
            omega
          have hfin : J (pix f g t e) wo := by
            rcases (show k = e ∨ (k = t ∧ e ≤ t) by omega) with rfl | ⟨rfl, het⟩
            · exact hJk
            · rw [pix_nil het]; rw [pix_nil (Int.le_refl _)] at hJk; exact hJk
          by_cases hy1 : k < h
          · have hy2 : decide (16 * k < q) = false := by simp; omega
            go_wp2_with fail
            go_end0
            first | exact ⟨⟨_, rfl⟩, .inl ⟨_, rfl, hfin⟩⟩ | exact ⟨⟨_, rfl⟩, .inl hfin⟩
          · go_wp2_with fail
            go_end0
            first | exact ⟨⟨_, rfl⟩, .inl ⟨_, rfl, hfin⟩⟩ | exact ⟨⟨_, rfl⟩, .inl hfin⟩
end Go.Proofs.Ytmpnojgciaoghaa
