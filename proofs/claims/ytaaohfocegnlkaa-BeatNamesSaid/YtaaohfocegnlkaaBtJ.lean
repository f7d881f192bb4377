/-
  Chapter 23's laws: a watch of six nodes behind calls.
-/
import Derived.Test.YtaaohfocegnlkaaBtI
namespace Go.Proofs.Ytaaohfocegnlkaa
open Go.RowKit Go.Shelf
set_option linter.unusedVariables false
set_option linter.unusedSimpArgs false
attribute [local go_sem] Oper.semAt_some

/-- A slice of calls: what it holds. -/
def OpsV (w : World) (v : Value) (L : List (Int × Int)) : Prop :=
  ∃ ao cap, v = .slice ao L.length cap ∧ ∀ k, k < L.length → ∃ g o, ao = some ⟨g, o, none⟩ ∧ w.cell? ⟨g, o + k * 2, none⟩ = some (.int .i64 (L.getD k (0, 0)).1) ∧ w.cell? ⟨g, o + k * 2 + 1, none⟩ = some (.int .i64 (L.getD k (0, 0)).2)
theorem OpsV.later {w w' : World} {v : Value} {L : List (Int × Int)} (h : OpsV w v L) (hl : Later w w') : OpsV w' v L := by
  obtain ⟨ao, cap, rfl, hv⟩ := h
  exact ⟨ao, cap, rfl, fun k hk => by obtain ⟨g, o, e, h1, h2⟩ := hv k hk; exact ⟨g, o, e, hl.cell h1, hl.cell h2⟩⟩
def stepG (g : Nat → Int) (x : Int × Int) : Nat → Int := if x.1 = 0 then tk g else if x.1 = 1 then hdG g x.2 else g
def madeG (p : Int) (L : List (Int × Int)) : Nat → Int := L.foldl stepG (g0 2 6 (4 + p % 20))
theorem hdG_lo (g : Nat → Int) (n : Int) {k : Nat} (hk : k < 4) : hdG g n k = g k := by
  unfold hdG
  split
  · dsimp only; rw [if_neg (by omega)]
  · rfl
theorem stepG_lo (g : Nat → Int) (x : Int × Int) {k : Nat} (hk : k < 3) : stepG g x k = g k := by
  unfold stepG
  split
  · unfold tk; rw [if_neg (by omega)]
  · split
    · exact hdG_lo g x.2 (by omega)
    · rfl
theorem stepG_3 (g : Nat → Int) (x : Int × Int) : g 3 ≤ stepG g x 3 ∧ stepG g x 3 ≤ g 3 + 1 := by
  unfold stepG
  split
  · unfold tk; rw [if_pos rfl]; omega
  · split
    · rw [hdG_lo g x.2 (by omega)]; omega
    · omega
theorem foldG_lo (L : List (Int × Int)) : ∀ (g : Nat → Int) {k : Nat} (hk : k < 3), L.foldl stepG g k = g k := by
  induction L with
  | nil => intro g k hk; rfl
  | cons x L ih => intro g k hk; rw [List.foldl_cons, ih _ hk, stepG_lo g x hk]
theorem foldG_3 (L : List (Int × Int)) : ∀ (g : Nat → Int), g 3 ≤ L.foldl stepG g 3 ∧ L.foldl stepG g 3 ≤ g 3 + L.length := by
  induction L with
  | nil => intro g; simp
  | cons x L ih =>
    intro g
    rw [List.foldl_cons]
    have h1 := ih (stepG g x)
    have h2 := stepG_3 g x
    rw [List.length_cons]; omega
theorem take_snoc {L : List (Int × Int)} {i : Nat} (hi : i < L.length) : L.take (i + 1) = L.take i ++ [L.getD i (0, 0)] := by
  rw [List.take_add_one, List.getD_eq_getElem?_getD, List.getElem?_eq_getElem hi]; rfl

set_option maxRecDepth 100000 in
set_option maxHeartbeats 2000000 in
theorem made_any (p : Int) (L : List (Int × Int)) (v : Value) (W : World) (hp : 0 ≤ p ∧ p ≤ 255) (hL : L.length ≤ 300) (hv : OpsV W v L) :
    Calls Try.prog 8 #[.int .u8 p, v] W fun e w' => ∃ b, e = .returned (wp b) ∧ WB w' b (madeG p L) ∧ W.heap.size ≤ b ∧ Later W w' := by
  obtain ⟨gi, hgi⟩ : ∃ g, g0 2 6 (4 + p % 20) = g := ⟨_, rfl⟩
  have i1 : gi 1 = 6 := by rw [← hgi]; rfl
  have i3 : gi 3 = 0 := by rw [← hgi]; rfl
  have HN := Lib.hid (fun w => new_ok 2 6 (4 + p % 20) w (by decide) (by decide) (by decide) (by decide) (by omega) (by omega))
  rw [hgi] at HN
  unfold madeG
  rw [hgi]
  obtain ⟨ao, cap, rfl, hc⟩ := hv
  obtain ⟨n, hn⟩ : ∃ n, Hid (L.length = n) := ⟨_, rfl⟩
  rw [hn.out] at hL hc ⊢
  have hc := Lib.hid hc
  have hlo : Hid (∀ i, (L.take i).foldl stepG gi 1 = 6 ∧ 0 ≤ (L.take i).foldl stepG gi 3 ∧ (L.take i).foldl stepG gi 3 ≤ 300) := fun i => by
    have h1 := foldG_lo (L.take i) gi (k := 1) (by omega)
    have h2 := foldG_3 (L.take i) gi
    rw [List.length_take, hn.out] at h2
    omega
  have hp20 : 0 ≤ p % 20 ∧ p % 20 ≤ 19 := by omega
  clear hgi
  go_enter Try.func8, Try.ntmps8
  go_wp2_with fail
  refine (HN.out _).mono ?_
  rintro e w1 ⟨b, rfl, hw, hb, hl⟩
  go_wp2_with fail
  go_loopw [18] (fun y wr => ∃ i : Nat, i ≤ n ∧ y = .int .i64 i ∧ WB wr b ((L.take i).foldl stepG gi) ∧ w1.grownBy wr (some b)) (fun y _ => (5000 - intOf y).toNat)
  case atStart => exact ⟨0, by omega, rfl, hw, World.grownBy.refl _ _⟩
  case round =>
    obtain ⟨i, hi, rfl, hwr, hG⟩ := hrel
    obtain ⟨wo, rfl⟩ : ∃ wo : World, wo = wr := ⟨_, rfl⟩
    have hlW := grown_later hl hG hb
    by_cases hin : i < n
    · obtain ⟨g, o, rfl, ck, cn⟩ := hc.out i hin
      replace ck := hlW.cell ck
      replace cn := hlW.cell cn
      have hsn : (L.take (i + 1)).foldl stepG gi = stepG ((L.take i).foldl stepG gi) (L.getD i (0, 0)) := by
        rw [take_snoc (by rw [hn.out]; exact hin), List.foldl_append]; rfl
      obtain ⟨q1, q2, q3⟩ := hlo.out i
      obtain ⟨gg, hgg⟩ : ∃ g, (L.take i).foldl stepG gi = g := ⟨_, rfl⟩
      rw [hgg] at hwr hsn q1 q2 q3
      rcases hx : L.getD i (0, 0) with ⟨kd, nd⟩
      rw [hx] at ck cn hsn
      dsimp only at ck cn
      clear hgg hx
      by_cases h0 : kd = 0
      · have e1 : stepG gg (kd, nd) = tk gg := by unfold stepG; rw [if_pos h0]
        rw [e1] at hsn
        subst h0
        go_wp2_with fail
        refine (tick_any b gg _ hwr (by omega) (by omega)).mono ?_
        rintro e w2 ⟨v2, rfl, _, hw2, hg2⟩
        go_wp2_with fail
        go_roundw
        case rel => exact ⟨i + 1, by omega, by go_num, by rw [hsn]; exact hw2, grown_but hG hg2 (fun r e => .inl (Option.some.inj e).symm)⟩
        case measure => simp [intOf]; omega
      · by_cases h1 : kd = 1
        · have e1 : stepG gg (kd, nd) = hdG gg nd := by unfold stepG; rw [if_neg h0, if_pos h1]
          rw [e1] at hsn
          subst h1
          go_wp2_with fail
          refine (heard_any b gg nd _ hwr (by omega)).mono ?_
          rintro e w2 ⟨rfl, hw2, hg2⟩
          go_wp2_with fail
          go_roundw
          case rel => exact ⟨i + 1, by omega, by go_num, by rw [hsn]; exact hw2, grown_but hG hg2 (fun r e => .inl (Option.some.inj e).symm)⟩
          case measure => simp [intOf]; omega
        · have e1 : stepG gg (kd, nd) = gg := by unfold stepG; rw [if_neg h0, if_neg h1]
          rw [e1] at hsn
          have b0 : (kd == 0) = false := by simp [h0]
          have b1 : (kd == 1) = false := by simp [h1]
          go_wp2_with fail
          go_roundw
          case rel => exact ⟨i + 1, by omega, by go_num, by rw [hsn]; exact hwr, hG⟩
          case measure => simp [intOf]; omega
    · obtain rfl : i = n := by omega
      rw [List.take_of_length_le (Nat.le_of_eq hn.out)] at hwr
      go_wp2_with fail
      go_ret
      exact ⟨b, rfl, hwr, hb, hlW⟩
end Go.Proofs.Ytaaohfocegnlkaa
