/-
  Chapter 11, plain law: what is moved by whole pixels covers what it covered, moved by these.
-/
import Derived.Test.YtmpnojgciaoghaaCovX
import Derived.Test.YtmpnojgciaoghaaCovL4
namespace Go.Proofs.Ytmpnojgciaoghaa
open Go.RowKit Go.Shelf
set_option linter.unusedVariables false
set_option linter.unusedSimpArgs false

def mv (x y : Int) (c : C3) : C3 := ⟨c.x + 16 * x, c.y + 16 * y, c.z⟩
def sh (x y : Int) (q : Q3) : Q3 := (q.1 + x, q.2.1 + y, q.2.2)
def inB (x y : Int) (q : Q3) : Bool := decide (x ≤ q.1 ∧ y ≤ q.2.1 ∧ q.1 < x + 32 ∧ q.2.1 < y + 32)

theorem sd_mv (x y : Int) (a b : C3) (X Y : Int) : sd (mv x y a) (mv x y b) X Y = sd a b (X - 16 * x) (Y - 16 * y) := by unfold sd mv; dsimp only; grind
theorem inE_mv (x y : Int) (a b : C3) (X Y : Int) : inE (mv x y a) (mv x y b) X Y ↔ inE a b (X - 16 * x) (Y - 16 * y) := by
  unfold inE; rw [sd_mv]; unfold mv; dsimp only; omega
theorem area_mv (x y : Int) (a b c : C3) : sd (mv x y a) (mv x y b) (mv x y c).x (mv x y c).y = sd a b c.x c.y := by unfold sd mv; dsimp only; grind
theorem cov_mv (x y : Int) (a b c : C3) (X Y : Int) : Cov (mv x y a) (mv x y b) (mv x y c) X Y ↔ Cov a b c (X - 16 * x) (Y - 16 * y) := by
  unfold Cov CovP; rw [area_mv, area_mv, inE_mv, inE_mv, inE_mv, inE_mv, inE_mv, inE_mv]
theorem dep_mv (x y : Int) (a b c : C3) (X Y : Int) : Dep (mv x y a) (mv x y b) (mv x y c) X Y = Dep a b c (X - 16 * x) (Y - 16 * y) := by
  unfold Dep depN; rw [area_mv, sd_mv, sd_mv, sd_mv]; rfl

theorem pixw_pairwise {w h : Int} (hw : w ≤ 64) : (pix 0 w 0 h).Pairwise (fun p q => pos p < pos q) := by
  unfold pix
  rw [List.pairwise_flatMap]
  constructor
  · intro y hy
    unfold prow
    rw [List.pairwise_map]
    exact (irange_pairwise 0 w).imp (by intro a b h; simp only [pos]; omega)
  · refine (irange_pairwise 0 h).imp ?_
    intro y1 y2 h p hp q hq
    rw [mem_prow] at hp hq
    unfold pos
    omega
theorem CL_pairwise {w h : Int} (hw : w ≤ 64) (a b c : C3) : (CL a b c w h).Pairwise (fun p q => pos3 p < pos3 q) := by
  rw [CL_eq]
  split
  · rw [List.pairwise_filterMap]
    refine (pixw_pairwise hw).imp ?_
    intro p q h p' hp q' hq
    have h1 := cellC_pos hp
    have h2 := cellC_pos hq
    unfold pos at h; unfold pos3
    rw [h1.1, h1.2.1, h2.1, h2.2.1]; exact h
  · exact List.Pairwise.nil
theorem CL_mem {a b c : C3} {w h : Int} (hs : sizeOk w h = true) (hm : may3 a b c = true) (q : Q3) :
    q ∈ CL a b c w h ↔ (0 ≤ q.1 ∧ q.1 < w ∧ 0 ≤ q.2.1 ∧ q.2.1 < h ∧ Cov a b c (16 * q.1 + 8) (16 * q.2.1 + 8) ∧ q.2.2 = Dep a b c (16 * q.1 + 8) (16 * q.2.1 + 8)) := by
  rw [CL_eq, hs, hm]
  show q ∈ List.filterMap _ _ ↔ _
  rw [List.mem_filterMap]
  constructor
  · rintro ⟨p, hp, hq⟩
    rw [mem_pix] at hp
    unfold cellC at hq
    by_cases hc : Cov a b c (16 * p.1 + 8) (16 * p.2 + 8)
    · rw [if_pos hc] at hq
      obtain rfl := Option.some.inj hq
      exact ⟨hp.1, hp.2.1, hp.2.2.1, hp.2.2.2, hc, rfl⟩
    · rw [if_neg hc] at hq; cases hq
  · rintro ⟨h1, h2, h3, h4, hc, hz⟩
    refine ⟨(q.1, q.2.1), mem_pix.2 ⟨h1, h2, h3, h4⟩, ?_⟩
    unfold cellC
    dsimp only
    rw [if_pos hc, ← hz]

theorem eq_of_sorted {α : Type} (f : α → Int) : ∀ {l m : List α}, l.Pairwise (fun a b => f a < f b) → m.Pairwise (fun a b => f a < f b) → (∀ a, a ∈ l ↔ a ∈ m) → l = m
  | [], [], _, _, _ => rfl
  | [], b :: m, _, _, h => absurd ((h b).2 (by simp)) (by simp)
  | a :: l, [], _, _, h => absurd ((h a).1 (by simp)) (by simp)
  | a :: l, b :: m, hl, hm, h => by
    rw [List.pairwise_cons] at hl hm
    have hab : a = b := by
      have h1 := (h a).1 (by simp)
      have h2 := (h b).2 (by simp)
      rw [List.mem_cons] at h1 h2
      rcases h1 with h1 | h1
      · exact h1
      rcases h2 with h2 | h2
      · exact h2.symm
      have := hm.1 a h1
      have := hl.1 b h2
      omega
    subst hab
    congr 1
    refine eq_of_sorted f hl.2 hm.2 (fun c => ?_)
    have hc := h c
    rw [List.mem_cons, List.mem_cons] at hc
    constructor
    · intro k
      rcases hc.1 (.inr k) with rfl | k2
      · have := hl.1 c k; omega
      · exact k2
    · intro k
      rcases hc.2 (.inr k) with rfl | k2
      · have := hm.1 c k; omega
      · exact k2

theorem moves_list {a b c : C3} {x y : Int} (hx : 0 ≤ x ∧ x ≤ 31) (hy : 0 ≤ y ∧ y ≤ 31) (hm : may3 a b c = true) (hm2 : may3 (mv x y a) (mv x y b) (mv x y c) = true) :
    (CL (mv x y a) (mv x y b) (mv x y c) 64 64).filter (inB x y) = (CL a b c 32 32).map (sh x y) := by
  refine eq_of_sorted pos3 ((CL_pairwise (by omega) _ _ _).filter _) ?_ ?_
  · rw [List.pairwise_map]
    exact (CL_pairwise (by omega) a b c).imp (by intro p q h; unfold pos3 at h; simp only [pos3, sh]; omega)
  · intro q
    rw [List.mem_filter, CL_mem rfl hm2, List.mem_map]
    constructor
    · rintro ⟨⟨h1, h2, h3, h4, hc, hz⟩, hb⟩
      have hb := of_decide_eq_true hb
      rw [cov_mv] at hc
      rw [dep_mv] at hz
      refine ⟨(q.1 - x, q.2.1 - y, q.2.2), (CL_mem rfl hm _).2 ⟨?_, ?_, ?_, ?_, ?_, ?_⟩, ?_⟩
      · show 0 ≤ q.1 - x; omega
      · show q.1 - x < 32; omega
      · show 0 ≤ q.2.1 - y; omega
      · show q.2.1 - y < 32; omega
      · show Cov a b c (16 * (q.1 - x) + 8) (16 * (q.2.1 - y) + 8)
        rw [show 16 * (q.1 - x) + 8 = 16 * q.1 + 8 - 16 * x by omega, show 16 * (q.2.1 - y) + 8 = 16 * q.2.1 + 8 - 16 * y by omega]; exact hc
      · show q.2.2 = Dep a b c (16 * (q.1 - x) + 8) (16 * (q.2.1 - y) + 8)
        rw [show 16 * (q.1 - x) + 8 = 16 * q.1 + 8 - 16 * x by omega, show 16 * (q.2.1 - y) + 8 = 16 * q.2.1 + 8 - 16 * y by omega]; exact hz
      · unfold sh
        show (q.1 - x + x, q.2.1 - y + y, q.2.2) = q
        rw [Int.sub_add_cancel, Int.sub_add_cancel]
    · rintro ⟨p, hp, rfl⟩
      obtain ⟨h1, h2, h3, h4, hc, hz⟩ := (CL_mem rfl hm _).1 hp
      refine ⟨⟨?_, ?_, ?_, ?_, ?_, ?_⟩, ?_⟩
      · show 0 ≤ p.1 + x; omega
      · show p.1 + x < 64; omega
      · show 0 ≤ p.2.1 + y; omega
      · show p.2.1 + y < 64; omega
      · show Cov _ _ _ (16 * (p.1 + x) + 8) (16 * (p.2.1 + y) + 8)
        rw [cov_mv, show 16 * (p.1 + x) + 8 - 16 * x = 16 * p.1 + 8 by omega, show 16 * (p.2.1 + y) + 8 - 16 * y = 16 * p.2.1 + 8 by omega]; exact hc
      · show p.2.2 = Dep _ _ _ (16 * (p.1 + x) + 8) (16 * (p.2.1 + y) + 8)
        rw [dep_mv, show 16 * (p.1 + x) + 8 - 16 * x = 16 * p.1 + 8 by omega, show 16 * (p.2.1 + y) + 8 - 16 * y = 16 * p.2.1 + 8 by omega]; exact hz
      · refine decide_eq_true ?_
        show x ≤ p.1 + x ∧ y ≤ p.2.1 + y ∧ p.1 + x < x + 32 ∧ p.2.1 + y < y + 32
        omega

/-- How many of the first i are in the box. -/
def flt (P : Q3 → Bool) (L : List Q3) (i : Nat) : Nat := ((L.take i).filter P).length
theorem flt_zero (P : Q3 → Bool) (L : List Q3) : flt P L 0 = 0 := rfl
theorem flt_all (P : Q3 → Bool) (L : List Q3) : flt P L L.length = (L.filter P).length := by unfold flt; rw [List.take_length]
theorem take_snoc {L : List Q3} {i : Nat} (hi : i < L.length) : L.take (i + 1) = L.take i ++ [L.getD i (0, 0, 0)] := by
  rw [List.take_add_one, List.getD_eq_getElem?_getD, List.getElem?_eq_getElem hi]; rfl
theorem flt_miss {P : Q3 → Bool} {L : List Q3} {i : Nat} (hi : i < L.length) (h : P (L.getD i (0, 0, 0)) = false) : flt P L (i + 1) = flt P L i := by
  unfold flt; rw [take_snoc hi, List.filter_append, List.filter_cons_of_neg (by rw [h]; simp)]; simp
theorem flt_hit {P : Q3 → Bool} {L : List Q3} {i : Nat} (hi : i < L.length) (h : P (L.getD i (0, 0, 0)) = true) :
    flt P L (i + 1) = flt P L i + 1 ∧ flt P L i < (L.filter P).length ∧ (L.filter P).getD (flt P L i) (0, 0, 0) = L.getD i (0, 0, 0) := by
  have e1 : (L.take (i + 1)).filter P = (L.take i).filter P ++ [L.getD i (0, 0, 0)] := by rw [take_snoc hi, List.filter_append, List.filter_cons_of_pos h]; rfl
  have e2 : L.filter P = ((L.take i).filter P ++ [L.getD i (0, 0, 0)]) ++ (L.drop (i + 1)).filter P := by
    rw [← e1, ← List.filter_append, List.take_append_drop]
  refine ⟨by unfold flt; rw [e1, List.length_append]; rfl, ?_, ?_⟩
  · rw [e2]; unfold flt; simp
  · have h3 := cells_at e2
    exact h3.2

theorem moves_hit {L M : List Q3} {x y : Int} (h : L.filter (inB x y) = M.map (sh x y)) {i : Nat} (hi : i < L.length) (hb : inB x y (L.getD i (0, 0, 0)) = true) :
    flt (inB x y) L (i + 1) = flt (inB x y) L i + 1 ∧ flt (inB x y) L i < M.length ∧ sh x y (M.getD (flt (inB x y) L i) (0, 0, 0)) = L.getD i (0, 0, 0) := by
  obtain ⟨h1, h2, h3⟩ := flt_hit hi hb
  rw [h, List.length_map] at h2
  refine ⟨h1, h2, ?_⟩
  rw [h] at h3
  rw [← h3, List.getD_eq_getElem?_getD, List.getD_eq_getElem?_getD, List.getElem?_map, List.getElem?_eq_getElem h2]
  rfl
theorem moves_end {L M : List Q3} {x y : Int} (h : L.filter (inB x y) = M.map (sh x y)) : flt (inB x y) L L.length = M.length := by
  rw [flt_all, h, List.length_map]
theorem flt_le (P : Q3 → Bool) (L : List Q3) (i : Nat) : flt P L i ≤ L.length := by
  unfold flt
  exact Nat.le_trans (List.length_filter_le _ _) (by rw [List.length_take]; omega)
end Go.Proofs.Ytmpnojgciaoghaa
