/-
  Plainly: ranges of numbers; the pixels of a rectangle, by y, then by x.
-/
import Derived.RowKit
namespace Go.Proofs.Ytmpnojgciaoghaa
open Go.RowKit
set_option linter.unusedVariables false
set_option linter.unusedSimpArgs false

/-- a, a + 1, .., b - 1 -/
def irange (a b : Int) : List Int := (List.range (b - a).toNat).map fun k : Nat => a + (k : Int)
theorem irange_nil {a b : Int} (h : b ≤ a) : irange a b = [] := by
  unfold irange; rw [show (b - a).toNat = 0 by omega]; rfl
theorem irange_succ {a b : Int} (h : a ≤ b) : irange a (b + 1) = irange a b ++ [b] := by
  unfold irange
  rw [show (b + 1 - a).toNat = (b - a).toNat + 1 by omega, List.range_succ, List.map_append]
  simp; omega
theorem irange_length (a b : Int) : (irange a b).length = (b - a).toNat := by simp [irange]
theorem mem_irange {a b x : Int} : x ∈ irange a b ↔ a ≤ x ∧ x < b := by
  unfold irange
  rw [List.mem_map]
  constructor
  · rintro ⟨k, hk, rfl⟩; rw [List.mem_range] at hk; omega
  · intro h; exact ⟨(x - a).toNat, by rw [List.mem_range]; omega, by omega⟩
theorem irange_append {a b c : Int} (h : a ≤ b) (k : b ≤ c) : irange a c = irange a b ++ irange b c := by
  obtain ⟨n, rfl⟩ : ∃ n : Nat, c = b + n := ⟨(c - b).toNat, by omega⟩
  induction n with
  | zero => rw [show b + ((0 : Nat) : Int) = b by omega, irange_nil (Int.le_refl b)]; simp
  | succ n ih =>
    rw [show b + ((n + 1 : Nat) : Int) = (b + n) + 1 by omega, irange_succ (by omega), irange_succ (by omega), ih (by omega), List.append_assoc]

/-- A row of pixels, and rows of them. -/
def prow (f g y : Int) : List (Int × Int) := (irange f g).map fun x => (x, y)
def pix (f g t e : Int) : List (Int × Int) := (irange t e).flatMap (prow f g)
theorem prow_succ {f g y : Int} (h : f ≤ g) : prow f (g + 1) y = prow f g y ++ [(g, y)] := by unfold prow; rw [irange_succ h]; simp
theorem pix_succ {f g t e : Int} (h : t ≤ e) : pix f g t (e + 1) = pix f g t e ++ prow f g e := by unfold pix; rw [irange_succ h]; simp
theorem pix_nil {f g t e : Int} (h : e ≤ t) : pix f g t e = [] := by unfold pix; rw [irange_nil h]; rfl
theorem pix_empty {f g t e : Int} (h : g ≤ f) : pix f g t e = [] := by
  unfold pix prow; rw [irange_nil h]; simp
theorem prow_length (f g y : Int) : (prow f g y).length = (g - f).toNat := by simp [prow, irange_length]
theorem pix_length (f g t e : Int) : (pix f g t e).length = (e - t).toNat * (g - f).toNat := by
  unfold pix
  rw [List.length_flatMap]
  have : (irange t e).map (fun a => (prow f g a).length) = (irange t e).map (fun _ => (g - f).toNat) := List.map_congr_left (fun a _ => prow_length f g a)
  rw [this, List.map_const', List.sum_replicate_nat, irange_length]
theorem mem_prow {f g y : Int} {p : Int × Int} : p ∈ prow f g y ↔ f ≤ p.1 ∧ p.1 < g ∧ p.2 = y := by
  unfold prow; rw [List.mem_map]
  constructor
  · rintro ⟨x, hx, rfl⟩; rw [mem_irange] at hx; exact ⟨hx.1, hx.2, rfl⟩
  · rintro ⟨h1, h2, h3⟩; exact ⟨p.1, mem_irange.2 ⟨h1, h2⟩, by rw [← h3]⟩
theorem mem_pix {f g t e : Int} {p : Int × Int} : p ∈ pix f g t e ↔ f ≤ p.1 ∧ p.1 < g ∧ t ≤ p.2 ∧ p.2 < e := by
  unfold pix; rw [List.mem_flatMap]
  constructor
  · rintro ⟨y, hy, hp⟩; rw [mem_irange] at hy; rw [mem_prow] at hp; omega
  · rintro ⟨h1, h2, h3, h4⟩; exact ⟨p.2, mem_irange.2 ⟨h3, h4⟩, mem_prow.2 ⟨h1, h2, rfl⟩⟩
theorem mul_le_4096 {a b : Nat} (h : a ≤ 64) (k : b ≤ 64) : a * b ≤ 4096 := Nat.le_trans (Nat.mul_le_mul h k) (by omega)
theorem pix_len_le {f g t e : Int} (h : (g - f).toNat ≤ 64) (k : (e - t).toNat ≤ 64) : (pix f g t e).length ≤ 4096 := by rw [pix_length]; exact mul_le_4096 k h

/-- A rectangle in a greater one, where nothing outside of the smaller one is taken. -/
theorem filterMap_out {α β : Type} {p : α → Option β} : ∀ {l : List α}, (∀ x ∈ l, p x = none) → l.filterMap p = []
  | [], _ => rfl
  | a :: l, h => by rw [List.filterMap_cons, h a (by simp)]; exact filterMap_out (fun x hx => h x (by simp [hx]))
theorem filterMap_mid {β : Type} {p : Int → Option β} {a f g b : Int} (h0 : a ≤ f) (h2 : g ≤ b) (hp : ∀ x, a ≤ x → x < b → ¬ (f ≤ x ∧ x < g) → p x = none) :
    (irange a b).filterMap p = (irange f g).filterMap p := by
  by_cases hfg : f ≤ g
  · rw [irange_append (b := f) h0 (by omega), irange_append (b := g) hfg h2, List.filterMap_append, List.filterMap_append]
    rw [filterMap_out (l := irange a f) (fun x hx => by rw [mem_irange] at hx; exact hp x (by omega) (by omega) (by omega)),
      filterMap_out (l := irange g b) (fun x hx => by rw [mem_irange] at hx; exact hp x (by omega) (by omega) (by omega))]
    simp
  · rw [irange_nil (a := f) (b := g) (by omega), filterMap_out (l := irange a b) (fun x hx => by rw [mem_irange] at hx; exact hp x hx.1 hx.2 (by omega))]
    rfl
theorem flatMap_cong {α β : Type} {f g : α → List β} : ∀ {l : List α}, (∀ x ∈ l, f x = g x) → l.flatMap f = l.flatMap g
  | [], _ => rfl
  | a :: l, h => by rw [List.flatMap_cons, List.flatMap_cons, h a (by simp), flatMap_cong (fun x hx => h x (by simp [hx]))]
theorem pix_mid {β : Type} {p : Int × Int → Option β} {w h f g t e : Int} (h0 : 0 ≤ f) (h2 : g ≤ w) (h3 : 0 ≤ t) (h5 : e ≤ h)
    (hp : ∀ x y, 0 ≤ x → x < w → 0 ≤ y → y < h → ¬ (f ≤ x ∧ x < g ∧ t ≤ y ∧ y < e) → p (x, y) = none) : (pix 0 w 0 h).filterMap p = (pix f g t e).filterMap p := by
  have hrow : ∀ y, 0 ≤ y → y < h → t ≤ y → y < e → (prow 0 w y).filterMap p = (prow f g y).filterMap p := by
    intro y y0 y1 y2 y3
    unfold prow
    rw [List.filterMap_map, List.filterMap_map]
    exact filterMap_mid h0 h2 (fun x x0 x1 hx => hp x y x0 x1 y0 y1 (by omega))
  have hout : ∀ y, 0 ≤ y → y < h → ¬ (t ≤ y ∧ y < e) → (prow 0 w y).filterMap p = [] := by
    intro y y0 y1 hy
    exact filterMap_out (fun q hq => by
      rw [mem_prow] at hq
      obtain ⟨q1, q2⟩ := q
      have e2 : q2 = y := hq.2.2
      subst e2
      exact hp q1 q2 hq.1 hq.2.1 y0 y1 (by omega))
  have key : ∀ {a b : Int}, 0 ≤ a → b ≤ h → (pix 0 w a b).filterMap p = (irange a b).flatMap (fun y => (prow 0 w y).filterMap p) := by
    intro a b _ _
    unfold pix
    rw [List.filterMap_flatMap]
  have key2 : (pix f g t e).filterMap p = (irange t e).flatMap (fun y => (prow f g y).filterMap p) := by
    unfold pix; rw [List.filterMap_flatMap]
  rw [key (by omega) (by omega), key2]
  by_cases hte : t ≤ e
  · rw [irange_append (a := 0) (b := t) (c := h) h3 (by omega), irange_append (b := e) hte h5, List.flatMap_append, List.flatMap_append]
    have e1 : (irange 0 t).flatMap (fun y => (prow 0 w y).filterMap p) = [] := by
      rw [List.flatMap_eq_nil_iff]; intro y hy; rw [mem_irange] at hy; exact hout y (by omega) (by omega) (by omega)
    have e3 : (irange e h).flatMap (fun y => (prow 0 w y).filterMap p) = [] := by
      rw [List.flatMap_eq_nil_iff]; intro y hy; rw [mem_irange] at hy; exact hout y (by omega) (by omega) (by omega)
    rw [e1, e3, List.nil_append, List.append_nil]
    exact flatMap_cong (fun y hy => by rw [mem_irange] at hy; exact hrow y (by omega) (by omega) hy.1 hy.2)
  · rw [irange_nil (a := t) (b := e) (by omega)]
    show _ = []
    rw [List.flatMap_eq_nil_iff]; intro y hy; rw [mem_irange] at hy; exact hout y (by omega) (by omega) (by omega)
end Go.Proofs.Ytmpnojgciaoghaa
