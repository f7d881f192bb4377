/-
  Numbers of 320 bits, plainly: digits of 16 bits.
-/
import Derived.Test.YtackbajbladhhaaKit
namespace Go.Proofs.Ytackbajbladhhaa
open Go.RowKit
set_option linter.unusedVariables false
set_option linter.unusedSimpArgs false

/-- 65536 to a power, under a name that no tactic reckons. -/
def bP (n : Nat) : Nat := 65536 ^ n
theorem bP_zero : bP 0 = 1 := rfl
theorem bP_succ (n : Nat) : bP (n + 1) = bP n * 65536 := Nat.pow_succ 65536 n
theorem bP_pos (n : Nat) : 0 < bP n := Nat.pow_pos (by omega)
theorem bP_add (a b : Nat) : bP (a + b) = bP a * bP b := Nat.pow_add ..
theorem bP_mono {a b : Nat} (h : a ≤ b) : bP a ≤ bP b := Nat.pow_le_pow_right (by omega) h
/-- The number of the first n digits. -/
def bV (f : Nat → Nat) : Nat → Nat
  | 0 => 0
  | n + 1 => bV f n + f n * bP n
theorem bV_zero (f : Nat → Nat) : bV f 0 = 0 := rfl
theorem bV_succ (f : Nat → Nat) (n : Nat) : bV f (n + 1) = bV f n + f n * bP n := rfl
/-- A digit of a number. -/
def dig (v i : Nat) : Nat := v / bP i % 65536
theorem dig_lt (v i : Nat) : dig v i < 65536 := Nat.mod_lt _ (by omega)
theorem bV_congr {f g : Nat → Nat} : ∀ {n : Nat}, (∀ i, i < n → f i = g i) → bV f n = bV g n
  | 0, _ => rfl
  | n + 1, h => by rw [bV_succ, bV_succ, bV_congr (fun i hi => h i (by omega)), h n (by omega)]
theorem bV_lt {f : Nat → Nat} : ∀ {n : Nat}, (∀ i, i < n → f i < 65536) → bV f n < bP n
  | 0, _ => Nat.one_pos
  | n + 1, h => by
    have h1 := bV_lt (f := f) (n := n) (fun i hi => h i (by omega))
    have h2 := h n (by omega)
    have h3 : f n * bP n ≤ 65535 * bP n := Nat.mul_le_mul_right _ (by omega)
    rw [bV_succ, bP_succ]; omega
theorem bV_dig (v : Nat) : ∀ n, bV (dig v) n = v % bP n
  | 0 => by rw [bV_zero, bP_zero, Nat.mod_one]
  | n + 1 => by
    rw [bV_succ, bV_dig v n, bP_succ]
    unfold dig
    rw [Nat.mod_mul, Nat.mul_comm]
theorem dig_add_mul (v k : Nat) {n i : Nat} (h : i < n) : dig (v + k * bP n) i = dig v i := by
  unfold dig
  obtain ⟨d, rfl⟩ : ∃ d, n = i + (d + 1) := ⟨n - i - 1, by omega⟩
  have e : k * bP (i + (d + 1)) = bP i * (65536 * (k * bP d)) := by
    rw [bP_add, bP_succ]; simp only [Nat.mul_comm, Nat.mul_left_comm]
  rw [e, Nat.add_mul_div_left _ _ (bP_pos i), Nat.add_mul_mod_self_left]
theorem dig_bV {f : Nat → Nat} : ∀ {n : Nat}, (∀ i, i < n → f i < 65536) → ∀ i, i < n → dig (bV f n) i = f i
  | 0, _ => fun i hi => by omega
  | n + 1, h => fun i hi => by
    have ih := dig_bV (f := f) (n := n) (fun i hi => h i (by omega))
    have hb := bV_lt (f := f) (n := n) (fun i hi => h i (by omega))
    rw [bV_succ]
    by_cases e : i = n
    · subst e
      unfold dig
      rw [Nat.add_mul_div_right _ _ (bP_pos _), Nat.div_eq_of_lt hb, Nat.zero_add, Nat.mod_eq_of_lt (h i hi)]
    · rw [dig_add_mul _ _ (by omega)]; exact ih i (by omega)
theorem dig_zero {v i : Nat} (h : v < bP i) : dig v i = 0 := by unfold dig; rw [Nat.div_eq_of_lt h]
theorem dig_zero_i (i : Nat) : dig 0 i = 0 := dig_zero (bP_pos i)
theorem dig_z (v : Nat) : dig v 0 = v % 65536 := by unfold dig; rw [bP_zero, Nat.div_one]
theorem dig_s (v i : Nat) : dig v (i + 1) = dig (v / 65536) i := by
  unfold dig; rw [bP_succ, Nat.mul_comm, ← Nat.div_div_eq_div_mul]

/-! The cells. -/
/-- A sign and twenty digits. -/
def bigV (s : Bool) (f : Nat → Nat) : Array Value := (Value.bool s :: (List.range 20).map fun k => Value.int .u64 (f k : Nat)).toArray
theorem bigV_size (s : Bool) (f : Nat → Nat) : (bigV s f).size = 21 := by simp [bigV]
theorem bigV_sign (s : Bool) (f : Nat → Nat) : (bigV s f)[0]? = some (.bool s) := by simp [bigV]
theorem bigV_get (s : Bool) (f : Nat → Nat) {k : Nat} (h : k < 20) : (bigV s f)[k + 1]? = some (.int .u64 (f k : Nat)) := by
  simp [bigV, h]
theorem bigV_ext {s : Bool} {f g : Nat → Nat} (h : ∀ k, k < 20 → f k = g k) : bigV s f = bigV s g := by
  unfold bigV; congr 2
  exact List.map_congr_left (fun k hk => by rw [h k (List.mem_range.1 hk)])
theorem bigV_set (s : Bool) (f : Nat → Nat) {k : Nat} (hk : k < 20) (v : Nat) : (bigV s f).setIfInBounds (k + 1) (.int .u64 (v : Nat)) = bigV s (fun j => if j = k then v else f j) := by
  apply Array.ext_getElem?
  intro i
  rw [Array.getElem?_setIfInBounds]
  cases i with
  | zero => rw [bigV_sign, bigV_sign, if_neg (by omega)]
  | succ i =>
    by_cases hi : i < 20
    · rw [bigV_get _ _ hi, bigV_get _ _ hi, bigV_size]
      by_cases e : k = i
      · subst e; simp; omega
      · rw [if_neg (by omega), if_neg (fun e' => e e'.symm)]
    · rw [Array.getElem?_eq_none (by rw [bigV_size]; omega), Array.getElem?_eq_none (by rw [bigV_size]; omega), if_neg (by omega)]
theorem bigV_setSign (s t : Bool) (f : Nat → Nat) : (bigV s f).setIfInBounds 0 (.bool t) = bigV t f := by
  simp [bigV]
/-- A number's cells. -/
def bigI (z : Int) : Array Value := bigV (decide (z < 0)) (dig z.natAbs)
def BigB (W : World) (M : Nat) (s : Bool) (f : Nat → Nat) : Prop := W.heap[M]? = some (.cells (bigV s f) 167 (0, 0))
theorem BigB.sign {W : World} {M : Nat} {s : Bool} {f : Nat → Nat} (h : BigB W M s f) : W.cell? ⟨M, 0, none⟩ = some (.bool s) := by
  rw [cell_of_row W M 0 _ _ _ h]; exact bigV_sign s f
theorem BigB.cell {W : World} {M : Nat} {s : Bool} {f : Nat → Nat} (h : BigB W M s f) {k : Nat} (hk : k < 20) : W.cell? ⟨M, k + 1, none⟩ = some (.int .u64 (f k : Nat)) := by
  rw [cell_of_row W M (k + 1) _ _ _ h]; exact bigV_get s f hk
theorem BigB.frozen {W : World} {M : Nat} {s : Bool} {f : Nat → Nat} (h : BigB W M s f) (k : Nat) : W.frozen? ⟨M, k, none⟩ = false := by
  simp [World.frozen?, show W.heap[M]? = _ from h]
theorem BigB.lt {W : World} {M : Nat} {s : Bool} {f : Nat → Nat} (h : BigB W M s f) : M < W.heap.size := (Array.getElem?_eq_some_iff.1 h).1
theorem BigB.later {W W' : World} {M : Nat} {s : Bool} {f : Nat → Nat} (h : BigB W M s f) (hl : Later W W') : BigB W' M s f := (hl.block M h.lt).trans h
theorem BigB.ext {W : World} {M : Nat} {s : Bool} {f g : Nat → Nat} (h : BigB W M s f) (e : ∀ k, k < 20 → f k = g k) : BigB W M s g := by
  unfold BigB; rw [← bigV_ext e]; exact h
theorem heap_setC {W : World} {M j : Nat} {v : Value} {cs : Array Value} {t : TypeId} {fr : Nat × Nat} (h : W.heap[M]? = some (.cells cs t fr)) : (W.setCell ⟨M, j, none⟩ v).heap[M]? = some (.cells (cs.setIfInBounds j v) t fr) := by
  obtain ⟨hlt, hb⟩ := Array.getElem?_eq_some_iff.1 h
  show (W.heap.modify M _)[M]? = _
  rw [Array.getElem?_eq_getElem (by rw [Array.size_modify]; exact hlt), Array.getElem_modify_self, hb]; rfl
theorem frozen_r {W : World} {p : Nat} {c : Array Value} {t : TypeId} (h : W.heap[p]? = some (.cells c t (0, 0))) (k : Nat) : W.frozen? ⟨p, k, none⟩ = false := by simp [World.frozen?, h]
theorem cells_2 {W : World} {p : Nat} {a b : Value} {t : TypeId} {fr : Nat × Nat} (h : W.heap[p]? = some (.cells #[a, b] t fr)) : W.cell? ⟨p, 0, none⟩ = some a ∧ W.cell? ⟨p, 1, none⟩ = some b :=
  ⟨cell_of_row W p 0 _ _ _ h, cell_of_row W p 1 _ _ _ h⟩
theorem Later.row {w w' : World} (h : Later w w') {b : Nat} {o : Obj} (hc : w.heap[b]? = some o) : w'.heap[b]? = some o := (h.block b (Array.getElem?_eq_some_iff.1 hc).1).trans hc
theorem BigB.set {W : World} {M : Nat} {s : Bool} {f : Nat → Nat} (h : BigB W M s f) {k : Nat} (hk : k < 20) (v : Nat) : BigB (W.setCell ⟨M, k + 1, none⟩ (.int .u64 (v : Nat))) M s (fun j => if j = k then v else f j) := by
  unfold BigB; rw [← bigV_set s f hk v]; exact heap_setC h
theorem BigB.setSign {W : World} {M : Nat} {s : Bool} {f : Nat → Nat} (h : BigB W M s f) (t : Bool) : BigB (W.setCell ⟨M, 0, none⟩ (.bool t)) M t f := by
  unfold BigB; rw [← bigV_setSign s t f]; exact heap_setC h
end Go.Proofs.Ytackbajbladhhaa
