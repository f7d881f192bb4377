/-
  BeatSets: lists that are joined; each node once.
-/
import Derived.ChangeKeysEq
import Derived.Laws.AppendOwnNone
import Derived.Test.YtaaohfocegnlkaaBtO
namespace Go.Proofs.Ytaaohfocegnlkaa
open Go.RowKit Go.Shelf
set_option linter.unusedVariables false
set_option linter.unusedSimpArgs false
attribute [local go_sem] Oper.semAt_some

/-- A list is appended to the call's own row. -/
theorem wpList_append_ints {ops : Array Oper} {rest : List Oper} {o : Oper} {a : Act} {w : World} {Q : Exit → Act → World → Prop} (hgd : o.guard = none) (s x : Operand)
    (ho : o.op = .call { callee := .builtin .append, args := #[s, x], argTypes := #[26, 26] })
    (base : Nat) (v : Value) (xs : List Int) (hs : a.eval s = v) (hown : w.ownsRow base 3 1 v xs.length (encI xs))
    (u : Value) (hx : a.eval x = u) (L : List Int) (n : Nat) (hu : IntsF n w u L) (hlen : xs.length + L.length ≤ 4096) (hbase : base ≤ w.heap.size)
    (h : ∀ v' w', w'.ownsRow base 3 1 v' (xs ++ L).length (encI (xs ++ L)) → w.grownBy w' v.ownBlock → (v ≠ .slice none 0 0 → v' ≠ .slice none 0 0) → wpList Try.prog ops Q rest (a.put o.dst v') w') : wpList Try.prog ops Q (o :: rest) a w := by
  obtain ⟨i0, hi, hz0, hz1, hz2⟩ := info_parts info_int
  obtain ⟨⟨ao, cap, rfl, hv⟩, _, hf⟩ := hu
  have hML : 4096 < maxLen := by decide
  cases ao with
  | none =>
    obtain rfl : cap = 0 := hf _ _ rfl
    have hL0 : L = [] := by
      cases L with
      | nil => rfl
      | cons y L => obtain ⟨g, e, _⟩ := hv 0 (by simp); cases e
    subst hL0
    refine wpList_append_own_none hgd s x 26 ho base 3 i0 1 Try.underlying26 hi v xs.length (encI xs) hs hown hx (h v w ?_ ?_ (fun h => h))
    · rw [List.append_nil]; exact hown
    · exact ⟨rfl, rfl, rfl, Nat.le_refl _, fun _ _ _ => rfl⟩
  | some ad =>
    refine wpList_append_own w hgd s x 26 ho base 3 i0 (.int .i64 0) 1 8 Try.underlying26 hi hz0 hz1 hz2 rfl (by decide) v xs.length (encI xs) hs hown ad L.length cap (encI L) hx (by unfold encI; simp) ?_ ?_ (by omega) (by omega) hbase
      (fun v' w' h1 h2 h3 => h v' w' ?_ h2 (fun hne e => hne (h3.1 e).1))
    · intro j y hj
      unfold encI at hj
      rw [List.getElem?_map] at hj
      have hjl : j < L.length := by
        by_cases hjl : j < L.length
        · exact hjl
        · rw [List.getElem?_eq_none (by omega)] at hj; cases hj
      rw [List.getElem?_eq_getElem hjl] at hj
      obtain ⟨g, e, hc⟩ := hv j hjl
      cases e
      rw [List.getD_eq_getElem?_getD, List.getElem?_eq_getElem hjl] at hc
      have hadd : (⟨g, 0, none⟩ : Addr).add j = ⟨g, j, none⟩ := by unfold Addr.add; split <;> simp_all
      rw [hadd, hc, ← hj]; rfl
    · intro y hy
      unfold encI at hy
      rw [List.mem_map] at hy
      obtain ⟨z, _, rfl⟩ := hy
      rfl
    · rw [List.length_append]
      unfold encI at h1 ⊢
      rw [List.map_append]; exact h1

/-! The plain law. -/
theorem mem_sus (g : Nat → Int) (x : Int) : x ∈ sus g ↔ ∃ k : Nat, k < (g 1).toNat ∧ (k : Int) ≠ g 0 ∧ g 2 ≤ qt g k ∧ x = k := by
  unfold sus; rw [mem_sel]; simp
theorem mem_alv (g : Nat → Int) (x : Int) : x ∈ alvL g ↔ ∃ k : Nat, k < (g 1).toNat ∧ ((k : Int) = g 0 ∨ qt g k < g 2) ∧ x = k := by
  unfold alvL
  rw [List.mem_map]
  constructor
  · rintro ⟨k, hk, rfl⟩
    rw [List.mem_filter, List.mem_range] at hk
    exact ⟨k, hk.1, by simpa using hk.2, rfl⟩
  · rintro ⟨k, h1, h2, rfl⟩
    exact ⟨k, List.mem_filter.2 ⟨List.mem_range.2 h1, by simpa using h2⟩, rfl⟩
theorem alv_lt (g : Nat → Int) : (alvL g).Pairwise (· < ·) := by
  unfold alvL
  rw [List.pairwise_map]
  exact (List.pairwise_lt_range.filter _).imp (fun {a b} h => by omega)
theorem count_lt {L : List Int} (h : L.Pairwise (· < ·)) (x : Int) : L.count x = if x ∈ L then 1 else 0 := by
  have hn : L.Nodup := h.imp (fun {a b} h => by omega)
  by_cases hx : x ∈ L
  · rw [if_pos hx, hn.count, if_pos hx]
  · rw [if_neg hx, List.count_eq_zero_of_not_mem hx]
/-- Each node is once among who is suspected and who is alive. -/
theorem once {g : Nat → Int} (h1 : g 1 = 6) {k : Nat} (hk : k < 6) : (sus g ++ alvL g).count (k : Int) = 1 := by
  have hsl : (sus g).Pairwise (· < ·) := sel_lt _ g _
  rw [List.count_append, count_lt hsl, count_lt (alv_lt g)]
  have ha := mem_sus g k
  have hb := mem_alv g k
  have ha2 : (k : Int) ∈ sus g ↔ (k : Int) ≠ g 0 ∧ g 2 ≤ qt g k := by
    rw [ha]
    constructor
    · rintro ⟨j, h1, h2, h3, h4⟩
      obtain rfl : k = j := by omega
      exact ⟨h2, h3⟩
    · rintro ⟨h2, h3⟩; exact ⟨k, by omega, h2, h3, rfl⟩
  have hb2 : (k : Int) ∈ alvL g ↔ ((k : Int) = g 0 ∨ qt g k < g 2) := by
    rw [hb]
    constructor
    · rintro ⟨j, h1, h2, h4⟩
      obtain rfl : k = j := by omega
      exact h2
    · intro h2; exact ⟨k, by omega, h2, rfl⟩
  by_cases h : (k : Int) ∈ sus g
  · have hn : ¬ (k : Int) ∈ alvL g := by
      rw [hb2]; have := ha2.1 h; omega
    rw [if_pos h, if_neg hn]
  · have hn : (k : Int) ∈ alvL g := by
      rw [hb2]; have := mt ha2.2 h; omega
    rw [if_neg h, if_pos hn]
theorem in_six {g : Nat → Int} (h1 : g 1 = 6) {x : Int} (h : x ∈ sus g ++ alvL g) : ∃ k : Nat, k < 6 ∧ x = k := by
  rw [List.mem_append] at h
  rcases h with h | h
  · obtain ⟨k, h2, _, _, rfl⟩ := (mem_sus g x).1 h; exact ⟨k, by omega, rfl⟩
  · obtain ⟨k, h2, _, rfl⟩ := (mem_alv g x).1 h; exact ⟨k, by omega, rfl⟩
theorem qt_hd {g : Nat → Int} {n : Int} (h1 : g 1 = 6) (hn : 0 ≤ n ∧ n ≤ 5) (hs : n ≠ g 0) (k : Nat) : qt (hdG g n) k = if (k : Int) = n then 0 else qt g k := by
  unfold qt
  rw [hdG_lo g n (by omega), hdG_at]
  by_cases e : (k : Int) = n
  · rw [if_pos e, if_pos ⟨⟨by omega, by omega, hs⟩, by omega⟩, Int.sub_self]; rfl
  · rw [if_neg e, if_neg (fun h => e (by omega))]
theorem sus_hd {g : Nat → Int} {n : Int} (h1 : g 1 = 6) (h0 : g 0 = 2) (h2 : 4 ≤ g 2) (hn : 0 ≤ n ∧ n ≤ 5) : sus (hdG g n) = (sus g).filter (fun x => x != n) := by
  refine eq_of_sorted (sel_lt _ _ _) ((sel_lt _ g _).filter _) (fun x => ?_)
  rw [List.mem_filter, mem_sus, mem_sus, hdG_lo g n (by omega : 0 < 4), hdG_lo g n (by omega : 1 < 4), hdG_lo g n (by omega : 2 < 4)]
  by_cases hs : n = g 0
  · have e : hdG g n = g := by unfold hdG; rw [qd_no (by omega)]; rfl
    rw [e]
    constructor
    · rintro ⟨k, a1, a2, a3, rfl⟩; exact ⟨⟨k, a1, a2, a3, rfl⟩, by simp; omega⟩
    · rintro ⟨h, _⟩; exact h
  · constructor
    · rintro ⟨k, a1, a2, a3, rfl⟩
      rw [qt_hd h1 hn hs] at a3
      by_cases e : (k : Int) = n
      · rw [if_pos e] at a3; omega
      · rw [if_neg e] at a3; exact ⟨⟨k, a1, a2, a3, rfl⟩, by simpa using e⟩
    · rintro ⟨⟨k, a1, a2, a3, rfl⟩, h⟩
      have e : ¬ (k : Int) = n := by simpa using h
      exact ⟨k, a1, a2, by rw [qt_hd h1 hn hs, if_neg e]; exact a3, rfl⟩
theorem was_len {g : Nat → Int} {n : Int} (h1 : g 1 = 6) (h0 : g 0 = 2) (h2 : 4 ≤ g 2) (hn : 0 ≤ n ∧ n ≤ 5) : hdB g n = decide (((sus g).filter (fun x => x != n)).length < (sus g).length) := by
  have hmem : hdB g n = true ↔ n ∈ sus g := by
    unfold hdB
    rw [mem_sus]
    by_cases hs : n = g 0
    · rw [qd_no (by omega)]
      constructor
      · intro h; cases h
      · rintro ⟨k, a1, a2, a3, rfl⟩; exact absurd hs a2
    · rw [qd_is hn.1 (by omega) hs]
      simp only [decide_eq_true_eq]
      constructor
      · intro h; exact ⟨n.toNat, by omega, by omega, h, by omega⟩
      · rintro ⟨k, a1, a2, a3, rfl⟩; simpa using a3
  have hlen : ((sus g).filter (fun x => x != n)).length < (sus g).length ↔ n ∈ sus g := by
    constructor
    · intro h
      by_cases hm : n ∈ sus g
      · exact hm
      · exfalso
        have : (sus g).filter (fun x => x != n) = sus g := List.filter_eq_self.2 (fun x hx => by simp; rintro rfl; exact hm hx)
        rw [this] at h; omega
    · intro h
      exact List.length_filter_lt_length_iff_exists.2 ⟨n, h, by simp⟩
  rw [Bool.eq_iff_iff, hmem, decide_eq_true_eq, hlen]
theorem qd_hd {g : Nat → Int} {n : Int} (h1 : g 1 = 6) (h0 : g 0 = 2) (hn : 0 ≤ n ∧ n ≤ 5) : ((qd (hdG g n) n).map (·.2)).getD 0 = 0 ∧ (qd (hdG g n) n).isSome = (n != 2) ∧ hdE g n = if n = 2 then 230 else 0 := by
  by_cases hs : n = 2
  · have e : hdG g n = g := by unfold hdG; rw [qd_no (by omega)]; rfl
    have e2 : qd g n = none := qd_no (by omega)
    unfold hdE
    rw [e, e2, if_pos hs]
    exact ⟨rfl, by simp [hs], rfl⟩
  · have e : qd (hdG g n) n = some (n, qt (hdG g n) n.toNat) := qd_is hn.1 (by rw [hdG_lo g n (by omega)]; omega) (by rw [hdG_lo g n (by omega)]; omega)
    have e2 : qd g n = some (n, qt g n.toNat) := qd_is hn.1 (by omega) (by omega)
    unfold hdE
    rw [e, e2, if_neg hs]
    refine ⟨?_, by simp [hs], rfl⟩
    show qt (hdG g n) n.toNat = 0
    rw [qt_hd h1 hn (by omega), if_pos (by omega)]
end Go.Proofs.Ytaaohfocegnlkaa
