/-
  Chapter 21's document: Open.
-/
import Derived.Laws.AppendOwnNone
import Derived.Test.YtjelfiljebamgaaBxB1
import Derived.Test.YtjelfiljebamgaaRfA1
namespace Go.Proofs.Ytjelfiljebamgaa
open Go.RowKit Go.Shelf Go.Maps
set_option linter.unusedVariables false
set_option linter.unusedSimpArgs false
attribute [local go_sem] Oper.semAt_some
attribute [-go_sem] Builtin.append_

/-! The place in an ascending list, plainly. -/
def fstG (l : List Nat) (x k : Nat) : Nat := k + (l.drop k).findIdx (fun y => decide (x < y))
theorem fstG_end (l : List Nat) (x : Nat) : fstG l x l.length = l.length := by unfold fstG; simp
theorem fstG_step {l : List Nat} {k y : Nat} (x : Nat) (h : l[k]? = some y) : fstG l x k = if x < y then k else fstG l x (k + 1) := by
  have hk := (List.getElem?_eq_some_iff.1 h).1
  have e : l.drop k = y :: l.drop (k + 1) := by
    rw [List.drop_eq_getElem_cons hk]
    congr 1
    exact (List.getElem?_eq_some_iff.1 h).2
  unfold fstG
  rw [e, List.findIdx_cons]
  by_cases hx : x < y
  · simp [hx]
  · simp [hx]; omega
theorem fstG_le {l : List Nat} {x k : Nat} (h : k ≤ l.length) : k ≤ fstG l x k ∧ fstG l x k ≤ l.length := by
  unfold fstG
  have := List.findIdx_le_length (p := fun y => decide (x < y)) (xs := l.drop k)
  rw [List.length_drop] at this
  omega
theorem insN_at (x : Nat) : ∀ l : List Nat, insN x l = l.take (fstG l x 0) ++ x :: l.drop (fstG l x 0)
  | [] => rfl
  | y :: r => by
    have h := fstG_step (l := y :: r) (k := 0) x rfl
    unfold insN
    by_cases hx : x < y
    · rw [if_pos hx] at h ⊢
      rw [h]; rfl
    · rw [if_neg hx] at h ⊢
      have e : fstG (y :: r) x (0 + 1) = fstG r x 0 + 1 := by unfold fstG; simp; omega
      rw [h, e, insN_at x r]
      simp
def metG (l : List Nat) (x k : Nat) : Bool := (l.drop k).any fun y => y == x
theorem metG_end (l : List Nat) (x : Nat) : metG l x l.length = false := by unfold metG; simp
theorem metG_step {l : List Nat} {k y : Nat} (x : Nat) (h : l[k]? = some y) : metG l x k = (metG l x (k + 1) || y == x) := by
  have hk := (List.getElem?_eq_some_iff.1 h).1
  have e : l.drop k = y :: l.drop (k + 1) := by
    rw [List.drop_eq_getElem_cons hk]
    congr 1
    exact (List.getElem?_eq_some_iff.1 h).2
  unfold metG
  rw [e, List.any_cons, Bool.or_comm]
theorem metG_mem (l : List Nat) (x : Nat) : metG l x 0 = true ↔ x ∈ l := by
  unfold metG
  rw [List.drop_zero, List.any_eq_true]
  constructor
  · rintro ⟨y, hy, e⟩
    have : y = x := by simpa using e
    rw [← this]; exact hy
  · intro h; exact ⟨x, h, by simp⟩
theorem dopen_succ {P : List Pv} {k : Nat} {q : Pv} (h : P[k]? = some q) : dopen (pcs (P.take (k + 1))) = addN (dopen (pcs (P.take k))) q.1.id := by
  rw [pcs_take h]; unfold dopen; rw [List.foldl_append]; rfl
theorem insN_len (x : Nat) : ∀ l : List Nat, (insN x l).length = l.length + 1
  | [] => rfl
  | y :: r => by
    unfold insN
    split
    · rfl
    · rw [List.length_cons, insN_len x r, List.length_cons]
theorem dopen_le (P : List Pv) : ∀ k, k ≤ P.length → (dopen (pcs (P.take k))).length ≤ k
  | 0, _ => Nat.le_refl _
  | k + 1, h => by
    have ih := dopen_le P k (by omega)
    rw [dopen_succ (List.getElem?_eq_getElem (show k < P.length by omega))]
    unfold addN
    split
    · omega
    · rw [insN_len]; omega
/-! Numbers are appended. -/
def U64At (w : World) (u : Value) (L : List Int) : Prop := ∃ ao cap, u = .slice ao L.length cap ∧ (ao = none → cap = 0) ∧ ∀ k, k < L.length → ∃ g o, ao = some ⟨g, o, none⟩ ∧ w.cell? ⟨g, o + k, none⟩ = some (.int .u64 (L.getD k 0))
theorem run_append_u64s (w : World) (base : Nat) (v : Value) (xs : List Int) (hown : w.ownsRow base 22 1 v xs.length (encU64 xs))
    (u : Value) (L : List Int) (hu : U64At w u L) (hlen : xs.length + L.length ≤ 2000000) (hbase : base ≤ w.heap.size) :
    ∃ v' w', (Builtin.append_ #[56, 56] 56 #[v, u]).run Try.prog w = .ok v' w' ∧ w'.ownsRow base 22 1 v' (xs ++ L).length (encU64 (xs ++ L)) ∧ w.grownBy w' v.ownBlock := by
  obtain ⟨i0, hi, hz0, hz1, hz2⟩ := info_parts info_u64
  obtain ⟨ao, cap, rfl, hf, hv⟩ := hu
  have hML : 2000000 < maxLen := by decide
  cases ao with
  | none =>
    obtain rfl : cap = 0 := hf rfl
    have hL0 : L = [] := by
      cases L with
      | nil => rfl
      | cons y L => obtain ⟨g, o, e, _⟩ := hv 0 (by simp); cases e
    subst hL0
    refine ⟨v, w, run_append_owned_none (P := Try.prog) w base 56 56 22 i0 1 Try.underlying56 hi v xs.length (encU64 xs) hown, ?_, ⟨rfl, rfl, rfl, Nat.le_refl _, fun _ _ _ => rfl⟩⟩
    rw [List.append_nil]; exact hown
  | some ad =>
    obtain ⟨v', w', h0, h1, h2, -⟩ := run_append_own (P := Try.prog) w base 56 56 22 i0 (.int .u64 0) 1 8 Try.underlying56 hi hz0 hz1 hz2 rfl (by decide) v xs.length (encU64 xs) hown ad L.length cap (encU64 L) (by simp [encU64]) (fun j y hj => by
      rw [encU64, List.getElem?_map] at hj
      have hjl : j < L.length := by
        by_cases hjl : j < L.length
        · exact hjl
        · rw [List.getElem?_eq_none (by omega)] at hj; cases hj
      rw [List.getElem?_eq_getElem hjl] at hj
      obtain ⟨g, o, e, hc⟩ := hv j hjl
      cases e
      rw [List.getD_eq_getElem?_getD, List.getElem?_eq_getElem hjl] at hc
      simp at hj
      rw [← hj]
      rw [Addr.add_mid]
      exact hc) (fun y hy => by
      obtain ⟨z, _, rfl⟩ := List.mem_map.1 hy
      rfl) (by omega) (by omega) hbase
    refine ⟨v', w', h0, ?_, h2⟩
    have e : encU64 (xs ++ L) = encU64 xs ++ encU64 L := List.map_append
    rw [e, List.length_append]
    exact h1
/-- The two parts of a list of the call's own. -/
theorem u64_parts {w : World} {base cap at_ : Nat} {ad : Addr} {O : List Nat} (h : w.ownsRow base 22 1 (.slice (some ad) O.length cap) O.length (encU64 (keyI O))) (ha : at_ ≤ O.length) :
    ∃ g, ad = ⟨g, 0, none⟩ ∧ U64At w (.slice (some ⟨g, 0, none⟩) at_ cap) (keyI (O.take at_)) ∧ U64At w (.slice (some ⟨g, at_, none⟩) (O.length - at_) (cap - at_)) (keyI (O.drop at_)) := by
  rcases h.2 with ⟨h0, hz⟩ | ⟨g, c, cur, hv, _⟩
  · cases h0
  injection hv with e1 e2 e3
  injection e1 with e1
  subst e1
  have hc : ∀ k, k < O.length → w.cell? ⟨g, k, none⟩ = some (.int .u64 ((keyI O).getD k 0)) := fun k hk => by
    obtain ⟨g', e, h⟩ := own_cell h (keyI_len O) hk
    injection e with e; injection e with e; subst e
    exact h
  refine ⟨g, rfl, ⟨_, cap, by rw [keyI_len, List.length_take, Nat.min_eq_left ha], fun e => by (cases e), fun k hk => ⟨g, 0, rfl, ?_⟩⟩, ⟨_, cap - at_, by rw [keyI_len, List.length_drop], fun e => by (cases e), fun k hk => ⟨g, at_, rfl, ?_⟩⟩⟩
  · rw [keyI_len, List.length_take] at hk
    rw [Nat.zero_add, hc k (by omega)]
    congr 2
    simp only [keyI, List.getD_eq_getElem?_getD, List.getElem?_map]
    rw [List.getElem?_take_of_lt (by omega)]
  · rw [keyI_len, List.length_drop] at hk
    rw [hc (at_ + k) (by omega)]
    congr 2
    simp only [keyI, List.getD_eq_getElem?_getD, List.getElem?_map, List.getElem?_drop]
theorem u64_one (w : World) (x : Nat) : U64At (w.alloc (.cells #[.int .u64 x] 22)) (.slice (some ⟨w.heap.size, 0, none⟩) 1 1) [(x : Int)] := by
  refine ⟨_, 1, rfl, fun e => by (cases e), fun k hk => ⟨_, 0, rfl, ?_⟩⟩
  obtain rfl : k = 0 := by have : k < 1 := hk; omega
  rw [cell_of_row _ _ _ _ _ _ (heap_alloc_new w _)]; rfl
theorem keyI_at {O : List Nat} {j y : Nat} (h : O[j]? = some y) : (keyI O).getD j 0 = (y : Int) := by
  rw [List.getD_eq_getElem?_getD, keyI, List.getElem?_map, h]; rfl
set_option maxRecDepth 100000 in
set_option maxHeartbeats 2000000 in
theorem open_ref (y : Nat) (r : Int) (P : List Pv) (Q : Nat → Prop) (W : World) (h : DB W y r P Q) (hn : P.length ≤ 1000000) :
    Calls Try.prog 25 #[wp y] W fun e w' => ∃ u, e = .returned u ∧ w'.ownsRow W.heap.size 22 1 u (dopen (pcs P)).length (encU64 (keyI (dopen (pcs P)))) ∧ Later W w' := by
  obtain ⟨v, base, hbx, hP, hyb, hQy, hQo, hdat⟩ := h
  obtain ⟨ao, cap, rfl⟩ := hP.form
  obtain ⟨n, hn'⟩ : ∃ n, Hid (P.length = n) := ⟨_, Lib.hid rfl⟩
  rw [hn'.out] at hn hbx hP hQo hdat
  have hy : W.cell? ⟨y, 1, none⟩ = some (.slice ao n cap) := by rw [cell_of_row _ _ _ _ _ _ hbx]; rfl
  have hPh := Lib.hid hP
  clear hP hQo hbx hdat
  go_enter Try.func25, Try.ntmps25
  go_wp2_with fail
  go_loopg [3, 4] (n + 1) (fun gg u s wr => ∃ i : Nat, gg = n + 1 - i ∧ i ≤ n ∧ s = .int .i64 i ∧ Hid (wr.ownsRow W.heap.size 22 1 u (dopen (pcs (P.take i))).length (encU64 (keyI (dopen (pcs (P.take i)))))) ∧ Hid (Later W wr))
  case atStart => exact ⟨0, by omega, Nat.zero_le _, rfl, Lib.hid (World.ownsRow_nil _ _ _ _), Lib.hid (Later.refl _)⟩
  case round =>
    obtain ⟨i, rfl, hin, rfl, hrow, hl⟩ := hrel
    obtain ⟨ov, oc, rfl⟩ := own_form hrow.out
    have hy' := hl.out.cell hy
    by_cases hi : i < n
    · have hii : (i : Int) < (n : Int) := by omega
      obtain ⟨q, hq⟩ : ∃ q, P[i]? = some q := ⟨P[i]'(by rw [hn'.out]; exact hi), List.getElem?_eq_getElem _⟩
      obtain ⟨g, rfl, c0, -, -, -⟩ := PsV.cell (hPh.out.later hl.out) hq
      obtain ⟨x, hx⟩ : ∃ x, Hid (q.1.id = x) := ⟨_, Lib.hid rfl⟩
      have hsu := Lib.hid (dopen_succ hq)
      have hOl := dopen_le P i (by rw [hn'.out]; omega)
      obtain ⟨O, hO⟩ : ∃ O, Hid (dopen (pcs (P.take i)) = O) := ⟨_, Lib.hid rfl⟩
      rw [hx.out] at c0 hsu
      rw [hO.out] at hsu hOl hrow ⊢
      have hcap : O.length ≤ oc := by
        rcases hrow.out.2 with ⟨h0, hz⟩ | ⟨g', c', cur, hv', _, _, h1, _⟩
        · omega
        · injection hv' with _ _ e3
          omega
      have c0h := Lib.hid c0
      have hyh := Lib.hid hy'
      clear hq
      go_wp2_with fail
      rename World => wq
      go_loopg [5, 6, 7] (O.length + 1) (fun gg b a s wr => ∃ j : Nat, gg = j + 1 ∧ j ≤ O.length ∧ b = .bool (metG O x j) ∧ a = .int .i64 (fstG O x j : Nat) ∧ s = .int .i64 ((j : Int) - 1) ∧ Hid (Later wq wr))
      case atStart => exact ⟨O.length, rfl, Nat.le_refl _, by rw [metG_end], by rw [fstG_end], by go_num, Lib.hid (Later.refl _)⟩
      case round =>
        obtain ⟨j, rfl, hj, rfl, rfl, rfl, hlw⟩ := hrel
        have hfl := fstG_le (l := O) (x := x) hj
        obtain ⟨at_, hat⟩ : ∃ a, Hid (fstG O x j = a) := ⟨_, Lib.hid rfl⟩
        rw [hat.out] at hfl ⊢
        cases j with
        | zero =>
          have hneg : ¬ ((0 : Int) ≤ ((0 : Nat) : Int) - 1) := by omega
          rw [show (((0 : Nat) : Int) - 1) = -1 from rfl]
          cases hb : metG O x 0 with
          | true =>
            have hadd : Hid (addN O x = O) := Lib.hid (by unfold addN; rw [if_pos ((metG_mem O x).1 hb)])
            clear hb
            go_wp2_with fail
            go_roundg (n - i)
            case measure => omega
            case rel => exact ⟨i + 1, by omega, by omega, by go_num, by rw [hsu.out, hadd.out]; exact Lib.hid (row_later hrow.out hlw.out), Lib.hid (hl.out.trans hlw.out)⟩
          | false =>
            have hadd : Hid (addN O x = O.take at_ ++ x :: O.drop at_) := Lib.hid (by
              unfold addN
              rw [if_neg (fun hm => by have := (metG_mem O x).2 hm; rw [hb] at this; cases this), insN_at, hat.out])
            clear hb
            have c0' := hlw.out.cell c0h.out
            have hy2 := hlw.out.cell hyh.out
            have hrw := Lib.hid (row_later hrow.out hlw.out)
            obtain ⟨Bq, hBq⟩ : ∃ b, Hid (wq.heap.size = b) := ⟨_, Lib.hid rfl⟩
            have hWB : W.heap.size ≤ Bq := by rw [← hBq.out]; exact hl.out.size
            have hBr : Bq ≤ wr.heap.size := by rw [← hBq.out]; exact hlw.out.size
            have hk1 : (keyI (O.take at_)).length = at_ := by rw [keyI_len, List.length_take]; omega
            have hk2 : (keyI (O.drop at_)).length = O.length - at_ := by rw [keyI_len, List.length_drop]
            have hres : Hid (keyI (O.take at_) ++ [(x : Int)] ++ keyI (O.drop at_) = keyI (addN O x)) := Lib.hid (by rw [hadd.out]; simp [keyI])
            have hlw0 := Lib.hid hlw.out
            cases ov with
            | none =>
              have hO0 : O = [] ∧ oc = 0 := by
                rcases hrw.out.2 with ⟨h0, hz⟩ | ⟨g', c', cur, hv', _⟩
                · injection h0 with _ _ e3
                  exact ⟨List.eq_nil_of_length_eq_zero hz, e3⟩
                · cases hv'
              obtain ⟨hO1, rfl⟩ := hO0
              have hOl0 : O.length = 0 := by rw [hO1]; rfl
              have hat0 : at_ = 0 := by omega
              have hU1 : Hid (∀ w, Later wq w → U64At w (.slice none 0 0) (keyI (O.take at_))) := Lib.hid (fun w _ => by rw [hO1, List.take_nil]; exact ⟨none, 0, rfl, fun _ => rfl, fun k hk => absurd hk (Nat.not_lt_zero _)⟩)
              have hU2 : Hid (∀ w, Later wq w → U64At w (.slice none 0 0) (keyI (O.drop at_))) := Lib.hid (fun w _ => by rw [hO1, List.drop_nil]; exact ⟨none, 0, rfl, fun _ => rfl, fun k hk => absurd hk (Nat.not_lt_zero _)⟩)
              rw [hOl0, hat0]
              clear hO1
              obtain ⟨v1, w1, hap1, hr1, hg1⟩ := run_append_u64s wr Bq (.slice none 0 0) [] (World.ownsRow_nil _ _ _ _) _ (keyI (O.take at_)) (hU1.out wr hlw0.out) (by rw [hk1, List.length_nil]; omega) hBr
              rw [List.nil_append] at hr1
              have hl1 : Later wq w1 := later_own4 hlw0.out (World.ownsRow_nil wr Bq 22 1) (Nat.le_of_eq hBq.out) hg1
              have hlA := hl1.alloc (.cells #[.int .u64 x] 22)
              obtain ⟨v2, w2, hap2, hr2, hg2⟩ := run_append_u64s (w1.alloc (.cells #[.int .u64 x] 22)) Bq v1 (keyI (O.take at_)) (hr1.alloc _) _ [(x : Int)] (u64_one w1 x) (by rw [hk1]; show _ + 1 ≤ _; omega) (by rw [← hBq.out]; exact hlA.size)
              have hl2 : Later wq w2 := later_own4 hlA (hr1.alloc _) (Nat.le_of_eq hBq.out) hg2
              obtain ⟨v3, w3, hap3, hr3, hg3⟩ := run_append_u64s w2 Bq v2 (keyI (O.take at_) ++ [(x : Int)]) hr2 _ (keyI (O.drop at_)) (hU2.out w2 hl2) (by rw [List.length_append, hk1, hk2]; show _ + 1 + _ ≤ _; omega) (by rw [← hBq.out]; exact hl2.size)
              have hl3 : Hid (Later wq w3) := Lib.hid (later_own4 hl2 hr2 (Nat.le_of_eq hBq.out) hg3)
              rw [hres.out] at hr3
              replace hr3 := Lib.hid hr3
              have c0w := hl1.cell c0h.out
              have hyw := hl1.cell hyh.out
              clear hg1 hg2 hg3 hr1 hr2 hl1 hlA hl2 hk1 hk2
              go_wp2_with fail
              go_roundg (n - i)
              case measure => omega
              case rel =>
                refine ⟨i + 1, by omega, by omega, by go_num, ?_, Lib.hid (hl.out.trans hl3.out)⟩
                rw [hsu.out]
                have e : (keyI (addN O x)).length = (addN O x).length := keyI_len _
                rw [← e]
                exact Lib.hid (row_base hr3.out hWB)
            | some ad =>
              obtain ⟨g2, rfl, -, -⟩ := u64_parts hrw.out (show at_ ≤ O.length by omega)
              have hpt : Hid (∀ w, Later wq w → U64At w (.slice (some ⟨g2, 0, none⟩) at_ oc) (keyI (O.take at_)) ∧ U64At w (.slice (some ⟨g2, at_, none⟩) (O.length - at_) (oc - at_)) (keyI (O.drop at_))) := Lib.hid (fun w hw => by
                obtain ⟨g3, e, h1, h2⟩ := u64_parts (row_later hrow.out hw) (show at_ ≤ O.length by omega)
                injection e with e
                subst e
                exact ⟨h1, h2⟩)
              have hU1 := Lib.hid (fun w hw => (hpt.out w hw).1)
              have hao : (at_ : Int) ≤ (oc : Int) := by omega
              have haO : (at_ : Int) ≤ (O.length : Int) := by omega
              by_cases hac : at_ = oc
              · subst hac
                have hU2 : Hid (∀ w, Later wq w → U64At w (.slice (some ⟨g2, 0, none⟩) 0 0) (keyI (O.drop at_))) := Lib.hid (fun w _ => ⟨_, 0, by rw [keyI_len, List.length_drop, show O.length - at_ = 0 by omega], fun e => by (cases e), fun k hk => by rw [keyI_len, List.length_drop] at hk; omega⟩)
                obtain ⟨v1, w1, hap1, hr1, hg1⟩ := run_append_u64s wr Bq (.slice none 0 0) [] (World.ownsRow_nil _ _ _ _) _ (keyI (O.take at_)) (hU1.out wr hlw0.out) (by rw [hk1, List.length_nil]; omega) hBr
                rw [List.nil_append] at hr1
                have hl1 : Later wq w1 := later_own4 hlw0.out (World.ownsRow_nil wr Bq 22 1) (Nat.le_of_eq hBq.out) hg1
                have hlA := hl1.alloc (.cells #[.int .u64 x] 22)
                obtain ⟨v2, w2, hap2, hr2, hg2⟩ := run_append_u64s (w1.alloc (.cells #[.int .u64 x] 22)) Bq v1 (keyI (O.take at_)) (hr1.alloc _) _ [(x : Int)] (u64_one w1 x) (by rw [hk1]; show _ + 1 ≤ _; omega) (by rw [← hBq.out]; exact hlA.size)
                have hl2 : Later wq w2 := later_own4 hlA (hr1.alloc _) (Nat.le_of_eq hBq.out) hg2
                obtain ⟨v3, w3, hap3, hr3, hg3⟩ := run_append_u64s w2 Bq v2 (keyI (O.take at_) ++ [(x : Int)]) hr2 _ (keyI (O.drop at_)) (hU2.out w2 hl2) (by rw [List.length_append, hk1, hk2]; show _ + 1 + _ ≤ _; omega) (by rw [← hBq.out]; exact hl2.size)
                have hl3 : Hid (Later wq w3) := Lib.hid (later_own4 hl2 hr2 (Nat.le_of_eq hBq.out) hg3)
                rw [hres.out] at hr3
                replace hr3 := Lib.hid hr3
                have c0w := hl1.cell c0h.out
                have hyw := hl1.cell hyh.out
                clear hg1 hg2 hg3 hr1 hr2 hl1 hlA hl2 hk1 hk2
                go_wp2_with fail
                go_roundg (n - i)
                case measure => omega
                case rel =>
                  refine ⟨i + 1, by omega, by omega, by go_num, ?_, Lib.hid (hl.out.trans hl3.out)⟩
                  rw [hsu.out]
                  have e : (keyI (addN O x)).length = (addN O x).length := keyI_len _
                  rw [← e]
                  exact Lib.hid (row_base hr3.out hWB)
              · have hU2 := Lib.hid (fun w hw => (hpt.out w hw).2)
                have hac2 : ¬ oc - at_ = 0 := by omega
                have hac3 : ¬ (at_ : Int) = (oc : Int) := by omega
                obtain ⟨v1, w1, hap1, hr1, hg1⟩ := run_append_u64s wr Bq (.slice none 0 0) [] (World.ownsRow_nil _ _ _ _) _ (keyI (O.take at_)) (hU1.out wr hlw0.out) (by rw [hk1, List.length_nil]; omega) hBr
                rw [List.nil_append] at hr1
                have hl1 : Later wq w1 := later_own4 hlw0.out (World.ownsRow_nil wr Bq 22 1) (Nat.le_of_eq hBq.out) hg1
                have hlA := hl1.alloc (.cells #[.int .u64 x] 22)
                obtain ⟨v2, w2, hap2, hr2, hg2⟩ := run_append_u64s (w1.alloc (.cells #[.int .u64 x] 22)) Bq v1 (keyI (O.take at_)) (hr1.alloc _) _ [(x : Int)] (u64_one w1 x) (by rw [hk1]; show _ + 1 ≤ _; omega) (by rw [← hBq.out]; exact hlA.size)
                have hl2 : Later wq w2 := later_own4 hlA (hr1.alloc _) (Nat.le_of_eq hBq.out) hg2
                obtain ⟨v3, w3, hap3, hr3, hg3⟩ := run_append_u64s w2 Bq v2 (keyI (O.take at_) ++ [(x : Int)]) hr2 _ (keyI (O.drop at_)) (hU2.out w2 hl2) (by rw [List.length_append, hk1, hk2]; show _ + 1 + _ ≤ _; omega) (by rw [← hBq.out]; exact hl2.size)
                have hl3 : Hid (Later wq w3) := Lib.hid (later_own4 hl2 hr2 (Nat.le_of_eq hBq.out) hg3)
                rw [hres.out] at hr3
                replace hr3 := Lib.hid hr3
                have c0w := hl1.cell c0h.out
                have hyw := hl1.cell hyh.out
                clear hg1 hg2 hg3 hr1 hr2 hl1 hlA hl2 hk1 hk2
                go_wp2_with fail
                go_roundg (n - i)
                case measure => omega
                case rel =>
                  refine ⟨i + 1, by omega, by omega, by go_num, ?_, Lib.hid (hl.out.trans hl3.out)⟩
                  rw [hsu.out]
                  have e : (keyI (addN O x)).length = (addN O x).length := keyI_len _
                  rw [← e]
                  exact Lib.hid (row_base hr3.out hWB)
        | succ j =>
          obtain ⟨z, hz⟩ : ∃ z, O[j]? = some z := ⟨O[j]'(by omega), List.getElem?_eq_getElem _⟩
          have hfs := Lib.hid (fstG_step x hz)
          have hms := Lib.hid (metG_step x hz)
          obtain ⟨g2, rfl, cz⟩ := own_cell (row_later hrow.out hlw.out) (keyI_len O) (show j < O.length by omega)
          rw [keyI_at hz] at cz
          have c0' := hlw.out.cell c0h.out
          have hy2 := hlw.out.cell hyh.out
          have hjj : (((j + 1 : Nat) : Int) - 1) = (j : Int) := by omega
          have hjO : (j : Int) < (O.length : Int) := by omega
          rw [hat.out] at *
          clear hz
          rw [hjj]
          cases hb : metG O x (j + 1) with
          | true =>
            rw [hb] at hms
            clear hb
            by_cases hyx : x < z
            · have e1 : (x : Int) < (z : Int) := by omega
              go_wp2_with fail
              go_quiet (fail)
              go_wp2_with fail
              go_quiet (fail)
              go_wp2_with fail
              go_roundg (j + 1)
              case measure => omega
              case rel => exact ⟨j, rfl, by omega, by rw [hms.out]; simp [hyx], by rw [hfs.out]; simp [hyx], by go_num, Lib.hid (hlw.out.drewN _)⟩
            · have e1 : ¬ (x : Int) < (z : Int) := by omega
              go_wp2_with fail
              go_quiet (fail)
              go_wp2_with fail
              go_quiet (fail)
              go_wp2_with fail
              go_roundg (j + 1)
              case measure => omega
              case rel => exact ⟨j, rfl, by omega, by rw [hms.out]; simp [hyx], by rw [hfs.out]; simp [hyx], by go_num, Lib.hid (hlw.out.drewN _)⟩
          | false =>
            rw [hb] at hms
            clear hb
            by_cases hyx : x < z
            · have e1 : (x : Int) < (z : Int) := by omega
              have e2 : ((z : Int) == (x : Int)) = false := by simp; omega
              have e3 : (z == x) = false := by simp; omega
              rw [e3] at hms
              go_wp2_with fail
              go_quiet (fail)
              go_wp2_with fail
              go_quiet (fail)
              go_wp2_with fail
              go_roundg (j + 1)
              case measure => omega
              case rel => exact ⟨j, rfl, by omega, by rw [hms.out]; simp [hyx], by rw [hfs.out]; simp [hyx], by go_num, Lib.hid (hlw.out.drewN _)⟩
            · have e1 : ¬ (x : Int) < (z : Int) := by omega
              by_cases hzx : z = x
              · subst hzx
                have e2 : ((z : Int) == (z : Int)) = true := by simp
                go_wp2_with fail
                go_quiet (fail)
                go_wp2_with fail
                go_quiet (fail)
                go_wp2_with fail
                go_roundg (j + 1)
                case measure => omega
                case rel => exact ⟨j, rfl, by omega, by rw [hms.out]; simp [hyx], by rw [hfs.out]; simp [hyx], by go_num, Lib.hid (hlw.out.drewN _)⟩
              · have e2 : ((z : Int) == (x : Int)) = false := by simp; omega
                have e3 : (z == x) = false := by simp; omega
                rw [e3] at hms
                go_wp2_with fail
                go_quiet (fail)
                go_wp2_with fail
                go_quiet (fail)
                go_wp2_with fail
                go_roundg (j + 1)
                case measure => omega
                case rel => exact ⟨j, rfl, by omega, by rw [hms.out]; simp [hyx], by rw [hfs.out]; simp [hyx], by go_num, Lib.hid (hlw.out.drewN _)⟩
    · obtain rfl : n = i := by omega
      have hii : ¬ (n : Int) < (n : Int) := by omega
      have e : P.take n = P := List.take_of_length_le (by rw [hn'.out]; exact Nat.le_refl _)
      have hr1 := Lib.hid hrow.out
      rw [e] at hr1
      rw [e]
      clear e hrow
      go_wp2_with fail
      go_ret
      exact ⟨_, rfl, hr1.out, hl.out⟩
end Go.Proofs.Ytjelfiljebamgaa
