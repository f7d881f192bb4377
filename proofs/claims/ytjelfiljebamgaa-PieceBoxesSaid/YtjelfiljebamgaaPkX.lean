/-
  Chapter 5, the document's answer: a number's bytes; its writer.
-/
import Derived.Test.YtjelfiljebamgaaPkV
namespace Go.Proofs.Ytjelfiljebamgaa
open Go.RowKit Go.Shelf
set_option linter.unusedVariables false
set_option linter.unusedSimpArgs false
attribute [local go_sem] Oper.semAt_some

theorem later_own {X w w' : World} {base e k : Nat} {v : Value} {xs : List Value} (h : Later X w) (hr : w.ownsRow base e 1 v k xs) (hb : X.heap.size ≤ base) (hg : w.grownBy w' v.ownBlock) : Later X w' :=
  ⟨hg.os.trans h.os, hg.tape.trans h.tape, hg.output.trans h.output, Nat.le_trans h.size hg.size, fun k hk => (hg.block k (Nat.lt_of_lt_of_le hk h.size) (own_ge hr (by omega))).trans (h.block k hk)⟩

set_option maxRecDepth 100000 in
theorem form05_any (n : Nat) (W : World) (hn : n < 18446744073709551616) :
    Calls Try.prog 82 #[.int .u64 n] W fun e w' => ∃ v, e = .returned v ∧ w'.ownsRow W.heap.size 5 1 v (fm n).length (encB (fm n)) ∧ Later W w' := by
  obtain ⟨i0, hi0, hz0, hz1, hz2⟩ := info_parts info_u8
  have hML : 4096 < maxLen := by decide
  go_enter Try.func82, Try.ntmps82
  go_wp2_with fail
  go_loopg [0, 3, 4] n (fun g y o z wr => ∃ (m : Nat) (pre : List Int), g = m ∧ m ≤ n ∧ y = .int .u64 m ∧ z = .int .i64 pre.length ∧ pre ++ fm m = fm n ∧ wr.ownsRow W.heap.size 5 1 o pre.length (encB pre) ∧ Later W wr)
  case atStart => exact ⟨n, [], rfl, Nat.le_refl _, rfl, rfl, rfl, World.ownsRow_nil _ _ _ _, Later.refl _⟩
  case round =>
    obtain ⟨m, pre, rfl, hmn, rfl, rfl, hpre, hrow, hl⟩ := hrel
    obtain ⟨wo, rfl⟩ : ∃ wo : World, wo = wr := ⟨_, rfl⟩
    have hfm := fm_eq (n := gk) (by omega)
    have hpl : pre.length ≤ 9 := by
      have h1 := congrArg List.length hpre
      rw [List.length_append] at h1
      have := fm_len gk; have := fm_len n; omega
    have hsz := hl.size
    obtain ⟨pn, hpn⟩ : ∃ k, Hid (pre.length = k) := ⟨_, rfl⟩
    rw [hpn.out] at hpl hrow ⊢
    by_cases h128 : gk < 128
    · have hmod : (gk : Int) % 256 = gk := by omega
      rw [if_pos h128] at hfm
      go_wp2_with (at_builtin; refine wpList_append_own _ rfl _ _ 23 rfl W.heap.size 5 i0 (.int .u8 0) 1 1 Try.underlying23 hi0 hz0 hz1 hz2 rfl (by decide) _ _ _ rfl (hrow.alloc _) ⟨wo.heap.size, 0, none⟩ 1 1 [.int .u8 gk] rfl rfl (World.news_of_block (heap_alloc_new _ _)) (by simp [Value.oneCell']) (by omega) (by omega) (by simp; omega) ?_; intro v' w8 hown' hgrow _)
      go_ret
      refine ⟨_, rfl, ?_, later_own (hl.alloc _) (hrow.alloc _) (Nat.le_refl _) hgrow⟩
      rw [← hpre, hfm, List.length_append]
      have e := hpn.out
      unfold encB at hown' ⊢
      rw [List.map_append, e]; exact hown'
    · have h128' : (128 : Int) ≤ (gk : Int) := by omega
      obtain ⟨x, hx⟩ : ∃ x : Int, Hid (((128 + gk % 128 : Nat) : Int) = x) := ⟨_, rfl⟩
      rw [if_neg h128, hx.out] at hfm
      have hx1 : (128 : Int) + (gk : Int) % 128 = x := by have := hx.out; omega
      have hx2 : x % 256 = x := by have := hx.out; omega
      have hx3 : 0 ≤ x ∧ x ≤ 255 := by have := hx.out; omega
      go_wp2_with (at_builtin; refine wpList_append_own _ rfl _ _ 23 rfl W.heap.size 5 i0 (.int .u8 0) 1 1 Try.underlying23 hi0 hz0 hz1 hz2 rfl (by decide) _ _ _ rfl (hrow.alloc _) ⟨wo.heap.size, 0, none⟩ 1 1 [.int .u8 x] rfl rfl (World.news_of_block (heap_alloc_new _ _)) (by simp [Value.oneCell']) (by omega) (by omega) (by simp; omega) ?_; intro v' w8 hown' hgrow _)
      go_roundg (gk / 128)
      case measure => omega
      case rel =>
        refine ⟨gk / 128, pre ++ [x], rfl, by omega, by congr 1, ?_, by rw [List.append_assoc, List.singleton_append, ← hfm]; exact hpre, ?_, later_own (hl.alloc _) (hrow.alloc _) (Nat.le_refl _) hgrow⟩
        · rw [List.length_append]; have := hpn.out; congr 1; simp; omega
        · rw [List.length_append]
          have e := hpn.out
          unfold encB at hown' ⊢
          rw [List.map_append, e]; exact hown'

/-- The document's writer that is not spoilt. -/
structure RwB (W : World) (p : Nat) (v : Value) (L : List Int) : Prop where
  head : W.heap[p]? = some (.cells #[v, .bool false] 106 (0, 0))
  val : BytV W v L
  ne : In v (· ≠ p)
  ty : U8b W v
theorem RwB.lt {W : World} {p : Nat} {v : Value} {L : List Int} (h : RwB W p v L) : p < W.heap.size := (Array.getElem?_eq_some_iff.1 h.head).1
theorem RwB.later {W W' : World} {p : Nat} {v : Value} {L : List Int} (h : RwB W p v L) (hl : Later W W') : RwB W' p v L := ⟨(hl.block p h.lt).trans h.head, h.val.later hl, h.ne, h.ty.later hl⟩
theorem heap_set2a (W : World) (b : Nat) (x y : Value) (t : TypeId) (u : Value) (h : W.heap[b]? = some (.cells #[x, y] t (0, 0))) : (W.setCell ⟨b, 0, none⟩ u).heap[b]? = some (.cells #[u, y] t (0, 0)) := by
  obtain ⟨hlt, hb⟩ := Array.getElem?_eq_some_iff.1 h
  show (W.heap.modify b _)[b]? = _
  rw [Array.getElem?_eq_getElem (by rw [Array.size_modify]; exact hlt), Array.getElem_modify_self, hb]
  rfl
theorem heap_set2b (W : World) (b : Nat) (x y : Value) (t : TypeId) (u : Value) (h : W.heap[b]? = some (.cells #[x, y] t (0, 0))) : (W.setCell ⟨b, 1, none⟩ u).heap[b]? = some (.cells #[x, u] t (0, 0)) := by
  obtain ⟨hlt, hb⟩ := Array.getElem?_eq_some_iff.1 h
  show (W.heap.modify b _)[b]? = _
  rw [Array.getElem?_eq_getElem (by rw [Array.size_modify]; exact hlt), Array.getElem_modify_self, hb]
  rfl
set_option maxRecDepth 100000 in
theorem put05_any (p : Nat) (v u : Value) (L D : List Int) (W : World) (h : RwB W p v L) (hu : BytV W u D) (hi : In u (· ≠ p)) (hD : 0 < D.length) (hlen : L.length + D.length ≤ 1000000) :
    Calls Try.prog 81 #[wp p, u, .bool true] W fun e w' => e = .returned (.tuple #[]) ∧ (∃ v', RwB w' p v' (L ++ D)) ∧ W.grownBy w' (some p) := by
  have c1 : W.cell? ⟨p, 1, none⟩ = some (.bool false) := cell_of_row W p 1 _ _ _ h.head
  have f1 := frozen_row h.head 1
  have k1 := heap_set2b W p _ _ _ (.bool false) h.head
  obtain ⟨X, hX⟩ : ∃ X, X = W.setCell ⟨p, 1, none⟩ (.bool false) := ⟨_, rfl⟩
  have hgX : W.grownBy X (some p) := by rw [hX]; exact grownBy_set W p 1 _
  have hvX : BytV X v L := h.val.stay h.ne (fun g hg hl => hgX.block g hl (by simp; exact hg))
  have huX : BytV X u D := hu.stay hi (fun g hg hl => hgX.block g hl (by simp; exact hg))
  rw [← hX] at k1
  have hpl := h.lt
  have hsz := hgX.size
  have hb1 := hvX.1
  have hb2 := huX.1
  have huX' := Lib.hid huX
  have hvX' := Lib.hid hvX
  clear h hu hvX huX
  go_enter Try.func81, Try.ntmps81
  go_upto_region 1 with fail
  rw [← hX]
  clear hX c1 f1
  have c0 : X.cell? ⟨p, 0, none⟩ = some v := cell_of_row X p 0 _ _ _ k1
  have c1 : X.cell? ⟨p, 1, none⟩ = some (.bool false) := cell_of_row X p 1 _ _ _ k1
  have hnil : X.ownsRow X.heap.size 5 1 (.slice none 0 0) ([] : List Int).length (encB []) := World.ownsRow_nil _ _ _ _
  have hpX : p < X.heap.size := (Array.getElem?_eq_some_iff.1 k1).1
  have hl1 : ([] : List Int).length + L.length ≤ 2000000 := by simp; omega
  have hl2 : ([] ++ L : List Int).length + D.length ≤ 2000000 := by simp; omega
  have hpos : 0 < (([] ++ L : List Int) ++ D).length := by simp; omega
  have hXX : X.heap.size ≤ X.heap.size := Nat.le_refl _
  go_wp2_with (first | (at_builtin; refine wpList_append_bytes rfl _ _ rfl X.heap.size _ [] rfl hnil _ rfl L hvX'.out hl1 hXX ?_; intro v2 w5 hr5 hg5 hn5; have hL5 := later_own (Later.refl X) hnil (Nat.le_refl _) hg5; have c5 := hL5.cell c0; have hs5 := hL5.size) | (at_builtin; refine wpList_append_bytes rfl _ _ rfl X.heap.size _ _ rfl hr5 _ rfl D (huX'.out.later hL5) hl2 hs5 ?_; intro v3 w6 hr6 hg6 hn6; have hL6 := later_own hL5 hr5 (Nat.le_refl _) hg6; have c6 := hL6.cell c0; have f6 := hL6.frozen c0 (frozen_row k1 0); obtain ⟨g2, c2, n2, hn2, rfl⟩ := row_pos hr6 hpos))
  go_end0
  have h6p := (hL6.block p hpX).trans k1
  have hrow := ownsRow_setCell_below hr6 (a := ⟨p, 0, none⟩) (show p < X.heap.size from hpX) (.slice (some ⟨g2, 0, none⟩) n2 c2)
  rw [List.nil_append] at hrow
  obtain ⟨q1, q2⟩ := bytV_of_row (hb1.append hb2) hrow
  exact ⟨rfl, ⟨_, heap_set2a w6 p _ _ _ _ h6p, q1, q2.mono (fun g hg e => by subst e; omega), U8b.of_row hrow⟩, grown_but (grown_but hgX hL6.grown (fun r e => by cases e)) (grownBy_set w6 p 0 _) (fun r e => .inl (Option.some.inj e).symm)⟩
theorem uint05_any (p n : Nat) (v : Value) (L : List Int) (W : World) (h : RwB W p v L) (hn : n < 18446744073709551616) (hL : L.length ≤ 900000) :
    Calls Try.prog 48 #[wp p, .int .u64 n] W fun e w' => e = .returned (.tuple #[]) ∧ (∃ v', RwB w' p v' (L ++ fm n)) ∧ W.grownBy w' (some p) := by
  have hfl := fm_len n
  have hpl := h.lt
  go_enter Try.func48, Try.ntmps48
  go_wp2_with fail
  refine (form05_any n W hn).mono ?_
  rintro e w1 ⟨u, rfl, hr, hl⟩
  obtain ⟨q1, q2⟩ := bytV_of_row (fm_byt hn) hr
  go_wp2_with fail
  refine (put05_any p v u L (fm n) w1 (h.later hl) q1 (q2.mono (fun g hg e => by subst e; omega)) (by omega) (by omega)).mono ?_
  rintro e w2 ⟨rfl, hw, hg⟩
  go_wp2_with fail
  go_end0
  exact ⟨rfl, hw, grown_but (grown_some hl.grown) hg (fun r e => .inl (Option.some.inj e).symm)⟩
set_option maxRecDepth 100000 in
theorem text05_any (p m : Nat) (v u : Value) (L D : List Int) (W : World) (h : RwB W p v L) (hu : BytV W u D) (hm : D.length ≤ m) (hL : L.length ≤ 100000) (hD : D.length ≤ 100000) :
    Calls Try.prog 49 #[wp p, u, .int .i64 m] W fun e w' => e = .returned (.tuple #[]) ∧ (∃ v', RwB w' p v' (L ++ fm D.length ++ D)) ∧ W.grownBy w' (some p) := by
  have hfl := fm_len D.length
  have hfb := fm_byt (n := D.length) (by omega)
  have hpl := h.lt
  obtain ⟨ao, cap, hue⟩ : ∃ ao cap, u = .slice ao D.length cap := by
    obtain ⟨_, ao, cap, e, _⟩ := hu
    exact ⟨ao, cap, e⟩
  subst hue
  have hF := Lib.hid (form05_any D.length W (by omega))
  have hbD := hu.1
  obtain ⟨n, hnn⟩ : ∃ n, Hid (D.length = n) := ⟨_, rfl⟩
  rw [hnn.out] at hF hu hm hfl hfb hD ⊢
  have hu := Lib.hid hu
  have hmD : (n : Int) ≤ (m : Int) := by omega
  go_enter Try.func49, Try.ntmps49
  go_wp2_with fail
  refine hF.out.mono ?_
  rintro e w1 ⟨u1, rfl, hr, hl⟩
  have hl2 : (fm n).length + D.length ≤ 2000000 := by have := hnn.out; omega
  have hs1 := hl.size
  go_wp2_with (at_builtin; refine wpList_append_bytes rfl _ _ rfl W.heap.size _ (fm n) rfl hr _ rfl D (hu.out.later hl) hl2 hs1 ?_; intro v2 w5 hr5 hg5 hn5; have hL5 := later_own hl hr (Nat.le_refl _) hg5)
  obtain ⟨q1, q2⟩ := bytV_of_row (hfb.append hbD) hr5
  refine (put05_any p v v2 L (fm n ++ D) w5 (h.later hL5) q1 (q2.mono (fun g hg e => by subst e; omega)) (by rw [List.length_append]; omega) (by rw [List.length_append]; have := hnn.out; omega)).mono ?_
  rintro e w2 ⟨rfl, ⟨v', hw⟩, hg⟩
  go_wp2_with fail
  go_end0
  exact ⟨rfl, ⟨v', by rw [List.append_assoc]; exact hw⟩, grown_but (grown_some hL5.grown) hg (fun r e => .inl (Option.some.inj e).symm)⟩
theorem rw_step {X W W' : World} {p : Nat} (h : Later X W) (hg : W.grownBy W' (some p)) (hp : X.heap.size ≤ p) : Later X W' :=
  ⟨hg.os.trans h.os, hg.tape.trans h.tape, hg.output.trans h.output, Nat.le_trans h.size hg.size, fun k hk => (hg.block k (Nat.lt_of_lt_of_le hk h.size) (fun e => by cases e; omega)).trans (h.block k hk)⟩
theorem grown_c {W W' : World} {p b o : Nat} {v : Value} (hg : W.grownBy W' (some p)) (hc : W.cell? ⟨b, o, none⟩ = some v) (hne : b ≠ p) : W'.cell? ⟨b, o, none⟩ = some v :=
  (World.cell?_of_block (a := ⟨b, o, none⟩) (hg.block b (cell_lt hc) (fun e => hne (by injection e)))).trans hc
theorem BytV.grown {W W' : World} {p : Nat} {v : Value} {L : List Int} (h : BytV W v L) (hg : W.grownBy W' (some p)) (hi : In v (· ≠ p)) : BytV W' v L :=
  h.stay hi (fun g hn hl => hg.block g hl (fun e => hn (by injection e)))
theorem row_mono {W : World} {base base' e k : Nat} {v : Value} {xs : List Value} (h : W.ownsRow base e 1 v k xs) (hb : base' ≤ base) : W.ownsRow base' e 1 v k xs := by
  refine ⟨h.1, ?_⟩
  rcases h.2 with h0 | ⟨g, cap, cur, h1, h2, h3⟩
  · exact .inl h0
  · exact .inr ⟨g, cap, cur, h1, Nat.le_trans hb h2, h3⟩
end Go.Proofs.Ytjelfiljebamgaa
