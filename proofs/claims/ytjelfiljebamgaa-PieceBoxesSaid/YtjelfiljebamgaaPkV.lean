/-
  Chapter 5: bytes in memory; a copy of them; a writer's other calls.
-/
import Derived.Laws.AppendOwnNone
import Derived.Test.YtjelfiljebamgaaPkU
namespace Go.Proofs.Ytjelfiljebamgaa
open Go.RowKit Go.Shelf
set_option linter.unusedVariables false
set_option linter.unusedSimpArgs false
attribute [local go_sem] Oper.semAt_some

def encB (L : List Int) : List Value := L.map (Value.int .u8)
/-- A slice of bytes: what it holds. -/
def BytV (w : World) (v : Value) (L : List Int) : Prop :=
  Byt L ∧ ∃ ao cap, v = .slice ao L.length cap ∧ (L.length ≤ cap ∧ (ao = none → cap = 0)) ∧ ∀ k, k < L.length → ∃ g o, ao = some ⟨g, o, none⟩ ∧ w.cell? ⟨g, o + k, none⟩ = some (.int .u8 (L.getD k 0))
/-- Where it lies, if it is not empty. -/
def In (v : Value) (P : Nat → Prop) : Prop := ∀ g o s len cap, v = .slice (some ⟨g, o, s⟩) len cap → 0 < len → P g
theorem BytV.later {w w' : World} {v : Value} {L : List Int} (h : BytV w v L) (hl : Later w w') : BytV w' v L := by
  obtain ⟨hb, ao, cap, rfl, hc, hv⟩ := h
  exact ⟨hb, ao, cap, rfl, hc, fun k hk => by obtain ⟨g, o, e, h1⟩ := hv k hk; exact ⟨g, o, e, hl.cell h1⟩⟩
theorem BytV.lt {w : World} {v : Value} {L : List Int} (h : BytV w v L) : In v (· < w.heap.size) := by
  obtain ⟨hb, ao, cap, rfl, hc, hv⟩ := h
  intro g o s len cap' e hl
  injection e with e1 e2 e3
  obtain ⟨g', o', e4, h1⟩ := hv 0 (by omega)
  rw [e1] at e4; injection e4 with e4; injection e4 with e4 e5 e6
  have := cell_lt h1
  rw [← e4] at this; exact this
theorem BytV.stay {w w' : World} {v : Value} {L : List Int} (h : BytV w v L) {P : Nat → Prop} (hi : In v P) (hs : ∀ g, P g → g < w.heap.size → w'.heap[g]? = w.heap[g]?) : BytV w' v L := by
  have hlt := h.lt
  obtain ⟨hb, ao, cap, rfl, hc, hv⟩ := h
  refine ⟨hb, ao, cap, rfl, hc, fun k hk => ?_⟩
  obtain ⟨g, o, rfl, h1⟩ := hv k hk
  exact ⟨g, o, rfl, (World.cell?_of_block (a := ⟨g, o + k, none⟩) (hs g (hi g o none _ _ rfl (by omega)) (hlt g o none _ _ rfl (by omega)))).trans h1⟩
theorem BytV.ws {base p n : Nat} {w w' : World} {v : Value} {L : List Int} (h : BytV w v L) (hw : WS base p w w') (hi : In v (fun g => g < base ∧ g ≠ p)) : BytV w' v L :=
  h.stay hi (fun g hg hl => hw.block g hl hg.2 (.inl hg.1))
theorem In.mono {v : Value} {P Q : Nat → Prop} (h : In v P) (k : ∀ g, P g → Q g) : In v Q := fun g o s len cap e hl => k g (h g o s len cap e hl)
theorem bytV_of_row {w : World} {base : Nat} {v : Value} {L : List Int} (hb : Byt L) (h : w.ownsRow base 5 1 v L.length (encB L)) : BytV w v L ∧ In v (base ≤ ·) := by
  rcases h.2 with ⟨rfl, h0⟩ | ⟨g, cap, cur, rfl, hg, _, hcap, _⟩
  · exact ⟨⟨hb, none, 0, by rw [h0], ⟨by omega, fun _ => rfl⟩, fun k hk => by omega⟩, fun g o s len cap e => by cases e⟩
  · refine ⟨⟨hb, some ⟨g, 0, none⟩, cap, rfl, ⟨hcap, fun e => by cases e⟩, fun k hk => ⟨g, 0, rfl, ?_⟩⟩, fun g' o s len cap e _ => by cases e; exact hg⟩
    rw [Nat.zero_add]
    refine (h.cellAt k (by omega)).trans ?_
    unfold encB
    rw [List.getElem?_map, List.getElem?_eq_getElem hk, List.getD_eq_getElem?_getD, List.getElem?_eq_getElem hk]; rfl

/-- Bytes are appended to the call's own row. -/
theorem wpList_append_bytes {ops : Array Oper} {rest : List Oper} {o : Oper} {a : Act} {w : World} {Q : Exit → Act → World → Prop} (hgd : o.guard = none) (s x : Operand)
    (ho : o.op = .call { callee := .builtin .append, args := #[s, x], argTypes := #[23, 23] })
    (base : Nat) (v : Value) (xs : List Int) (hs : a.eval s = v) (hown : w.ownsRow base 5 1 v xs.length (encB xs))
    (u : Value) (hx : a.eval x = u) (L : List Int) (hu : BytV w u L) (hlen : xs.length + L.length ≤ 2000000) (hbase : base ≤ w.heap.size)
    (h : ∀ v' w', w'.ownsRow base 5 1 v' (xs ++ L).length (encB (xs ++ L)) → w.grownBy w' v.ownBlock → (v ≠ .slice none 0 0 → v' ≠ .slice none 0 0) → wpList Try.prog ops Q rest (a.put o.dst v') w') : wpList Try.prog ops Q (o :: rest) a w := by
  obtain ⟨i0, hi, hz0, hz1, hz2⟩ := info_parts info_u8
  obtain ⟨_, ao, cap, rfl, hf, hv⟩ := hu
  have hML : 2000000 < maxLen := by decide
  cases ao with
  | none =>
    obtain rfl : cap = 0 := hf.2 rfl
    have hL0 : L = [] := by
      cases L with
      | nil => rfl
      | cons y L => obtain ⟨g, o, e, _⟩ := hv 0 (by simp); cases e
    subst hL0
    refine wpList_append_own_none hgd s x 23 ho base 5 i0 1 Try.underlying23 hi v xs.length (encB xs) hs hown hx (h v w ?_ ?_ (fun h => h))
    · rw [List.append_nil]; exact hown
    · exact ⟨rfl, rfl, rfl, Nat.le_refl _, fun _ _ _ => rfl⟩
  | some ad =>
    refine wpList_append_own w hgd s x 23 ho base 5 i0 (.int .u8 0) 1 1 Try.underlying23 hi hz0 hz1 hz2 rfl (by decide) v xs.length (encB xs) hs hown ad L.length cap (encB L) hx (by unfold encB; simp) ?_ ?_ (by omega) (by omega) hbase
      (fun v' w' h1 h2 h3 => h v' w' ?_ h2 (fun hne e => hne (h3.1 e).1))
    · intro j y hj
      unfold encB at hj
      rw [List.getElem?_map] at hj
      have hjl : j < L.length := by
        by_cases hjl : j < L.length
        · exact hjl
        · rw [List.getElem?_eq_none (by omega)] at hj; cases hj
      rw [List.getElem?_eq_getElem hjl] at hj
      obtain ⟨g, o, e, hc⟩ := hv j hjl
      cases e
      rw [List.getD_eq_getElem?_getD, List.getElem?_eq_getElem hjl] at hc
      have hadd : (⟨g, o, none⟩ : Addr).add j = ⟨g, o + j, none⟩ := by unfold Addr.add; split <;> simp_all
      rw [hadd, hc, ← hj]; rfl
    · intro y hy
      unfold encB at hy
      rw [List.mem_map] at hy
      obtain ⟨z, _, rfl⟩ := hy
      rfl
    · rw [List.length_append]
      unfold encB at h1 ⊢
      rw [List.map_append]; exact h1


theorem eq_nil_nil (W : World) : (binOp .eql 23 (.slice none 0 0) (.slice none 0 0)).run Try.prog W = .ok (.bool true) W := by kernel_rfl
theorem eq_some_nil (W : World) (ad : Addr) (n c : Nat) : (binOp .eql 23 (.slice (some ad) n c) (.slice none 0 0)).run Try.prog W = .ok (.bool false) W := by kernel_rfl
set_option maxRecDepth 100000 in
theorem clone_any (u : Value) (L : List Int) (W : World) (hu : BytV W u L) (hL : L.length ≤ 1000000) :
    Calls Try.prog 80 #[u] W fun e w' => ∃ v, e = .returned v ∧ w'.ownsRow W.heap.size 5 1 v L.length (encB L) ∧ Later W w' := by
  obtain ⟨ao, cap, rfl, hf⟩ : ∃ ao cap, u = .slice ao L.length cap ∧ (ao = none → cap = 0 ∧ L = []) := by
    obtain ⟨_, ao, cap, rfl, hf, hv⟩ := hu
    refine ⟨ao, cap, rfl, fun e => ⟨hf.2 e, ?_⟩⟩
    cases L with
    | nil => rfl
    | cons y L => obtain ⟨g, o, e', _⟩ := hv 0 (by simp); rw [e] at e'; cases e'
  cases ao with
  | none =>
    obtain ⟨rfl, rfl⟩ := hf rfl
    clear hu
    have he := eq_nil_nil
    go_enter Try.func80, Try.ntmps80
    go_wp2
    go_ret
    exact ⟨_, rfl, World.ownsRow_nil _ _ _ _, Later.refl _⟩
  | some ad =>
    clear hf
    have hl : Later W (W.alloc (.cells #[] 5)) := (Later.refl _).alloc _
    have hu' := hu.later hl
    have hown : (W.alloc (.cells #[] 5)).ownsRow W.heap.size 5 1 (.slice (some ⟨W.heap.size, 0, none⟩) 0 0) ([] : List Int).length (encB []) :=
      ⟨rfl, .inr ⟨_, _, _, rfl, Nat.le_refl _, heap_alloc_new _ _, Nat.le_refl _, by decide, rfl, rfl⟩⟩
    obtain ⟨n, hn⟩ : ∃ n, Hid (L.length = n) := ⟨_, rfl⟩
    rw [hn.out] at hu hu' hL ⊢
    replace hu' := Lib.hid hu'
    replace hown := Lib.hid hown
    clear hu
    have he := fun W => eq_some_nil W ad n cap
    go_enter Try.func80, Try.ntmps80
    go_wp2_with (at_builtin; refine wpList_append_bytes rfl _ _ rfl W.heap.size _ [] rfl hown.out _ rfl L hu'.out (by rw [hn.out]; simp; omega) (by simp) ?_; intro v1 w5 hr5 hg5 hn5)
    go_ret
    refine ⟨_, rfl, ?_, ?_⟩
    · have := hr5
      rw [List.nil_append, hn.out] at this; exact this
    · refine Below.trans hl ⟨hg5.os, hg5.tape, hg5.output, Nat.le_trans (by simp) hg5.size, fun k hk => hg5.block k (by simp; omega) (fun e => ?_)⟩
      have : k = W.heap.size := Option.some.inj e
      omega

theorem newWriter_any (W : World) :
    Calls Try.prog 42 #[] W fun e w' => e = .returned (wp W.heap.size) ∧ WrB w' (W.heap.size + 1) W.heap.size (.slice none 0 0) [] ∧ w'.heap.size = W.heap.size + 1 ∧ Later W w' := by
  go_enter Try.func42, Try.ntmps42
  go_wp2
  go_ret
  exact ⟨rfl, ⟨heap_alloc_new _ _, World.ownsRow_nil _ _ _ _, Nat.lt_succ_self _⟩, by simp, (Later.refl _).alloc _⟩
theorem small_any (base p n m : Nat) (v : Value) (L : List Int) (W : World) (h : WrB W base p v L) (hb : base ≤ W.heap.size) (hn : n ≤ m) (hm : m ≤ 4611686018427387904) (hL : L.length ≤ 1000000) :
    Calls Try.prog 44 #[wp p, .int .i64 n, .int .i64 m] W fun e w' => e = .returned (.tuple #[]) ∧ (∃ v', WrB w' base p v' (L ++ fm n)) ∧ WS base p W w' := by
  have HU := Lib.hid (uint_any base p n v L W h hb (by omega) hL)
  have h0 : (0 : Int) ≤ (n : Int) := by omega
  have hnm : (n : Int) ≤ (m : Int) := by omega
  have hmm : (n : Int) ≤ 4611686018427387904 := by omega
  clear hn hm
  go_enter Try.func44, Try.ntmps44
  go_wp2_with fail
  refine HU.out.mono ?_
  rintro e w1 ⟨rfl, hw, hs⟩
  go_wp2_with fail
  go_end0
  exact ⟨rfl, hw, hs⟩
theorem row_pos {W : World} {base e k : Nat} {v : Value} {xs : List Value} (h : W.ownsRow base e 1 v k xs) (hk : 0 < k) : ∃ g cap n, Hid (k = n) ∧ v = .slice (some ⟨g, 0, none⟩) n cap := by
  rcases h.2 with ⟨_, h0⟩ | ⟨g, cap, cur, hv, _⟩
  · omega
  · exact ⟨g, cap, k, Lib.hid rfl, hv⟩
theorem frozen_row {W : World} {p : Nat} {c : Array Value} {t : TypeId} (h : W.heap[p]? = some (.cells c t (0, 0))) (k : Nat) : W.frozen? ⟨p, k, none⟩ = false := by simp [World.frozen?, h]
set_option maxRecDepth 100000 in
theorem text_any (base p m : Nat) (v u : Value) (L D : List Int) (W : World) (h : WrB W base p v L) (hb : base ≤ W.heap.size) (hu : BytV W u D) (hi : In u (fun g => g < base ∧ g ≠ p)) (hn : D.length ≤ m) (hm : m ≤ 1000000) (hL : L.length ≤ 900000) :
    Calls Try.prog 45 #[wp p, u, .int .i64 m] W fun e w' => e = .returned (.tuple #[]) ∧ (∃ v', WrB w' base p v' (L ++ fm D.length ++ D)) ∧ WS base p W w' := by
  have HU := Lib.hid (small_any base p D.length m v L W h hb hn (by omega) (by omega))
  have hfl := fm_len D.length
  obtain ⟨ao, cap, hue⟩ : ∃ ao cap, u = .slice ao D.length cap := by
    obtain ⟨_, ao, cap, e, _⟩ := hu
    exact ⟨ao, cap, e⟩
  subst hue
  obtain ⟨n, hnn⟩ : ∃ n, Hid (D.length = n) := ⟨_, rfl⟩
  rw [hnn.out] at HU hu hi hn hfl ⊢
  have hu := Lib.hid hu
  have hbW := h.lt
  have hplo := h.lo
  clear h
  go_enter Try.func45, Try.ntmps45
  go_wp2_with fail
  refine HU.out.mono ?_
  rintro e w1 ⟨rfl, ⟨v1, hw1⟩, hs1⟩
  have hu1 := hu.out.ws (n := 0) hs1 hi
  replace hu1 := Lib.hid hu1
  clear HU hu
  go_wp2_with fail
  refine (fine_any base p v1 _ _ hw1).mono ?_
  rintro e w2 ⟨rfl, rfl⟩
  have c0 : w1.cell? ⟨p, 0, none⟩ = some v1 := hw1.cell 0
  have hsz := hs1.size
  obtain ⟨M, hM⟩ : ∃ M, Hid (L ++ fm n = M) := ⟨_, rfl⟩
  rw [hM.out] at hw1
  have hM1 : 0 < M.length := by rw [← hM.out, List.length_append]; omega
  have hMl : M.length ≤ 900010 := by rw [← hM.out, List.length_append]; omega
  have hrow := hw1.row
  have hhead := hw1.head
  have hplt := hw1.lt
  clear hw1
  go_upto_region 2 with fail
  have hlen2 : M.length + D.length ≤ 2000000 := by have := hnn.out; omega
  have hpos : 0 < (M ++ D).length := by rw [List.length_append]; exact Nat.lt_of_lt_of_le hM1 (Nat.le_add_right _ _)
  have hbs : base ≤ w1.heap.size := by omega
  go_wp2_with (at_builtin; refine wpList_append_bytes rfl _ _ rfl base _ M rfl hrow _ rfl D hu1.out hlen2 hbs ?_; intro v2 w5 hr5 hg5 hn5; have c5 := (World.cell?_of_block (a := ⟨p, 0, none⟩) (hg5.block p hplt (own_ge hrow hplo))).trans c0; have f5 := frozen_row ((hg5.block p hplt (own_ge hrow hplo)).trans hhead) 0; obtain ⟨g2, c2, n2, hn2, rfl⟩ := row_pos hr5 hpos)
  go_end0
  have h5p := (hg5.block p hplt (own_ge hrow hplo)).trans hhead
  refine ⟨rfl, ⟨_, heap_set3 w5 p _ _ _ _ _ h5p, ?_, hplo⟩, (hs1.trans (WS.own hrow rfl hg5)).trans (WS.set _)⟩
  rw [hM.out]
  exact ownsRow_setCell_below hr5 (a := ⟨p, 0, none⟩) (show p < base from hplo) _
theorem bytes_any (base p : Nat) (v : Value) (L : List Int) (W : World) (h : WrB W base p v L) (hb : Byt L) (hL : L.length ≤ 1000000) :
    Calls Try.prog 46 #[wp p] W fun e w' => ∃ u, e = .returned (.tuple #[u, .int .i64 0]) ∧ w'.ownsRow W.heap.size 5 1 u L.length (encB L) ∧ Later W w' := by
  have c0 : W.cell? ⟨p, 0, none⟩ = some v := h.cell 0
  have c1 : W.cell? ⟨p, 1, none⟩ = some (.bool true) := h.cell 1
  have c2 : W.cell? ⟨p, 2, none⟩ = some (.bool false) := h.cell 2
  have HC := Lib.hid (clone_any v L W (bytV_of_row hb h.row).1 hL)
  clear h
  go_enter Try.func46, Try.ntmps46
  go_wp2_with fail
  refine HC.out.mono ?_
  rintro e w1 ⟨u, rfl, hr, hl⟩
  go_wp2_with fail
  go_ret2
  exact ⟨u, rfl, hr, hl⟩
/-- The kind of block in which bytes lie. -/
def U8b (W : World) (v : Value) : Prop := ∀ g o s len cap, v = .slice (some ⟨g, o, s⟩) len cap → 0 < len → ∃ c fr, W.heap[g]? = some (.cells c 5 fr)
theorem U8b.later {W W' : World} {v : Value} (h : U8b W v) (hl : Later W W') : U8b W' v := fun g o s len cap e hp => by
  obtain ⟨c, fr, h1⟩ := h g o s len cap e hp
  exact ⟨c, fr, (hl.block g (Array.getElem?_eq_some_iff.1 h1).1).trans h1⟩
theorem U8b.of_row {W : World} {base k : Nat} {v : Value} {xs : List Value} (h : W.ownsRow base 5 1 v k xs) : U8b W v := fun g o s len cap e hp => by
  rcases h.2 with ⟨rfl, _⟩ | ⟨g', cap', cur, rfl, _, hgb, _⟩
  · cases e
  · cases e; exact ⟨cur, _, hgb⟩
theorem U8b.setO {W : World} {v : Value} {p : Nat} (h : U8b W v) (hne : In v (· ≠ p)) (k : Nat) (u : Value) : U8b (W.setCell ⟨p, k, none⟩ u) v := fun g o s len cap e hp => by
  obtain ⟨c, fr, h1⟩ := h g o s len cap e hp
  have hg : g ≠ p := hne g o s len cap e hp
  exact ⟨c, fr, (Below.heap_setCell _ _ _ g hg).trans h1⟩
theorem U8b.grown {W W' : World} {v : Value} {p : Nat} (h : U8b W v) (hg : W.grownBy W' (some p)) (hne : In v (· ≠ p)) : U8b W' v := fun g o s len cap e hp => by
  obtain ⟨c, fr, h1⟩ := h g o s len cap e hp
  have hn : g ≠ p := hne g o s len cap e hp
  exact ⟨c, fr, (hg.block g (Array.getElem?_eq_some_iff.1 h1).1 (fun e => hn (Option.some.inj e))).trans h1⟩
end Go.Proofs.Ytjelfiljebamgaa
