/-
  Chapter 5: a writer in memory; a number is written.
-/
import Derived.Test.YtjelfiljebamgaaPkF
namespace Go.Proofs.Ytjelfiljebamgaa
open Go.RowKit Go.Shelf
set_option linter.unusedVariables false
set_option linter.unusedSimpArgs false
attribute [local go_sem] Oper.semAt_some

/-- A writer that is not spoilt; its bytes lie in a row of its own, from base on. -/
structure WrB (W : World) (base p : Nat) (v : Value) (L : List Int) : Prop where
  head : W.heap[p]? = some (.cells #[v, .bool true, .bool false] 142 (0, 0))
  row : W.ownsRow base 5 1 v L.length (L.map (Value.int .u8))
  lo : p < base
theorem WrB.lt {W : World} {base p : Nat} {v : Value} {L : List Int} (h : WrB W base p v L) : p < W.heap.size := (Array.getElem?_eq_some_iff.1 h.head).1
theorem WrB.cell {W : World} {base p : Nat} {v : Value} {L : List Int} (h : WrB W base p v L) (k : Nat) : W.cell? ⟨p, k, none⟩ = (#[v, .bool true, .bool false] : Array Value)[k]? := cell_of_row W p k _ _ _ h.head
theorem row_later {w w' : World} {base e k : Nat} {v : Value} {xs : List Value} (hr : w.ownsRow base e 1 v k xs) (h : Later w w') : w'.ownsRow base e 1 v k xs := hr.kept h.grown (Classical.em _)
theorem WrB.later {W W' : World} {base p : Nat} {v : Value} {L : List Int} (h : WrB W base p v L) (hl : Later W W') : WrB W' base p v L := ⟨(hl.block p h.lt).trans h.head, row_later h.row hl, h.lo⟩

theorem fine_any (base p : Nat) (v : Value) (L : List Int) (W : World) (h : WrB W base p v L) :
    Calls Try.prog 77 #[wp p] W fun e w' => e = .returned (.bool true) ∧ W = w' := by
  have c1 : W.cell? ⟨p, 1, none⟩ = some (.bool true) := h.cell 1
  have c2 : W.cell? ⟨p, 2, none⟩ = some (.bool false) := h.cell 2
  go_enter Try.func77, Try.ntmps77
  go_wp2
  go_ret
  exact ⟨rfl, rfl⟩

theorem row_ne {W : World} {n₀ e size k b : Nat} {v : Value} {xs : List Value} {c : Array Value} {t : TypeId} {fr : Nat × Nat} (hrow : W.ownsRow n₀ e size v k xs) (hb : W.heap[b]? = some (.cells c t fr)) (hte : t ≠ e) : v.ownBlock ≠ some b := by
  rcases hrow.2 with ⟨rfl, _⟩ | ⟨g, cap, cur, rfl, _, hgb, _⟩
  · simp [Value.ownBlock]
  · intro h
    obtain rfl : g = b := by simpa [Value.ownBlock] using h
    rw [hgb] at hb
    injection hb with hb
    injection hb with h1 h2
    exact hte h2.symm
theorem own_ge {w : World} {base e k : Nat} {v : Value} {xs : List Value} (hr : w.ownsRow base e 1 v k xs) {j : Nat} (hj : j < base) : some j ≠ v.ownBlock := by
  intro e'
  rcases hr.2 with ⟨rfl, _⟩ | ⟨g, cap, cur, rfl, hb2, _⟩
  · simp [Value.ownBlock] at e'
  · obtain rfl : g = j := by simpa [Value.ownBlock] using e'.symm
    omega
/-- A block of cells stands where no cells are turned. -/
theorem cells_stand {X Y : World} {B : Nat} {row : Option Nat} (hg : X.grownBy Y row) (hr : ∀ r, row = some r → B ≤ r ∧ ∃ o : Obj, X.heap[r]? = some o ∧ o.isCells = false) {k : Nat} {c : Array Value} {t : TypeId} {fr : Nat × Nat} (hk : X.heap[k]? = some (.cells c t fr)) : Y.heap[k]? = some (.cells c t fr) :=
  (hg.block k (Array.getElem?_eq_some_iff.1 hk).1 (fun e => by
    obtain ⟨_, o', h1, h2⟩ := hr k e.symm
    rw [hk] at h1; cases h1; cases h2)).trans hk
theorem row_stands {X Y : World} {B base e k : Nat} {v : Value} {xs : List Value} {row : Option Nat} (h : X.ownsRow base e 1 v k xs) (hg : X.grownBy Y row) (hr : ∀ r, row = some r → B ≤ r ∧ ∃ o : Obj, X.heap[r]? = some o ∧ o.isCells = false) : Y.ownsRow base e 1 v k xs := by
  refine h.kept hg ?_
  rcases h.2 with ⟨rfl, _⟩ | ⟨g, cap, cur, rfl, _, hgb, _⟩
  · exact .inl (by simp [Value.ownBlock])
  · refine .inr (fun e' => ?_)
    obtain ⟨_, o', h1, h2⟩ := hr g (by rw [← e']; simp [Value.ownBlock])
    rw [hgb] at h1; cases h1; cases h2
theorem WrB.stands {X Y : World} {B base p : Nat} {v : Value} {L : List Int} {row : Option Nat} (h : WrB X base p v L) (hg : X.grownBy Y row) (hr : ∀ r, row = some r → B ≤ r ∧ ∃ o : Obj, X.heap[r]? = some o ∧ o.isCells = false) : WrB Y base p v L :=
  ⟨cells_stand hg hr h.head, row_stands h.row hg hr, h.lo⟩
theorem WrB.setO {W : World} {base p b j : Nat} {v u : Value} {L : List Int} {c : Array Value} {t : TypeId} {fr : Nat × Nat} (h : WrB W base p v L) (hb : W.heap[b]? = some (.cells c t fr)) (ht : t ≠ 5) (hp : b ≠ p) : WrB (W.setCell ⟨b, j, none⟩ u) base p v L :=
  ⟨(Below.heap_setCell _ _ _ p (fun e => hp e.symm)).trans h.head, h.row.kept (grownBy_set W b j u) (.inr (row_ne h.row hb ht)), h.lo⟩
/-- What the writes of a writer leave: all but itself, and but bytes since base. -/
structure WS (base p : Nat) (W W' : World) : Prop where
  os : W'.os = W.os
  tape : W'.tape = W.tape
  output : W'.output = W.output
  size : W.heap.size ≤ W'.heap.size
  block : ∀ k, k < W.heap.size → k ≠ p → (k < base ∨ ∀ c fr, W.heap[k]? ≠ some (.cells c 5 fr)) → W'.heap[k]? = W.heap[k]?
theorem WS.of_later {base p : Nat} {W W' : World} (h : Later W W') : WS base p W W' := ⟨h.os, h.tape, h.output, h.size, fun k hk _ _ => h.block k hk⟩
theorem WS.trans {base p : Nat} {A B C : World} (h : WS base p A B) (k : WS base p B C) : WS base p A C :=
  ⟨k.os.trans h.os, k.tape.trans h.tape, k.output.trans h.output, Nat.le_trans h.size k.size, fun i hi hp hc => by
    have e := h.block i hi hp hc
    exact (k.block i (Nat.lt_of_lt_of_le hi h.size) hp (by rw [e]; exact hc)).trans e⟩
theorem WS.grown {base p : Nat} {A B C : World} {row : Option Nat} (h : WS base p A B) (hg : B.grownBy C row) (hr : ∀ r, row = some r → A.heap.size ≤ r) : WS base p A C :=
  ⟨hg.os.trans h.os, hg.tape.trans h.tape, hg.output.trans h.output, Nat.le_trans h.size hg.size, fun i hi hp hc => (hg.block i (Nat.lt_of_lt_of_le hi h.size) (fun e => by have := hr i e.symm; omega)).trans (h.block i hi hp hc)⟩
theorem WS.own {base p e k : Nat} {A B : World} {v : Value} {xs : List Value} (hr : A.ownsRow base e 1 v k xs) (he : e = 5) (hg : A.grownBy B v.ownBlock) : WS base p A B :=
  ⟨hg.os, hg.tape, hg.output, hg.size, fun i hi hp hc => hg.block i hi (fun e' => by
    rcases hr.2 with ⟨rfl, _⟩ | ⟨g, cap, cur, rfl, hb2, hgb, _⟩
    · simp [Value.ownBlock] at e'
    · obtain rfl : g = i := by simpa [Value.ownBlock] using e'.symm
      rcases hc with hc | hc
      · omega
      · exact hc _ _ (by rw [hgb, he]))⟩
theorem WS.set {base p j : Nat} {W : World} (u : Value) : WS base p W (W.setCell ⟨p, j, none⟩ u) := ⟨rfl, rfl, rfl, (KeepsWalks.setCell W _ u).size, fun k _ hp _ => Below.heap_setCell _ _ _ k hp⟩
theorem info_u8 : (Try.prog.info? 5).map (fun i => (i.zero, i.size, i.bytes)) = some (some (.int .u8 0), 1, 1) := by kernel_rfl

theorem heap_set3 (W : World) (b : Nat) (x y z : Value) (t : TypeId) (u : Value) (h : W.heap[b]? = some (.cells #[x, y, z] t (0, 0))) : (W.setCell ⟨b, 0, none⟩ u).heap[b]? = some (.cells #[u, y, z] t (0, 0)) := by
  obtain ⟨hlt, hb⟩ := Array.getElem?_eq_some_iff.1 h
  show (W.heap.modify b _)[b]? = _
  rw [Array.getElem?_eq_getElem (by rw [Array.size_modify]; exact hlt), Array.getElem_modify_self, hb]
  rfl
/-- A region's walk, from whichever state on, under a name. -/
theorem cap_any {F : Fence} {n : Nat} {P : Program} {md : Region.Mode} {ops : Array Oper} {Q : Exit → Act → World → Prop} {fuel : Nat} {listed : Array Bool} {a : Act} {w : World}
    (h : ∀ R : Nat → Array Bool → Act → World → Prop, (∀ f l a w, wpAnyIn F n P md ops Q f l a w → R f l a w) → (∀ f l a w, R f l a w → wpAnyIn F n P md ops Q f l a w) → R fuel listed a w) : wpAnyIn F n P md ops Q fuel listed a w :=
  h (wpAnyIn F n P md ops Q) (fun _ _ _ _ h => h) (fun _ _ _ _ h => h)
/-- An append, as one step of a region inside a fence. -/
theorem stepIn_append {F : Fence} {n : Nat} {P : Program} {ops : Array Oper} {o : Oper} {a : Act} {w : World} {K : Act → World → Prop} {Q : Exit → Act → World → Prop} {E : Prop} (hg : o.guard = none) (s x : Operand) (t : TypeId)
    (hop : o.op = Op.call { callee := Callee.builtin Builtin.append, args := #[s, x], argTypes := #[t, t] }) (u v v' : Value) (w' : World) (hs : a.eval s = u) (hx : a.eval x = v)
    (hrun : (Builtin.append_ #[t, t] o.type #[u, v]).run P w = .ok v' w') (hK : K (a.put o.dst v') w') : if Region.wanted o (yielded ops a.tmps) = true then Oper.wpIn F n P o a w K Q else E := by
  rw [if_pos (by simp [Region.wanted, hg])]
  unfold Oper.wpIn
  refine ⟨?_, ?_⟩
  · simp [Oper.about, hop, resolve, Target.leads, Sem.run_pure]
  · rw [Oper.semAt_plain F _ _ (by rw [hop]; intro c hc'; cases hc')]
    simp [execOp, hop, resolve, invoke, builtin, hs, hx, hrun, Result.andThen]
    exact hK

set_option maxRecDepth 100000 in
set_option maxHeartbeats 2000000 in
theorem uint_any (base p n : Nat) (v : Value) (L : List Int) (W : World) (h : WrB W base p v L) (hb : base ≤ W.heap.size) (hn : n < 18446744073709551616) (hL : L.length ≤ 1000000) :
    Calls Try.prog 43 #[wp p, .int .u64 n] W fun e w' => e = .returned (.tuple #[]) ∧ (∃ v', WrB w' base p v' (L ++ fm n)) ∧ WS base p W w' := by
  have HP := Lib.hid (fun q w0 (h : NumB w0 q n) => form_seq q n w0 hn h)
  have HF := Lib.hid (fun W h => fine_any base p v L W h)
  refine (callsIn_wide (n := 4)).1 ?_
  refine callsIn_of_wp_marks Try.func43 rfl trivial ?_ rfl
  simp only [Try.ntmps43, List.size_toArray, List.length_cons, List.length_nil, Nat.reduceAdd, Nat.reduceSub, Array.replicate_succ, Array.replicate_zero, List.push_toArray, List.append_toArray, List.nil_append, List.cons_append]
  refine wpIn_wide.2 ?_
  have tw0 : (W.alloc (.cells #[wp p] 98)).cell? ⟨W.heap.size, 0, none⟩ = some (wp p) := by simp
  have h1 := h.later ((Later.refl W).alloc (.cells #[wp p] 98))
  obtain ⟨X, hX⟩ : ∃ X, X = W.alloc (.cells #[wp p] 98) := ⟨_, rfl⟩
  go_wp2_with fail
  rw [← hX] at h1 tw0 ⊢
  refine (HF.out _ h1).mono ?_
  rintro e w1 ⟨rfl, rfl⟩
  go_wp2_with fail
  refine (form_any n _).mono ?_
  rintro e w2 ⟨rfl, rfl⟩
  obtain ⟨Y, hY⟩ : ∃ Y, Y = X.alloc (.cells #[.int .u64 n] 22) := ⟨_, rfl⟩
  have hXs : X.heap.size = W.heap.size + 1 := by rw [hX]; simp
  have hYs : Y.heap.size = W.heap.size + 1 + 1 := by rw [hY]; simp [hXs]
  have hq : NumB Y (W.heap.size + 1) n := by rw [hY, ← hXs]; exact heap_alloc_new _ _
  have hwb : Y.heap[W.heap.size]? = some (.cells #[wp p] 98 (0, 0)) := by
    rw [hY, Below.heap_alloc _ _ _ (by omega), hX]; exact heap_alloc_new _ _
  have hlY : Later W Y := by rw [hY, hX]; exact ((Later.refl _).alloc _).alloc _
  have hYW : WrB Y base p v L := h.later hlY
  rw [← hX, ← hY, hXs]
  clear hX hY h1 tw0
  have hpl := h.lt
  have hplo := h.lo
  obtain ⟨Wb, hWb⟩ : ∃ n, Hid (W.heap.size = n) := ⟨_, rfl⟩
  obtain ⟨q, hqq⟩ : ∃ n, Hid (W.heap.size + 1 = n) := ⟨_, rfl⟩
  have hb1 : base ≤ Wb ∧ Wb < Y.heap.size ∧ base ≤ q ∧ q < Y.heap.size ∧ Wb ≠ q ∧ p ≠ Wb ∧ p ≠ q := by have := hWb.out; have := hqq.out; omega
  obtain ⟨b1, b2, b3, b4, b5, b6, b7⟩ := hb1
  have hWq : W.heap.size ≤ q ∧ W.heap.size ≤ Wb ∧ W.heap.size ≤ Y.heap.size := by have := hWb.out; have := hqq.out; omega
  rw [hqq.out, hWb.out]
  rw [hqq.out] at hq
  rw [hWb.out] at hwb
  have HS := Lib.hid (HP.out q Y hq)
  clear hWb hqq hXs hYs
  go_wp2_with fail
  refine (wpIn_wide (n := 4)).1 ?_
  refine wpIn_rangeFunc_q rfl (by omega) (gf := 98) (lb := #[wp q]) rfl trivial (enters_of Try.func98 (by kernel_rfl) rfl)
    HS.out b4 (fun h k => k.trans h) (fun V l o o' hl _ _ _ => World.putObj_heap_other (by omega)) (Below.refl _ _) (fun _ => rfl)
    (fun pre W' => (∃ v', WrB W' base p v' (L ++ pre)) ∧ (∃ c, W'.heap[q]? = some (.cells c 22 (0, 0))) ∧ W'.heap[Wb]? = some (.cells #[wp p] 98 (0, 0)) ∧ WS base p W W')
    (fun _ _ _ => False)
    ⟨fun s A B row hs hg hr => ?own1, fun s A u hs => ?own2⟩
    (fun c => ⟨fun _ _ _ _ hs _ _ => hs, fun _ _ _ hs => hs⟩)
    ⟨⟨v, by rw [List.append_nil]; exact hYW⟩, ⟨_, hq⟩, hwb, WS.of_later hlY⟩
    (fun x => { tmps := #[wp p, .int .u64 n, wp Wb, undef, .int .u8 x, wp p, .bool false, .bool false, wp p, wp p, wp p, .bool true, .bool false, .bool false, .int .u64 n, (.func (.func 98) #[] #[wp q]), .int .u8 x, undef, undef, undef, undef, undef, undef, undef, undef, undef, undef, undef, undef], defers := [] }) ?assign ?body ?done ?stop
  case own1 =>
    obtain ⟨⟨v', h1⟩, ⟨c, h2⟩, h3, h4⟩ := hs
    exact ⟨⟨v', h1.stands hg hr⟩, ⟨c, cells_stand hg hr h2⟩, cells_stand hg hr h3, h4.grown hg (fun r e => by have := (hr r e).1; omega)⟩
  case own2 =>
    obtain ⟨⟨v', h1⟩, ⟨c, h2⟩, h3, h4⟩ := hs
    refine ⟨⟨v', h1.setO h2 (by decide) (fun e => b7 e.symm)⟩, ⟨c.setIfInBounds 0 u, ?_⟩, (Below.heap_setCell _ _ _ Wb b5).trans h3, h4.grown (grownBy_set A q 0 u) (fun r e => by cases e; omega)⟩
    obtain ⟨hlt, hb⟩ := Array.getElem?_eq_some_iff.1 h2
    show (A.heap.modify q _)[q]? = _
    rw [Array.getElem?_eq_getElem (by rw [Array.size_modify]; exact hlt), Array.getElem_modify_self, hb]
    rfl
  case assign =>
    intro l x W K hK
    gi_wp2
    exact hK
  case body =>
    rintro l pre x W1 ⟨⟨v', h1⟩, ⟨c, h2⟩, h3, h4⟩ hlt
    obtain ⟨i0, hi0, hz0, hz1, hz2⟩ := info_parts info_u8
    obtain ⟨V, hV⟩ : ∃ V, V = W1.drew := ⟨_, rfl⟩
    have hlV : Later W1 V := by rw [hV]; exact (Later.refl _).drew
    have hV1 := h1.later hlV
    have hVw : V.heap[Wb]? = some (.cells #[wp p] 98 (0, 0)) := by rw [hV]; exact h3
    have hVq : V.heap[q]? = some (.cells c 22 (0, 0)) := by rw [hV]; exact h2
    have hVs : W.heap.size ≤ V.heap.size := Nat.le_trans h4.size hlV.size
    have hML : 2000000 < maxLen := by decide
    obtain ⟨v8, w8, hrun, hown, hgrow, _⟩ := run_append_own (P := Try.prog) (V.alloc (.cells #[.int .u8 x] 5)) base 23 23 5 i0 (.int .u8 0) 1 1 Try.underlying23 hi0 hz0 hz1 hz2 rfl (by decide)
      v' _ _ (hV1.row.alloc _) ⟨V.heap.size, 0, none⟩ 1 1 [.int .u8 x] rfl (World.news_of_block (heap_alloc_new _ _)) (by simp [Value.oneCell']) (by rw [List.length_append]; omega) (by rw [List.length_append]; omega) (by simp; omega)
    obtain ⟨g8, c8, hv8⟩ := ownsRow_succ hown
    obtain ⟨m8, hm8⟩ : ∃ m, Hid ((L ++ pre).length + 1 = m) := ⟨_, rfl⟩
    rw [hm8.out] at hv8
    subst hv8
    have hrun := Lib.hid hrun
    have hrA := hV1.row.alloc (.cells #[.int .u8 x] 5)
    have hlA : Later V (V.alloc (.cells #[.int .u8 x] 5)) := (Later.refl _).alloc _
    have hA1 := hV1.later hlA
    have h8p : w8.heap[p]? = some (.cells #[v', .bool true, .bool false] 142 (0, 0)) := (hgrow.block p hA1.lt (own_ge hrA hA1.lo)).trans hA1.head
    have hAw : (V.alloc (.cells #[.int .u8 x] 5)).heap[Wb]? = some (.cells #[wp p] 98 (0, 0)) := (hlA.block Wb (Array.getElem?_eq_some_iff.1 hVw).1).trans hVw
    have hAq : (V.alloc (.cells #[.int .u8 x] 5)).heap[q]? = some (.cells c 22 (0, 0)) := (hlA.block q (Array.getElem?_eq_some_iff.1 hVq).1).trans hVq
    have h8w : w8.heap[Wb]? = some (.cells #[wp p] 98 (0, 0)) := (hgrow.block Wb (Array.getElem?_eq_some_iff.1 hAw).1 (row_ne hrA hAw (by decide)).symm).trans hAw
    have h8q : w8.heap[q]? = some (.cells c 22 (0, 0)) := (hgrow.block q (Array.getElem?_eq_some_iff.1 hAq).1 (row_ne hrA hAq (by decide)).symm).trans hAq
    have h9 : WrB (w8.setCell ⟨p, 0, none⟩ (.slice (some ⟨g8, 0, none⟩) m8 c8)) base p (.slice (some ⟨g8, 0, none⟩) m8 c8) (L ++ (pre ++ [x])) := ⟨heap_set3 w8 p _ _ _ _ (.slice (some ⟨g8, 0, none⟩) m8 c8) h8p, by
      have := ownsRow_setCell_below hown (a := ⟨p, 0, none⟩) (show p < base from hplo) (.slice (some ⟨g8, 0, none⟩) m8 c8)
      rw [← List.append_assoc, List.map_append, List.length_append]; exact this, hplo⟩
    have hWS : WS base p W (w8.setCell ⟨p, 0, none⟩ (.slice (some ⟨g8, 0, none⟩) m8 c8)) := ((((h4.trans (WS.of_later hlV)).trans (WS.of_later hlA)).trans (WS.own hrA rfl hgrow)).trans (WS.set (.slice (some ⟨g8, 0, none⟩) m8 c8)))
    have hfin : KeepsFrom Y.heap.size W1 (w8.setCell ⟨p, 0, none⟩ (.slice (some ⟨g8, 0, none⟩) m8 c8)) ∧ ((w8.setCell ⟨p, 0, none⟩ (.slice (some ⟨g8, 0, none⟩) m8 c8)).heap[q]? = W1.heap[q]?) ∧ (∃ v', WrB (w8.setCell ⟨p, 0, none⟩ (.slice (some ⟨g8, 0, none⟩) m8 c8)) base p v' (L ++ (pre ++ [x]))) ∧ (∃ c, (w8.setCell ⟨p, 0, none⟩ (.slice (some ⟨g8, 0, none⟩) m8 c8)).heap[q]? = some (.cells c 22 (0, 0))) ∧ (w8.setCell ⟨p, 0, none⟩ (.slice (some ⟨g8, 0, none⟩) m8 c8)).heap[Wb]? = some (.cells #[wp p] 98 (0, 0)) ∧ WS base p W (w8.setCell ⟨p, 0, none⟩ (.slice (some ⟨g8, 0, none⟩) m8 c8)) := by
      have k1 := (Below.heap_setCell w8 ⟨p, 0, none⟩ (.slice (some ⟨g8, 0, none⟩) m8 c8) q (fun e => b7 e.symm)).trans h8q
      have k2 := (Below.heap_setCell w8 ⟨p, 0, none⟩ (.slice (some ⟨g8, 0, none⟩) m8 c8) Wb (fun e => b6 e.symm)).trans h8w
      refine ⟨?_, k1.trans h2.symm, ⟨(.slice (some ⟨g8, 0, none⟩) m8 c8), h9⟩, ⟨c, k1⟩, k2, hWS⟩
      have e1 : KeepsOthers W1 V := by rw [hV]; exact KeepsOthers.drew W1
      refine (((e1.trans (KeepsOthers.alloc V _)).trans (KeepsOthers.of_grownBy hgrow fun j o ej hj => ?_)).trans (KeepsOthers.setCell _ _ _)).from _
      rcases hrA.2 with ⟨rfl, _⟩ | ⟨g, cap, cur, rfl, _, hgb, _⟩
      · simp [Value.ownBlock] at ej
      · obtain rfl : g = j := by simpa [Value.ownBlock] using ej
        rw [hgb] at hj; cases hj; rfl
    have cV0 : V.cell? ⟨p, 0, none⟩ = some v' := cell_of_row V p 0 _ _ _ hV1.head
    have cA0 : (V.alloc (.cells #[.int .u8 x] 5)).cell? ⟨p, 0, none⟩ = some v' := cell_of_row _ p 0 _ _ _ hA1.head
    have cVw : V.cell? ⟨Wb, 0, none⟩ = some (wp p) := cell_of_row V Wb 0 _ _ _ hVw
    have cAw : (V.alloc (.cells #[.int .u8 x] 5)).cell? ⟨Wb, 0, none⟩ = some (wp p) := cell_of_row _ Wb 0 _ _ _ hAw
    have c8w : w8.cell? ⟨Wb, 0, none⟩ = some (wp p) := cell_of_row w8 Wb 0 _ _ _ h8w
    have c80 : w8.cell? ⟨p, 0, none⟩ = some v' := cell_of_row w8 p 0 _ _ _ h8p
    have f80 : w8.frozen? ⟨p, 0, none⟩ = false := by simp [World.frozen?, h8p]
    have hVd := hV
    clear hlV hV1 hVw hVq hVs hML hown hgrow hrA hlA hA1 h8p hAw hAq h8w h8q h9 hWS hi0 hz0 hz1 hz2 h1 h2 h3 h4 hV HP HF HS hYW hwb hq hlY
    gi_wp2_with fail
    refine wpIn_region_any (by kernel_rfl) ?_
    change wpAnyIn _ _ _ _ _ _ _ _ _ W1.drew
    rw [← hVd]
    clear hVd
    refine cap_any (fun R HR HR2 => ?_)
    have HR := Lib.hid HR
    have HR2 := Lib.hid HR2
    have s1525 : Hid (R 0 #[true, true, true, true, true, true, true, true, true, true, true, true, true] { tmps := #[wp p, .int .u64 n, wp Wb, undef, .int .u8 x, wp p, .bool false, .bool false, wp p, wp p, wp p, .bool true, .bool false, .bool false, .int .u64 n, (.func (.func 98) #[] #[wp q]), .int .u8 x, wp p, wp p, wp p, wp p, wp p, v', .int .u8 x, .slice (some ⟨V.heap.size, 0, none⟩) 1 1, (.slice (some ⟨g8, 0, none⟩) m8 c8), wp p, wp p, wp p], defers := [] } (w8.setCell ⟨p, 0, none⟩ (.slice (some ⟨g8, 0, none⟩) m8 c8))) := by
      refine HR.out _ _ _ _ ?_
      refine wpAnyIn_done (by kernel_rfl) ?_ _
      gi_wp2_with fail
      exact hfin
    have s1524 : Hid (R 1 #[true, true, true, true, true, true, true, true, true, true, true, true, false] { tmps := #[wp p, .int .u64 n, wp Wb, undef, .int .u8 x, wp p, .bool false, .bool false, wp p, wp p, wp p, .bool true, .bool false, .bool false, .int .u64 n, (.func (.func 98) #[] #[wp q]), .int .u8 x, wp p, wp p, wp p, wp p, wp p, v', .int .u8 x, .slice (some ⟨V.heap.size, 0, none⟩) 1 1, (.slice (some ⟨g8, 0, none⟩) m8 c8), wp p, wp p, wp p], defers := [] } w8) := by
      refine HR.out _ _ _ _ ?_
      refine wpAnyIn_ready (rs := [12]) (by kernel_rfl) (by simp) ?_
      refine AllReadyIn.cons rfl (fun K hK => ?_) ?_
      · have hK := Lib.hid hK
        go_simp
        exact hK.out _ _ (HR2.out _ _ _ _ s1525.out)
      exact AllReadyIn.nil
    have s1523 : Hid (R 2 #[true, true, true, true, true, true, true, true, true, true, true, false, false] { tmps := #[wp p, .int .u64 n, wp Wb, undef, .int .u8 x, wp p, .bool false, .bool false, wp p, wp p, wp p, .bool true, .bool false, .bool false, .int .u64 n, (.func (.func 98) #[] #[wp q]), .int .u8 x, wp p, wp p, wp p, wp p, wp p, v', .int .u8 x, .slice (some ⟨V.heap.size, 0, none⟩) 1 1, (.slice (some ⟨g8, 0, none⟩) m8 c8), wp p, wp p, undef], defers := [] } w8) := by
      refine HR.out _ _ _ _ ?_
      refine wpAnyIn_ready (rs := [11]) (by kernel_rfl) (by simp) ?_
      refine AllReadyIn.cons rfl (fun K hK => ?_) ?_
      · have hK := Lib.hid hK
        go_simp
        exact hK.out _ _ (HR2.out _ _ _ _ s1524.out)
      exact AllReadyIn.nil
    have s1522 : Hid (R 3 #[true, true, true, true, true, true, true, true, true, true, false, false, false] { tmps := #[wp p, .int .u64 n, wp Wb, undef, .int .u8 x, wp p, .bool false, .bool false, wp p, wp p, wp p, .bool true, .bool false, .bool false, .int .u64 n, (.func (.func 98) #[] #[wp q]), .int .u8 x, wp p, wp p, wp p, wp p, wp p, v', .int .u8 x, .slice (some ⟨V.heap.size, 0, none⟩) 1 1, (.slice (some ⟨g8, 0, none⟩) m8 c8), wp p, undef, undef], defers := [] } w8) := by
      refine HR.out _ _ _ _ ?_
      refine wpAnyIn_ready (rs := [10]) (by kernel_rfl) (by simp) ?_
      refine AllReadyIn.cons rfl (fun K hK => ?_) ?_
      · have hK := Lib.hid hK
        go_simp
        exact hK.out _ _ (HR2.out _ _ _ _ s1523.out)
      exact AllReadyIn.nil
    have s1521 : Hid (R 4 #[true, true, true, true, true, true, true, true, true, false, false, false, false] { tmps := #[wp p, .int .u64 n, wp Wb, undef, .int .u8 x, wp p, .bool false, .bool false, wp p, wp p, wp p, .bool true, .bool false, .bool false, .int .u64 n, (.func (.func 98) #[] #[wp q]), .int .u8 x, wp p, wp p, wp p, wp p, wp p, v', .int .u8 x, .slice (some ⟨V.heap.size, 0, none⟩) 1 1, (.slice (some ⟨g8, 0, none⟩) m8 c8), undef, undef, undef], defers := [] } w8) := by
      refine HR.out _ _ _ _ ?_
      refine wpAnyIn_ready (rs := [9]) (by kernel_rfl) (by simp) ?_
      refine AllReadyIn.cons rfl (fun K hK => ?_) ?_
      · have hK := Lib.hid hK
        go_simp
        exact hK.out _ _ (HR2.out _ _ _ _ s1522.out)
      exact AllReadyIn.nil
    have s0521 : Hid (R 5 #[false, true, true, true, true, true, true, true, true, false, false, false, false] { tmps := #[wp p, .int .u64 n, wp Wb, undef, .int .u8 x, wp p, .bool false, .bool false, wp p, wp p, wp p, .bool true, .bool false, .bool false, .int .u64 n, (.func (.func 98) #[] #[wp q]), .int .u8 x, undef, wp p, wp p, wp p, wp p, v', .int .u8 x, .slice (some ⟨V.heap.size, 0, none⟩) 1 1, (.slice (some ⟨g8, 0, none⟩) m8 c8), undef, undef, undef], defers := [] } w8) := by
      refine HR.out _ _ _ _ ?_
      refine wpAnyIn_ready (rs := [0]) (by kernel_rfl) (by simp) ?_
      refine AllReadyIn.cons rfl (fun K hK => ?_) ?_
      · have hK := Lib.hid hK
        go_simp
        exact hK.out _ _ (HR2.out _ _ _ _ s1521.out)
      exact AllReadyIn.nil
    have s1520 : Hid (R 5 #[true, true, true, true, true, true, true, true, false, false, false, false, false] { tmps := #[wp p, .int .u64 n, wp Wb, undef, .int .u8 x, wp p, .bool false, .bool false, wp p, wp p, wp p, .bool true, .bool false, .bool false, .int .u64 n, (.func (.func 98) #[] #[wp q]), .int .u8 x, wp p, wp p, wp p, wp p, wp p, v', .int .u8 x, .slice (some ⟨V.heap.size, 0, none⟩) 1 1, undef, undef, undef, undef], defers := [] } (V.alloc (.cells #[.int .u8 x] 5))) := by
      refine HR.out _ _ _ _ ?_
      refine wpAnyIn_ready (rs := [8]) (by kernel_rfl) (by simp) ?_
      refine AllReadyIn.cons rfl (fun K hK => ?_) ?_
      · have hK := Lib.hid hK
        refine stepIn_append rfl (.tmp 22) (.tmp 24) 23 rfl v' _ (.slice (some ⟨g8, 0, none⟩) m8 c8) w8 rfl rfl hrun.out ?_
        exact hK.out _ _ (HR2.out _ _ _ _ s1521.out)
      exact AllReadyIn.nil
    have s0520 : Hid (R 6 #[false, true, true, true, true, true, true, true, false, false, false, false, false] { tmps := #[wp p, .int .u64 n, wp Wb, undef, .int .u8 x, wp p, .bool false, .bool false, wp p, wp p, wp p, .bool true, .bool false, .bool false, .int .u64 n, (.func (.func 98) #[] #[wp q]), .int .u8 x, undef, wp p, wp p, wp p, wp p, v', .int .u8 x, .slice (some ⟨V.heap.size, 0, none⟩) 1 1, undef, undef, undef, undef], defers := [] } (V.alloc (.cells #[.int .u8 x] 5))) := by
      refine HR.out _ _ _ _ ?_
      refine wpAnyIn_ready (rs := [0, 8]) (by kernel_rfl) (by simp) ?_
      refine AllReadyIn.cons rfl (fun K hK => ?_) ?_
      · have hK := Lib.hid hK
        go_simp
        exact hK.out _ _ (HR2.out _ _ _ _ s1520.out)
      refine AllReadyIn.cons rfl (fun K hK => ?_) ?_
      · have hK := Lib.hid hK
        refine stepIn_append rfl (.tmp 22) (.tmp 24) 23 rfl v' _ (.slice (some ⟨g8, 0, none⟩) m8 c8) w8 rfl rfl hrun.out ?_
        exact hK.out _ _ (HR2.out _ _ _ _ s0521.out)
      exact AllReadyIn.nil
    have s1510 : Hid (R 6 #[true, true, true, true, true, true, true, false, false, false, false, false, false] { tmps := #[wp p, .int .u64 n, wp Wb, undef, .int .u8 x, wp p, .bool false, .bool false, wp p, wp p, wp p, .bool true, .bool false, .bool false, .int .u64 n, (.func (.func 98) #[] #[wp q]), .int .u8 x, wp p, wp p, wp p, wp p, wp p, v', .int .u8 x, undef, undef, undef, undef, undef], defers := [] } V) := by
      refine HR.out _ _ _ _ ?_
      refine wpAnyIn_ready (rs := [7]) (by kernel_rfl) (by simp) ?_
      refine AllReadyIn.cons rfl (fun K hK => ?_) ?_
      · have hK := Lib.hid hK
        go_simp
        exact hK.out _ _ (HR2.out _ _ _ _ s1520.out)
      exact AllReadyIn.nil
    have s0510 : Hid (R 7 #[false, true, true, true, true, true, true, false, false, false, false, false, false] { tmps := #[wp p, .int .u64 n, wp Wb, undef, .int .u8 x, wp p, .bool false, .bool false, wp p, wp p, wp p, .bool true, .bool false, .bool false, .int .u64 n, (.func (.func 98) #[] #[wp q]), .int .u8 x, undef, wp p, wp p, wp p, wp p, v', .int .u8 x, undef, undef, undef, undef, undef], defers := [] } V) := by
      refine HR.out _ _ _ _ ?_
      refine wpAnyIn_ready (rs := [0, 7]) (by kernel_rfl) (by simp) ?_
      refine AllReadyIn.cons rfl (fun K hK => ?_) ?_
      · have hK := Lib.hid hK
        go_simp
        exact hK.out _ _ (HR2.out _ _ _ _ s1510.out)
      refine AllReadyIn.cons rfl (fun K hK => ?_) ?_
      · have hK := Lib.hid hK
        go_simp
        exact hK.out _ _ (HR2.out _ _ _ _ s0520.out)
      exact AllReadyIn.nil
    have s1500 : Hid (R 7 #[true, true, true, true, true, true, false, false, false, false, false, false, false] { tmps := #[wp p, .int .u64 n, wp Wb, undef, .int .u8 x, wp p, .bool false, .bool false, wp p, wp p, wp p, .bool true, .bool false, .bool false, .int .u64 n, (.func (.func 98) #[] #[wp q]), .int .u8 x, wp p, wp p, wp p, wp p, wp p, v', undef, undef, undef, undef, undef, undef], defers := [] } V) := by
      refine HR.out _ _ _ _ ?_
      refine wpAnyIn_ready (rs := [6]) (by kernel_rfl) (by simp) ?_
      refine AllReadyIn.cons rfl (fun K hK => ?_) ?_
      · have hK := Lib.hid hK
        go_simp
        exact hK.out _ _ (HR2.out _ _ _ _ s1510.out)
      exact AllReadyIn.nil
    have s0500 : Hid (R 8 #[false, true, true, true, true, true, false, false, false, false, false, false, false] { tmps := #[wp p, .int .u64 n, wp Wb, undef, .int .u8 x, wp p, .bool false, .bool false, wp p, wp p, wp p, .bool true, .bool false, .bool false, .int .u64 n, (.func (.func 98) #[] #[wp q]), .int .u8 x, undef, wp p, wp p, wp p, wp p, v', undef, undef, undef, undef, undef, undef], defers := [] } V) := by
      refine HR.out _ _ _ _ ?_
      refine wpAnyIn_ready (rs := [0, 6]) (by kernel_rfl) (by simp) ?_
      refine AllReadyIn.cons rfl (fun K hK => ?_) ?_
      · have hK := Lib.hid hK
        go_simp
        exact hK.out _ _ (HR2.out _ _ _ _ s1500.out)
      refine AllReadyIn.cons rfl (fun K hK => ?_) ?_
      · have hK := Lib.hid hK
        go_simp
        exact hK.out _ _ (HR2.out _ _ _ _ s0510.out)
      exact AllReadyIn.nil
    have s1420 : Hid (R 6 #[true, true, true, true, true, false, true, true, false, false, false, false, false] { tmps := #[wp p, .int .u64 n, wp Wb, undef, .int .u8 x, wp p, .bool false, .bool false, wp p, wp p, wp p, .bool true, .bool false, .bool false, .int .u64 n, (.func (.func 98) #[] #[wp q]), .int .u8 x, wp p, wp p, wp p, wp p, wp p, undef, .int .u8 x, .slice (some ⟨V.heap.size, 0, none⟩) 1 1, undef, undef, undef, undef], defers := [] } (V.alloc (.cells #[.int .u8 x] 5))) := by
      refine HR.out _ _ _ _ ?_
      refine wpAnyIn_ready (rs := [5]) (by kernel_rfl) (by simp) ?_
      refine AllReadyIn.cons rfl (fun K hK => ?_) ?_
      · have hK := Lib.hid hK
        go_simp
        exact hK.out _ _ (HR2.out _ _ _ _ s1520.out)
      exact AllReadyIn.nil
    have s0420 : Hid (R 7 #[false, true, true, true, true, false, true, true, false, false, false, false, false] { tmps := #[wp p, .int .u64 n, wp Wb, undef, .int .u8 x, wp p, .bool false, .bool false, wp p, wp p, wp p, .bool true, .bool false, .bool false, .int .u64 n, (.func (.func 98) #[] #[wp q]), .int .u8 x, undef, wp p, wp p, wp p, wp p, undef, .int .u8 x, .slice (some ⟨V.heap.size, 0, none⟩) 1 1, undef, undef, undef, undef], defers := [] } (V.alloc (.cells #[.int .u8 x] 5))) := by
      refine HR.out _ _ _ _ ?_
      refine wpAnyIn_ready (rs := [0, 5]) (by kernel_rfl) (by simp) ?_
      refine AllReadyIn.cons rfl (fun K hK => ?_) ?_
      · have hK := Lib.hid hK
        go_simp
        exact hK.out _ _ (HR2.out _ _ _ _ s1420.out)
      refine AllReadyIn.cons rfl (fun K hK => ?_) ?_
      · have hK := Lib.hid hK
        go_simp
        exact hK.out _ _ (HR2.out _ _ _ _ s0520.out)
      exact AllReadyIn.nil
    have s1410 : Hid (R 7 #[true, true, true, true, true, false, true, false, false, false, false, false, false] { tmps := #[wp p, .int .u64 n, wp Wb, undef, .int .u8 x, wp p, .bool false, .bool false, wp p, wp p, wp p, .bool true, .bool false, .bool false, .int .u64 n, (.func (.func 98) #[] #[wp q]), .int .u8 x, wp p, wp p, wp p, wp p, wp p, undef, .int .u8 x, undef, undef, undef, undef, undef], defers := [] } V) := by
      refine HR.out _ _ _ _ ?_
      refine wpAnyIn_ready (rs := [5, 7]) (by kernel_rfl) (by simp) ?_
      refine AllReadyIn.cons rfl (fun K hK => ?_) ?_
      · have hK := Lib.hid hK
        go_simp
        exact hK.out _ _ (HR2.out _ _ _ _ s1510.out)
      refine AllReadyIn.cons rfl (fun K hK => ?_) ?_
      · have hK := Lib.hid hK
        go_simp
        exact hK.out _ _ (HR2.out _ _ _ _ s1420.out)
      exact AllReadyIn.nil
    have s0410 : Hid (R 8 #[false, true, true, true, true, false, true, false, false, false, false, false, false] { tmps := #[wp p, .int .u64 n, wp Wb, undef, .int .u8 x, wp p, .bool false, .bool false, wp p, wp p, wp p, .bool true, .bool false, .bool false, .int .u64 n, (.func (.func 98) #[] #[wp q]), .int .u8 x, undef, wp p, wp p, wp p, wp p, undef, .int .u8 x, undef, undef, undef, undef, undef], defers := [] } V) := by
      refine HR.out _ _ _ _ ?_
      refine wpAnyIn_ready (rs := [0, 5, 7]) (by kernel_rfl) (by simp) ?_
      refine AllReadyIn.cons rfl (fun K hK => ?_) ?_
      · have hK := Lib.hid hK
        go_simp
        exact hK.out _ _ (HR2.out _ _ _ _ s1410.out)
      refine AllReadyIn.cons rfl (fun K hK => ?_) ?_
      · have hK := Lib.hid hK
        go_simp
        exact hK.out _ _ (HR2.out _ _ _ _ s0510.out)
      refine AllReadyIn.cons rfl (fun K hK => ?_) ?_
      · have hK := Lib.hid hK
        go_simp
        exact hK.out _ _ (HR2.out _ _ _ _ s0420.out)
      exact AllReadyIn.nil
    have s1400 : Hid (R 8 #[true, true, true, true, true, false, false, false, false, false, false, false, false] { tmps := #[wp p, .int .u64 n, wp Wb, undef, .int .u8 x, wp p, .bool false, .bool false, wp p, wp p, wp p, .bool true, .bool false, .bool false, .int .u64 n, (.func (.func 98) #[] #[wp q]), .int .u8 x, wp p, wp p, wp p, wp p, wp p, undef, undef, undef, undef, undef, undef, undef], defers := [] } V) := by
      refine HR.out _ _ _ _ ?_
      refine wpAnyIn_ready (rs := [5, 6]) (by kernel_rfl) (by simp) ?_
      refine AllReadyIn.cons rfl (fun K hK => ?_) ?_
      · have hK := Lib.hid hK
        go_simp
        exact hK.out _ _ (HR2.out _ _ _ _ s1500.out)
      refine AllReadyIn.cons rfl (fun K hK => ?_) ?_
      · have hK := Lib.hid hK
        go_simp
        exact hK.out _ _ (HR2.out _ _ _ _ s1410.out)
      exact AllReadyIn.nil
    have s0400 : Hid (R 9 #[false, true, true, true, true, false, false, false, false, false, false, false, false] { tmps := #[wp p, .int .u64 n, wp Wb, undef, .int .u8 x, wp p, .bool false, .bool false, wp p, wp p, wp p, .bool true, .bool false, .bool false, .int .u64 n, (.func (.func 98) #[] #[wp q]), .int .u8 x, undef, wp p, wp p, wp p, wp p, undef, undef, undef, undef, undef, undef, undef], defers := [] } V) := by
      refine HR.out _ _ _ _ ?_
      refine wpAnyIn_ready (rs := [0, 5, 6]) (by kernel_rfl) (by simp) ?_
      refine AllReadyIn.cons rfl (fun K hK => ?_) ?_
      · have hK := Lib.hid hK
        go_simp
        exact hK.out _ _ (HR2.out _ _ _ _ s1400.out)
      refine AllReadyIn.cons rfl (fun K hK => ?_) ?_
      · have hK := Lib.hid hK
        go_simp
        exact hK.out _ _ (HR2.out _ _ _ _ s0500.out)
      refine AllReadyIn.cons rfl (fun K hK => ?_) ?_
      · have hK := Lib.hid hK
        go_simp
        exact hK.out _ _ (HR2.out _ _ _ _ s0410.out)
      exact AllReadyIn.nil
    have s1320 : Hid (R 7 #[true, true, true, true, false, false, true, true, false, false, false, false, false] { tmps := #[wp p, .int .u64 n, wp Wb, undef, .int .u8 x, wp p, .bool false, .bool false, wp p, wp p, wp p, .bool true, .bool false, .bool false, .int .u64 n, (.func (.func 98) #[] #[wp q]), .int .u8 x, wp p, wp p, wp p, wp p, undef, undef, .int .u8 x, .slice (some ⟨V.heap.size, 0, none⟩) 1 1, undef, undef, undef, undef], defers := [] } (V.alloc (.cells #[.int .u8 x] 5))) := by
      refine HR.out _ _ _ _ ?_
      refine wpAnyIn_ready (rs := [4]) (by kernel_rfl) (by simp) ?_
      refine AllReadyIn.cons rfl (fun K hK => ?_) ?_
      · have hK := Lib.hid hK
        go_simp
        exact hK.out _ _ (HR2.out _ _ _ _ s1420.out)
      exact AllReadyIn.nil
    have s0320 : Hid (R 8 #[false, true, true, true, false, false, true, true, false, false, false, false, false] { tmps := #[wp p, .int .u64 n, wp Wb, undef, .int .u8 x, wp p, .bool false, .bool false, wp p, wp p, wp p, .bool true, .bool false, .bool false, .int .u64 n, (.func (.func 98) #[] #[wp q]), .int .u8 x, undef, wp p, wp p, wp p, undef, undef, .int .u8 x, .slice (some ⟨V.heap.size, 0, none⟩) 1 1, undef, undef, undef, undef], defers := [] } (V.alloc (.cells #[.int .u8 x] 5))) := by
      refine HR.out _ _ _ _ ?_
      refine wpAnyIn_ready (rs := [0, 4]) (by kernel_rfl) (by simp) ?_
      refine AllReadyIn.cons rfl (fun K hK => ?_) ?_
      · have hK := Lib.hid hK
        go_simp
        exact hK.out _ _ (HR2.out _ _ _ _ s1320.out)
      refine AllReadyIn.cons rfl (fun K hK => ?_) ?_
      · have hK := Lib.hid hK
        go_simp
        exact hK.out _ _ (HR2.out _ _ _ _ s0420.out)
      exact AllReadyIn.nil
    have s1310 : Hid (R 8 #[true, true, true, true, false, false, true, false, false, false, false, false, false] { tmps := #[wp p, .int .u64 n, wp Wb, undef, .int .u8 x, wp p, .bool false, .bool false, wp p, wp p, wp p, .bool true, .bool false, .bool false, .int .u64 n, (.func (.func 98) #[] #[wp q]), .int .u8 x, wp p, wp p, wp p, wp p, undef, undef, .int .u8 x, undef, undef, undef, undef, undef], defers := [] } V) := by
      refine HR.out _ _ _ _ ?_
      refine wpAnyIn_ready (rs := [4, 7]) (by kernel_rfl) (by simp) ?_
      refine AllReadyIn.cons rfl (fun K hK => ?_) ?_
      · have hK := Lib.hid hK
        go_simp
        exact hK.out _ _ (HR2.out _ _ _ _ s1410.out)
      refine AllReadyIn.cons rfl (fun K hK => ?_) ?_
      · have hK := Lib.hid hK
        go_simp
        exact hK.out _ _ (HR2.out _ _ _ _ s1320.out)
      exact AllReadyIn.nil
    have s0310 : Hid (R 9 #[false, true, true, true, false, false, true, false, false, false, false, false, false] { tmps := #[wp p, .int .u64 n, wp Wb, undef, .int .u8 x, wp p, .bool false, .bool false, wp p, wp p, wp p, .bool true, .bool false, .bool false, .int .u64 n, (.func (.func 98) #[] #[wp q]), .int .u8 x, undef, wp p, wp p, wp p, undef, undef, .int .u8 x, undef, undef, undef, undef, undef], defers := [] } V) := by
      refine HR.out _ _ _ _ ?_
      refine wpAnyIn_ready (rs := [0, 4, 7]) (by kernel_rfl) (by simp) ?_
      refine AllReadyIn.cons rfl (fun K hK => ?_) ?_
      · have hK := Lib.hid hK
        go_simp
        exact hK.out _ _ (HR2.out _ _ _ _ s1310.out)
      refine AllReadyIn.cons rfl (fun K hK => ?_) ?_
      · have hK := Lib.hid hK
        go_simp
        exact hK.out _ _ (HR2.out _ _ _ _ s0410.out)
      refine AllReadyIn.cons rfl (fun K hK => ?_) ?_
      · have hK := Lib.hid hK
        go_simp
        exact hK.out _ _ (HR2.out _ _ _ _ s0320.out)
      exact AllReadyIn.nil
    have s1300 : Hid (R 9 #[true, true, true, true, false, false, false, false, false, false, false, false, false] { tmps := #[wp p, .int .u64 n, wp Wb, undef, .int .u8 x, wp p, .bool false, .bool false, wp p, wp p, wp p, .bool true, .bool false, .bool false, .int .u64 n, (.func (.func 98) #[] #[wp q]), .int .u8 x, wp p, wp p, wp p, wp p, undef, undef, undef, undef, undef, undef, undef, undef], defers := [] } V) := by
      refine HR.out _ _ _ _ ?_
      refine wpAnyIn_ready (rs := [4, 6]) (by kernel_rfl) (by simp) ?_
      refine AllReadyIn.cons rfl (fun K hK => ?_) ?_
      · have hK := Lib.hid hK
        go_simp
        exact hK.out _ _ (HR2.out _ _ _ _ s1400.out)
      refine AllReadyIn.cons rfl (fun K hK => ?_) ?_
      · have hK := Lib.hid hK
        go_simp
        exact hK.out _ _ (HR2.out _ _ _ _ s1310.out)
      exact AllReadyIn.nil
    have s0300 : Hid (R 10 #[false, true, true, true, false, false, false, false, false, false, false, false, false] { tmps := #[wp p, .int .u64 n, wp Wb, undef, .int .u8 x, wp p, .bool false, .bool false, wp p, wp p, wp p, .bool true, .bool false, .bool false, .int .u64 n, (.func (.func 98) #[] #[wp q]), .int .u8 x, undef, wp p, wp p, wp p, undef, undef, undef, undef, undef, undef, undef, undef], defers := [] } V) := by
      refine HR.out _ _ _ _ ?_
      refine wpAnyIn_ready (rs := [0, 4, 6]) (by kernel_rfl) (by simp) ?_
      refine AllReadyIn.cons rfl (fun K hK => ?_) ?_
      · have hK := Lib.hid hK
        go_simp
        exact hK.out _ _ (HR2.out _ _ _ _ s1300.out)
      refine AllReadyIn.cons rfl (fun K hK => ?_) ?_
      · have hK := Lib.hid hK
        go_simp
        exact hK.out _ _ (HR2.out _ _ _ _ s0400.out)
      refine AllReadyIn.cons rfl (fun K hK => ?_) ?_
      · have hK := Lib.hid hK
        go_simp
        exact hK.out _ _ (HR2.out _ _ _ _ s0310.out)
      exact AllReadyIn.nil
    have s1220 : Hid (R 8 #[true, true, true, false, false, false, true, true, false, false, false, false, false] { tmps := #[wp p, .int .u64 n, wp Wb, undef, .int .u8 x, wp p, .bool false, .bool false, wp p, wp p, wp p, .bool true, .bool false, .bool false, .int .u64 n, (.func (.func 98) #[] #[wp q]), .int .u8 x, wp p, wp p, wp p, undef, undef, undef, .int .u8 x, .slice (some ⟨V.heap.size, 0, none⟩) 1 1, undef, undef, undef, undef], defers := [] } (V.alloc (.cells #[.int .u8 x] 5))) := by
      refine HR.out _ _ _ _ ?_
      refine wpAnyIn_ready (rs := [3]) (by kernel_rfl) (by simp) ?_
      refine AllReadyIn.cons rfl (fun K hK => ?_) ?_
      · have hK := Lib.hid hK
        go_simp
        exact hK.out _ _ (HR2.out _ _ _ _ s1320.out)
      exact AllReadyIn.nil
    have s0220 : Hid (R 9 #[false, true, true, false, false, false, true, true, false, false, false, false, false] { tmps := #[wp p, .int .u64 n, wp Wb, undef, .int .u8 x, wp p, .bool false, .bool false, wp p, wp p, wp p, .bool true, .bool false, .bool false, .int .u64 n, (.func (.func 98) #[] #[wp q]), .int .u8 x, undef, wp p, wp p, undef, undef, undef, .int .u8 x, .slice (some ⟨V.heap.size, 0, none⟩) 1 1, undef, undef, undef, undef], defers := [] } (V.alloc (.cells #[.int .u8 x] 5))) := by
      refine HR.out _ _ _ _ ?_
      refine wpAnyIn_ready (rs := [0, 3]) (by kernel_rfl) (by simp) ?_
      refine AllReadyIn.cons rfl (fun K hK => ?_) ?_
      · have hK := Lib.hid hK
        go_simp
        exact hK.out _ _ (HR2.out _ _ _ _ s1220.out)
      refine AllReadyIn.cons rfl (fun K hK => ?_) ?_
      · have hK := Lib.hid hK
        go_simp
        exact hK.out _ _ (HR2.out _ _ _ _ s0320.out)
      exact AllReadyIn.nil
    have s1210 : Hid (R 9 #[true, true, true, false, false, false, true, false, false, false, false, false, false] { tmps := #[wp p, .int .u64 n, wp Wb, undef, .int .u8 x, wp p, .bool false, .bool false, wp p, wp p, wp p, .bool true, .bool false, .bool false, .int .u64 n, (.func (.func 98) #[] #[wp q]), .int .u8 x, wp p, wp p, wp p, undef, undef, undef, .int .u8 x, undef, undef, undef, undef, undef], defers := [] } V) := by
      refine HR.out _ _ _ _ ?_
      refine wpAnyIn_ready (rs := [3, 7]) (by kernel_rfl) (by simp) ?_
      refine AllReadyIn.cons rfl (fun K hK => ?_) ?_
      · have hK := Lib.hid hK
        go_simp
        exact hK.out _ _ (HR2.out _ _ _ _ s1310.out)
      refine AllReadyIn.cons rfl (fun K hK => ?_) ?_
      · have hK := Lib.hid hK
        go_simp
        exact hK.out _ _ (HR2.out _ _ _ _ s1220.out)
      exact AllReadyIn.nil
    have s0210 : Hid (R 10 #[false, true, true, false, false, false, true, false, false, false, false, false, false] { tmps := #[wp p, .int .u64 n, wp Wb, undef, .int .u8 x, wp p, .bool false, .bool false, wp p, wp p, wp p, .bool true, .bool false, .bool false, .int .u64 n, (.func (.func 98) #[] #[wp q]), .int .u8 x, undef, wp p, wp p, undef, undef, undef, .int .u8 x, undef, undef, undef, undef, undef], defers := [] } V) := by
      refine HR.out _ _ _ _ ?_
      refine wpAnyIn_ready (rs := [0, 3, 7]) (by kernel_rfl) (by simp) ?_
      refine AllReadyIn.cons rfl (fun K hK => ?_) ?_
      · have hK := Lib.hid hK
        go_simp
        exact hK.out _ _ (HR2.out _ _ _ _ s1210.out)
      refine AllReadyIn.cons rfl (fun K hK => ?_) ?_
      · have hK := Lib.hid hK
        go_simp
        exact hK.out _ _ (HR2.out _ _ _ _ s0310.out)
      refine AllReadyIn.cons rfl (fun K hK => ?_) ?_
      · have hK := Lib.hid hK
        go_simp
        exact hK.out _ _ (HR2.out _ _ _ _ s0220.out)
      exact AllReadyIn.nil
    have s1200 : Hid (R 10 #[true, true, true, false, false, false, false, false, false, false, false, false, false] { tmps := #[wp p, .int .u64 n, wp Wb, undef, .int .u8 x, wp p, .bool false, .bool false, wp p, wp p, wp p, .bool true, .bool false, .bool false, .int .u64 n, (.func (.func 98) #[] #[wp q]), .int .u8 x, wp p, wp p, wp p, undef, undef, undef, undef, undef, undef, undef, undef, undef], defers := [] } V) := by
      refine HR.out _ _ _ _ ?_
      refine wpAnyIn_ready (rs := [3, 6]) (by kernel_rfl) (by simp) ?_
      refine AllReadyIn.cons rfl (fun K hK => ?_) ?_
      · have hK := Lib.hid hK
        go_simp
        exact hK.out _ _ (HR2.out _ _ _ _ s1300.out)
      refine AllReadyIn.cons rfl (fun K hK => ?_) ?_
      · have hK := Lib.hid hK
        go_simp
        exact hK.out _ _ (HR2.out _ _ _ _ s1210.out)
      exact AllReadyIn.nil
    have s0200 : Hid (R 11 #[false, true, true, false, false, false, false, false, false, false, false, false, false] { tmps := #[wp p, .int .u64 n, wp Wb, undef, .int .u8 x, wp p, .bool false, .bool false, wp p, wp p, wp p, .bool true, .bool false, .bool false, .int .u64 n, (.func (.func 98) #[] #[wp q]), .int .u8 x, undef, wp p, wp p, undef, undef, undef, undef, undef, undef, undef, undef, undef], defers := [] } V) := by
      refine HR.out _ _ _ _ ?_
      refine wpAnyIn_ready (rs := [0, 3, 6]) (by kernel_rfl) (by simp) ?_
      refine AllReadyIn.cons rfl (fun K hK => ?_) ?_
      · have hK := Lib.hid hK
        go_simp
        exact hK.out _ _ (HR2.out _ _ _ _ s1200.out)
      refine AllReadyIn.cons rfl (fun K hK => ?_) ?_
      · have hK := Lib.hid hK
        go_simp
        exact hK.out _ _ (HR2.out _ _ _ _ s0300.out)
      refine AllReadyIn.cons rfl (fun K hK => ?_) ?_
      · have hK := Lib.hid hK
        go_simp
        exact hK.out _ _ (HR2.out _ _ _ _ s0210.out)
      exact AllReadyIn.nil
    have s1120 : Hid (R 9 #[true, true, false, false, false, false, true, true, false, false, false, false, false] { tmps := #[wp p, .int .u64 n, wp Wb, undef, .int .u8 x, wp p, .bool false, .bool false, wp p, wp p, wp p, .bool true, .bool false, .bool false, .int .u64 n, (.func (.func 98) #[] #[wp q]), .int .u8 x, wp p, wp p, undef, undef, undef, undef, .int .u8 x, .slice (some ⟨V.heap.size, 0, none⟩) 1 1, undef, undef, undef, undef], defers := [] } (V.alloc (.cells #[.int .u8 x] 5))) := by
      refine HR.out _ _ _ _ ?_
      refine wpAnyIn_ready (rs := [2]) (by kernel_rfl) (by simp) ?_
      refine AllReadyIn.cons rfl (fun K hK => ?_) ?_
      · have hK := Lib.hid hK
        go_simp
        exact hK.out _ _ (HR2.out _ _ _ _ s1220.out)
      exact AllReadyIn.nil
    have s0120 : Hid (R 10 #[false, true, false, false, false, false, true, true, false, false, false, false, false] { tmps := #[wp p, .int .u64 n, wp Wb, undef, .int .u8 x, wp p, .bool false, .bool false, wp p, wp p, wp p, .bool true, .bool false, .bool false, .int .u64 n, (.func (.func 98) #[] #[wp q]), .int .u8 x, undef, wp p, undef, undef, undef, undef, .int .u8 x, .slice (some ⟨V.heap.size, 0, none⟩) 1 1, undef, undef, undef, undef], defers := [] } (V.alloc (.cells #[.int .u8 x] 5))) := by
      refine HR.out _ _ _ _ ?_
      refine wpAnyIn_ready (rs := [0, 2]) (by kernel_rfl) (by simp) ?_
      refine AllReadyIn.cons rfl (fun K hK => ?_) ?_
      · have hK := Lib.hid hK
        go_simp
        exact hK.out _ _ (HR2.out _ _ _ _ s1120.out)
      refine AllReadyIn.cons rfl (fun K hK => ?_) ?_
      · have hK := Lib.hid hK
        go_simp
        exact hK.out _ _ (HR2.out _ _ _ _ s0220.out)
      exact AllReadyIn.nil
    have s1110 : Hid (R 10 #[true, true, false, false, false, false, true, false, false, false, false, false, false] { tmps := #[wp p, .int .u64 n, wp Wb, undef, .int .u8 x, wp p, .bool false, .bool false, wp p, wp p, wp p, .bool true, .bool false, .bool false, .int .u64 n, (.func (.func 98) #[] #[wp q]), .int .u8 x, wp p, wp p, undef, undef, undef, undef, .int .u8 x, undef, undef, undef, undef, undef], defers := [] } V) := by
      refine HR.out _ _ _ _ ?_
      refine wpAnyIn_ready (rs := [2, 7]) (by kernel_rfl) (by simp) ?_
      refine AllReadyIn.cons rfl (fun K hK => ?_) ?_
      · have hK := Lib.hid hK
        go_simp
        exact hK.out _ _ (HR2.out _ _ _ _ s1210.out)
      refine AllReadyIn.cons rfl (fun K hK => ?_) ?_
      · have hK := Lib.hid hK
        go_simp
        exact hK.out _ _ (HR2.out _ _ _ _ s1120.out)
      exact AllReadyIn.nil
    have s0110 : Hid (R 11 #[false, true, false, false, false, false, true, false, false, false, false, false, false] { tmps := #[wp p, .int .u64 n, wp Wb, undef, .int .u8 x, wp p, .bool false, .bool false, wp p, wp p, wp p, .bool true, .bool false, .bool false, .int .u64 n, (.func (.func 98) #[] #[wp q]), .int .u8 x, undef, wp p, undef, undef, undef, undef, .int .u8 x, undef, undef, undef, undef, undef], defers := [] } V) := by
      refine HR.out _ _ _ _ ?_
      refine wpAnyIn_ready (rs := [0, 2, 7]) (by kernel_rfl) (by simp) ?_
      refine AllReadyIn.cons rfl (fun K hK => ?_) ?_
      · have hK := Lib.hid hK
        go_simp
        exact hK.out _ _ (HR2.out _ _ _ _ s1110.out)
      refine AllReadyIn.cons rfl (fun K hK => ?_) ?_
      · have hK := Lib.hid hK
        go_simp
        exact hK.out _ _ (HR2.out _ _ _ _ s0210.out)
      refine AllReadyIn.cons rfl (fun K hK => ?_) ?_
      · have hK := Lib.hid hK
        go_simp
        exact hK.out _ _ (HR2.out _ _ _ _ s0120.out)
      exact AllReadyIn.nil
    have s1100 : Hid (R 11 #[true, true, false, false, false, false, false, false, false, false, false, false, false] { tmps := #[wp p, .int .u64 n, wp Wb, undef, .int .u8 x, wp p, .bool false, .bool false, wp p, wp p, wp p, .bool true, .bool false, .bool false, .int .u64 n, (.func (.func 98) #[] #[wp q]), .int .u8 x, wp p, wp p, undef, undef, undef, undef, undef, undef, undef, undef, undef, undef], defers := [] } V) := by
      refine HR.out _ _ _ _ ?_
      refine wpAnyIn_ready (rs := [2, 6]) (by kernel_rfl) (by simp) ?_
      refine AllReadyIn.cons rfl (fun K hK => ?_) ?_
      · have hK := Lib.hid hK
        go_simp
        exact hK.out _ _ (HR2.out _ _ _ _ s1200.out)
      refine AllReadyIn.cons rfl (fun K hK => ?_) ?_
      · have hK := Lib.hid hK
        go_simp
        exact hK.out _ _ (HR2.out _ _ _ _ s1110.out)
      exact AllReadyIn.nil
    have s0100 : Hid (R 12 #[false, true, false, false, false, false, false, false, false, false, false, false, false] { tmps := #[wp p, .int .u64 n, wp Wb, undef, .int .u8 x, wp p, .bool false, .bool false, wp p, wp p, wp p, .bool true, .bool false, .bool false, .int .u64 n, (.func (.func 98) #[] #[wp q]), .int .u8 x, undef, wp p, undef, undef, undef, undef, undef, undef, undef, undef, undef, undef], defers := [] } V) := by
      refine HR.out _ _ _ _ ?_
      refine wpAnyIn_ready (rs := [0, 2, 6]) (by kernel_rfl) (by simp) ?_
      refine AllReadyIn.cons rfl (fun K hK => ?_) ?_
      · have hK := Lib.hid hK
        go_simp
        exact hK.out _ _ (HR2.out _ _ _ _ s1100.out)
      refine AllReadyIn.cons rfl (fun K hK => ?_) ?_
      · have hK := Lib.hid hK
        go_simp
        exact hK.out _ _ (HR2.out _ _ _ _ s0200.out)
      refine AllReadyIn.cons rfl (fun K hK => ?_) ?_
      · have hK := Lib.hid hK
        go_simp
        exact hK.out _ _ (HR2.out _ _ _ _ s0110.out)
      exact AllReadyIn.nil
    have s1020 : Hid (R 10 #[true, false, false, false, false, false, true, true, false, false, false, false, false] { tmps := #[wp p, .int .u64 n, wp Wb, undef, .int .u8 x, wp p, .bool false, .bool false, wp p, wp p, wp p, .bool true, .bool false, .bool false, .int .u64 n, (.func (.func 98) #[] #[wp q]), .int .u8 x, wp p, undef, undef, undef, undef, undef, .int .u8 x, .slice (some ⟨V.heap.size, 0, none⟩) 1 1, undef, undef, undef, undef], defers := [] } (V.alloc (.cells #[.int .u8 x] 5))) := by
      refine HR.out _ _ _ _ ?_
      refine wpAnyIn_ready (rs := [1]) (by kernel_rfl) (by simp) ?_
      refine AllReadyIn.cons rfl (fun K hK => ?_) ?_
      · have hK := Lib.hid hK
        go_simp
        exact hK.out _ _ (HR2.out _ _ _ _ s1120.out)
      exact AllReadyIn.nil
    have s0020 : Hid (R 11 #[false, false, false, false, false, false, true, true, false, false, false, false, false] { tmps := #[wp p, .int .u64 n, wp Wb, undef, .int .u8 x, wp p, .bool false, .bool false, wp p, wp p, wp p, .bool true, .bool false, .bool false, .int .u64 n, (.func (.func 98) #[] #[wp q]), .int .u8 x, undef, undef, undef, undef, undef, undef, .int .u8 x, .slice (some ⟨V.heap.size, 0, none⟩) 1 1, undef, undef, undef, undef], defers := [] } (V.alloc (.cells #[.int .u8 x] 5))) := by
      refine HR.out _ _ _ _ ?_
      refine wpAnyIn_ready (rs := [0, 1]) (by kernel_rfl) (by simp) ?_
      refine AllReadyIn.cons rfl (fun K hK => ?_) ?_
      · have hK := Lib.hid hK
        go_simp
        exact hK.out _ _ (HR2.out _ _ _ _ s1020.out)
      refine AllReadyIn.cons rfl (fun K hK => ?_) ?_
      · have hK := Lib.hid hK
        go_simp
        exact hK.out _ _ (HR2.out _ _ _ _ s0120.out)
      exact AllReadyIn.nil
    have s1010 : Hid (R 11 #[true, false, false, false, false, false, true, false, false, false, false, false, false] { tmps := #[wp p, .int .u64 n, wp Wb, undef, .int .u8 x, wp p, .bool false, .bool false, wp p, wp p, wp p, .bool true, .bool false, .bool false, .int .u64 n, (.func (.func 98) #[] #[wp q]), .int .u8 x, wp p, undef, undef, undef, undef, undef, .int .u8 x, undef, undef, undef, undef, undef], defers := [] } V) := by
      refine HR.out _ _ _ _ ?_
      refine wpAnyIn_ready (rs := [1, 7]) (by kernel_rfl) (by simp) ?_
      refine AllReadyIn.cons rfl (fun K hK => ?_) ?_
      · have hK := Lib.hid hK
        go_simp
        exact hK.out _ _ (HR2.out _ _ _ _ s1110.out)
      refine AllReadyIn.cons rfl (fun K hK => ?_) ?_
      · have hK := Lib.hid hK
        go_simp
        exact hK.out _ _ (HR2.out _ _ _ _ s1020.out)
      exact AllReadyIn.nil
    have s0010 : Hid (R 12 #[false, false, false, false, false, false, true, false, false, false, false, false, false] { tmps := #[wp p, .int .u64 n, wp Wb, undef, .int .u8 x, wp p, .bool false, .bool false, wp p, wp p, wp p, .bool true, .bool false, .bool false, .int .u64 n, (.func (.func 98) #[] #[wp q]), .int .u8 x, undef, undef, undef, undef, undef, undef, .int .u8 x, undef, undef, undef, undef, undef], defers := [] } V) := by
      refine HR.out _ _ _ _ ?_
      refine wpAnyIn_ready (rs := [0, 1, 7]) (by kernel_rfl) (by simp) ?_
      refine AllReadyIn.cons rfl (fun K hK => ?_) ?_
      · have hK := Lib.hid hK
        go_simp
        exact hK.out _ _ (HR2.out _ _ _ _ s1010.out)
      refine AllReadyIn.cons rfl (fun K hK => ?_) ?_
      · have hK := Lib.hid hK
        go_simp
        exact hK.out _ _ (HR2.out _ _ _ _ s0110.out)
      refine AllReadyIn.cons rfl (fun K hK => ?_) ?_
      · have hK := Lib.hid hK
        go_simp
        exact hK.out _ _ (HR2.out _ _ _ _ s0020.out)
      exact AllReadyIn.nil
    have s1000 : Hid (R 12 #[true, false, false, false, false, false, false, false, false, false, false, false, false] { tmps := #[wp p, .int .u64 n, wp Wb, undef, .int .u8 x, wp p, .bool false, .bool false, wp p, wp p, wp p, .bool true, .bool false, .bool false, .int .u64 n, (.func (.func 98) #[] #[wp q]), .int .u8 x, wp p, undef, undef, undef, undef, undef, undef, undef, undef, undef, undef, undef], defers := [] } V) := by
      refine HR.out _ _ _ _ ?_
      refine wpAnyIn_ready (rs := [1, 6]) (by kernel_rfl) (by simp) ?_
      refine AllReadyIn.cons rfl (fun K hK => ?_) ?_
      · have hK := Lib.hid hK
        go_simp
        exact hK.out _ _ (HR2.out _ _ _ _ s1100.out)
      refine AllReadyIn.cons rfl (fun K hK => ?_) ?_
      · have hK := Lib.hid hK
        go_simp
        exact hK.out _ _ (HR2.out _ _ _ _ s1010.out)
      exact AllReadyIn.nil
    have s0000 : Hid (R 13 #[false, false, false, false, false, false, false, false, false, false, false, false, false] { tmps := #[wp p, .int .u64 n, wp Wb, undef, .int .u8 x, wp p, .bool false, .bool false, wp p, wp p, wp p, .bool true, .bool false, .bool false, .int .u64 n, (.func (.func 98) #[] #[wp q]), .int .u8 x, undef, undef, undef, undef, undef, undef, undef, undef, undef, undef, undef, undef], defers := [] } V) := by
      refine HR.out _ _ _ _ ?_
      refine wpAnyIn_ready (rs := [0, 1, 6]) (by kernel_rfl) (by simp) ?_
      refine AllReadyIn.cons rfl (fun K hK => ?_) ?_
      · have hK := Lib.hid hK
        go_simp
        exact hK.out _ _ (HR2.out _ _ _ _ s1000.out)
      refine AllReadyIn.cons rfl (fun K hK => ?_) ?_
      · have hK := Lib.hid hK
        go_simp
        exact hK.out _ _ (HR2.out _ _ _ _ s0100.out)
      refine AllReadyIn.cons rfl (fun K hK => ?_) ?_
      · have hK := Lib.hid hK
        go_simp
        exact hK.out _ _ (HR2.out _ _ _ _ s0010.out)
      exact AllReadyIn.nil
    exact s0000.out
  case done =>
    rintro D ys W' hD hys ⟨⟨v', h1⟩, ⟨c, h2⟩, h3, h4⟩ hK
    subst hys
    go_wp2_with fail
    refine ⟨by simp, .inl ⟨_, _, rfl, run_takeDeferred hK, ?_⟩⟩
    refine ⟨_, results_none rfl _ _ _, rfl, ⟨v', h1.stands (B := 0) (grownBy_putObj' W' D _) (fun r e => by cases e; exact ⟨Nat.zero_le _, _, hK, rfl⟩)⟩, h4.grown (grownBy_putObj' W' D _) (fun r e => by cases e; omega)⟩
  case stop =>
    rintro D c pre W _ _ h _
    exact h.elim
end Go.Proofs.Ytjelfiljebamgaa
