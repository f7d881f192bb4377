/-
  Chapter 21: a message is cut.
-/
import Derived.Test.YtjelfiljebamgaaPcF
namespace Go.Proofs.Ytjelfiljebamgaa
open Go.RowKit Go.Shelf
set_option linter.unusedVariables false
set_option linter.unusedSimpArgs false
attribute [local go_sem] Oper.semAt_some

def CutOk (id : Int) (n : Nat) (s : Int) : Prop := id < 4611686018427387904 ∧ n ≤ 131072 ∧ 1 ≤ s ∧ s ≤ 880
theorem info_bs : (Try.prog.info? 23).map (fun i => (i.zero, i.size, i.bytes)) = some (some (.slice none 0 0), 1, 24) := by kernel_rfl
theorem push_new (W : World) (o : Obj) {n : Nat} (h : W.heap.size = n) : (W.alloc o).heap[n]? = some o := h ▸ heap_alloc_new W o
theorem push_old {W : World} {o o' : Obj} {k : Nat} (h : W.heap[k]? = some o') : (W.alloc o).heap[k]? = some o' := (Below.heap_alloc W o k (Array.getElem?_eq_some_iff.1 h).1).trans h
set_option maxRecDepth 100000 in
theorem cut_bad (id s : Int) (u : Value) (L : List Int) (W : World) (hu : BytV W u L) (h : ¬ CutOk id L.length s) :
    Calls Try.prog 15 #[.int .u64 id, u, .int .i64 s] W fun e w' => e = .returned (.tuple #[.slice none 0 0, .int .i64 210]) ∧ Later W w' := by
  obtain ⟨ao, cap, rfl⟩ := bytV_form hu
  obtain ⟨n, hn⟩ : ∃ n, Hid (L.length = n) := ⟨_, rfl⟩
  rw [hn.out] at h ⊢
  have hbad : ¬ (((id < 4611686018427387904 ∧ (n : Int) ≤ 131072) ∧ 1 ≤ s) ∧ s ≤ 880) := fun hh => h ⟨hh.1.1.1, by omega, hh.1.2, hh.2⟩
  clear hu h
  go_enter Try.func15, Try.ntmps15
  go_wp2_with fail
  all_goals
    refine bodyPost_ret (v := .tuple #[.slice none 0 0, .int .i64 210]) ?_ rfl ?_
    · simp only [results]
      go_simp
    · exact ⟨rfl, (((Later.refl _).alloc _).alloc _).alloc _⟩
theorem Later.of_grown {w w' : World} (h : w.grownBy w' none) : Later w w' := ⟨h.os, h.tape, h.output, h.size, fun k hk => h.block k hk (by simp)⟩
theorem grown_none {w0 w w' : World} {row : Option Nat} (h : w0.grownBy w none) (hg : w.grownBy w' row) (hr : ∀ r, row = some r → w0.heap.size ≤ r) : w0.grownBy w' none :=
  ⟨hg.os.trans h.os, hg.tape.trans h.tape, hg.output.trans h.output, Nat.le_trans h.size hg.size, fun k hk hne => by
    refine (hg.block k (Nat.lt_of_lt_of_le hk h.size) (fun e => ?_)).trans (h.block k hk hne)
    have := hr k e.symm; omega⟩
theorem append_block {W w1 : World} {B k : Nat} {v v' : Value} {tmp : Obj} (hgrow : (W.alloc tmp).grownBy w1 v.ownBlock) (hk : k < W.heap.size) (hne : k ≠ B) (hr : v.ownBlock ≠ some k) :
    (w1.setCell ⟨B, 0, none⟩ v').heap[k]? = W.heap[k]? :=
  (Below.heap_setCell _ _ _ k hne).trans ((hgrow.block k (by simp; omega) (fun e => hr e.symm)).trans (Below.heap_alloc W tmp k hk))
theorem append_none {X W w1 : World} {n₀ B e size k : Nat} {v v' : Value} {xs : List Value} {tmp : Obj} (h : X.grownBy W none) (hX : X.heap.size ≤ n₀) (hB : X.heap.size ≤ B) (hrow : W.ownsRow n₀ e size v k xs) (hgrow : (W.alloc tmp).grownBy w1 v.ownBlock) :
    X.grownBy (w1.setCell ⟨B, 0, none⟩ v') none := by
  refine grown_none (grown_none (grown_none h (World.grownBy_alloc W tmp none) (fun r e' => by cases e')) hgrow (fun r e' => ?_)) (grownBy_setCell' w1 B v') (fun r e' => by cases e'; exact hB)
  rcases hrow.2 with ⟨rfl, _⟩ | ⟨g, cap, cur, rfl, hb, _, _⟩
  · simp [Value.ownBlock] at e'
  · obtain rfl : g = r := by simpa [Value.ownBlock] using e'
    omega
theorem heap_setCell_same {W : World} {q : Nat} {c : Array Value} {t : TypeId} (h : W.heap[q]? = some (.cells c t (0, 0))) (u : Value) : (W.setCell ⟨q, 0, none⟩ u).heap[q]? = some (.cells (c.setIfInBounds 0 u) t (0, 0)) := by
  obtain ⟨hlt, hk⟩ := Array.getElem?_eq_some_iff.1 h
  show (W.heap.modify q _)[q]? = _
  rw [Array.getElem?_eq_getElem (by rw [Array.size_modify]; exact hlt), Array.getElem_modify_self, hk]
  simp
/-- The pieces that lie in a list of slices. -/
def Pcs (W : World) (n₀ : Nat) (vs : List Value) (Ls : List (List Int)) : Prop := vs.length = Ls.length ∧ ∀ (j : Nat) (u : Value) (D : List Int), vs[j]? = some u → Ls[j]? = some D → W.ownsRow n₀ 5 1 u D.length (encB D)
theorem Pcs.kept {W W' : World} {n₀ : Nat} {vs : List Value} {Ls : List (List Int)} (h : Pcs W n₀ vs Ls) (k : ∀ (u : Value) (D : List Int), W.ownsRow n₀ 5 1 u D.length (encB D) → W'.ownsRow n₀ 5 1 u D.length (encB D)) : Pcs W' n₀ vs Ls :=
  ⟨h.1, fun j u D h1 h2 => k u D (h.2 j u D h1 h2)⟩
theorem Pcs.snoc {W : World} {n₀ : Nat} {vs : List Value} {Ls : List (List Int)} (h : Pcs W n₀ vs Ls) {u : Value} {D : List Int} (hu : W.ownsRow n₀ 5 1 u D.length (encB D)) : Pcs W n₀ (vs ++ [u]) (Ls ++ [D]) := by
  refine ⟨by rw [List.length_append, List.length_append, h.1]; rfl, fun j u' D' h1 h2 => ?_⟩
  rcases Nat.lt_or_ge j vs.length with hj | hj
  · rw [List.getElem?_append_left hj] at h1
    rw [List.getElem?_append_left (by rw [← h.1]; exact hj)] at h2
    exact h.2 j u' D' h1 h2
  · rw [List.getElem?_append_right hj] at h1
    rw [List.getElem?_append_right (by rw [← h.1]; exact hj), ← h.1] at h2
    rcases Nat.eq_zero_or_pos (j - vs.length) with h0 | h0
    · rw [h0] at h1 h2
      cases h1; cases h2; exact hu
    · rw [List.getElem?_eq_none (by simp; omega)] at h1; cases h1
theorem own_ne {W : World} {base base' e e' k k' : Nat} {v v' : Value} {xs xs' : List Value} (h : W.ownsRow base e 1 v k xs) (h' : W.ownsRow base' e' 1 v' k' xs') (hne : e ≠ e') : v.ownBlock = none ∨ v.ownBlock ≠ v'.ownBlock := by
  rcases h.2 with ⟨rfl, _⟩ | ⟨g, cap, cur, rfl, _, hgb, _⟩
  · exact .inl (by simp [Value.ownBlock])
  · refine .inr (fun e1 => row_ne h' hgb hne ?_)
    rw [← e1]; simp [Value.ownBlock]
/-- Bytes do not lie in boxes of other kinds. -/
theorem BytV.past {X W : World} {B : Nat} {v : Value} {D : List Int} (h : BytV X v D) (hk : ∀ g, B ≤ g → g < X.heap.size → ∃ z t, X.heap[g]? = some (.cells #[z] t (0, 0)) ∧ ∀ b, z ≠ .int .u8 b) (hs : ∀ g, g < B → W.heap[g]? = X.heap[g]?) : BytV W v D := by
  obtain ⟨hb, ao, cap, rfl, hc, hv⟩ := h
  refine ⟨hb, ao, cap, rfl, hc, fun k hk' => ?_⟩
  obtain ⟨g, o, rfl, h1⟩ := hv k hk'
  refine ⟨g, o, rfl, ?_⟩
  rcases Nat.lt_or_ge g B with hg | hg
  · exact (World.cell?_of_block (a := ⟨g, o + k, none⟩) (hs g hg)).trans h1
  · obtain ⟨z, t, hz, hne⟩ := hk g hg (cell_lt h1)
    rw [cell_of_row X g (o + k) _ _ _ hz] at h1
    rcases Nat.eq_zero_or_pos (o + k) with h0 | h0
    · rw [h0] at h1
      exact absurd (Option.some.inj h1) (hne _)
    · rw [Array.getElem?_eq_none (by simp; omega)] at h1; cases h1
theorem own_form {W : World} {base e k size : Nat} {v : Value} {xs : List Value} (h : W.ownsRow base e size v k xs) : ∃ ao cap, v = .slice ao k cap := by
  rcases h.2 with ⟨rfl, h0⟩ | ⟨g, cap, cur, rfl, _, hgb, _⟩
  · exact ⟨none, 0, by rw [h0]⟩
  · exact ⟨_, _, rfl⟩
theorem chunks_of_le_n {s : Nat} (hs : 1 ≤ s) : ∀ (n : Nat) (L D : List Int) (j : Nat), L.length ≤ n → (chunks L s)[j]? = some D → D.length ≤ s
  | 0, L, D, j, hL, h => by
    rw [chunks_eq hs, if_pos (by omega)] at h
    cases j with
    | zero => cases h; rw [List.length_take]; omega
    | succ j => simp at h
  | n + 1, L, D, j, hL, h => by
    rw [chunks_eq hs] at h
    split at h
    · cases j with
      | zero => cases h; rw [List.length_take]; omega
      | succ j => simp at h
    · cases j with
      | zero => cases h; rw [List.length_take]; omega
      | succ j =>
        rw [List.getElem?_cons_succ] at h
        exact chunks_of_le_n hs n (L.drop s) D j (by rw [List.length_drop]; omega) h
theorem chunks_of_le {L D : List Int} {s j : Nat} (hs : 1 ≤ s) (h : (chunks L s)[j]? = some D) : D.length ≤ s := chunks_of_le_n hs _ L D j (Nat.le_refl _) h
def cutL (id : Int) (N : Nat) (L : List Int) (s : Nat) : List (List Int) := List.zipWith (fun i c => wrL id (i : Nat) N c) (List.range N) (chunks L s)
theorem zip_of {α β γ δ : Type} (f : β → γ → δ) (a : α → β) (b : α → γ) : ∀ ys : List α, ys.map (fun x => f (a x) (b x)) = List.zipWith f (ys.map a) (ys.map b)
  | [] => rfl
  | y :: ys => congrArg (f (a y) (b y) :: ·) (zip_of f a b ys)
/-- A message's pieces, numbered. -/
def pcL (id : Int) (of : Nat) (x : Prt) : List Int := wrL id x.1 of x.2.2
set_option maxRecDepth 100000 in
set_option maxHeartbeats 2000000 in
theorem cut_any (id : Int) (s : Nat) (u : Value) (L : List Int) (W : World) (hu : BytV W u L) (hid : 0 ≤ id) (h : CutOk id L.length s) :
    Calls Try.prog 15 #[.int .u64 id, u, .int .i64 s] W fun e w' => (((chunks L s).length ≤ 4096 ∧ ∃ v vs, e = .returned (.tuple #[v, .int .i64 0]) ∧ w'.ownsRow W.heap.size 23 1 v (chunks L s).length vs ∧ Pcs w' W.heap.size vs (cutL id (chunks L s).length L s)) ∨
      (¬ (chunks L s).length ≤ 4096 ∧ e = .returned (.tuple #[.slice none 0 0, .int .i64 210]))) ∧ Later W w' := by
  obtain ⟨ao, cap, hue⟩ := bytV_form hu
  have hs1 : 1 ≤ s ∧ s ≤ 880 := by have := h.2.2; omega
  have hL0 : L.length ≤ 1000000 := by have := h.2.1; omega
  have hof := chunks_of (L := L) (s := s) hs1.1
  obtain ⟨N, hN⟩ : ∃ N, Hid ((chunks L s).length = N) := ⟨_, rfl⟩
  have hNb : N ≤ 1000001 := by rw [← hN.out]; exact chunks_le hs1.1 hL0
  obtain ⟨n, hn⟩ : ∃ n, Hid (L.length = n) := ⟨_, rfl⟩
  rw [hn.out] at h hof hue
  rw [hN.out] at hof ⊢
  obtain ⟨i0, hi, hz0, hz1, hz2⟩ := info_parts info_bs
  obtain ⟨h1, h2, h3, h4⟩ := h
  have hmax : ∀ ts t W, (Builtin.max_ ts t #[.int .i64 1, .int .i64 (((n : Int) + s - 1) / s)]).run Try.prog W = .ok (.int .i64 N) W := fun ts t W => by
    rw [run_max_int2, hof]
    congr 2
    generalize ((n : Int) + s - 1) / s = z
    by_cases h : z > 1
    · rw [if_pos h]; omega
    · rw [if_neg h]; omega
  clear hof
  have d1 : decide ((4611686018427387904 : Int) ≤ id) = false := decide_eq_false (by omega)
  have d2 : decide ((131072 : Int) < (n : Int)) = false := decide_eq_false (by omega)
  have d3 : decide ((s : Int) < 1) = false := decide_eq_false (by omega)
  have d4 : decide ((880 : Int) < (s : Int)) = false := decide_eq_false (by omega)
  have hu := Lib.hid hu
  subst hue
  refine (callsIn_wide (n := 4)).1 ?_
  refine callsIn_of_wp_marks Try.func15 rfl trivial ?_ rfl
  simp only [Try.ntmps15, List.size_toArray, List.length_cons, List.length_nil, Nat.reduceAdd, Nat.reduceSub, Array.replicate_succ, Array.replicate_zero, List.push_toArray, List.append_toArray, List.nil_append, List.cons_append]
  refine wpIn_wide.2 ?_
  go_wp2_with fail
  refine (parts_any _ _ _ _ _).mono ?_
  rintro e w1 ⟨rfl, rfl⟩
  obtain ⟨X2, hX2⟩ : ∃ X, X = ((((((W.alloc (.cells #[.int .u64 id] 22)).alloc (.cells #[.slice none 0 0] 35)).alloc (.cells #[.int .i64 0] 26)).alloc (.cells #[.int .i64 N] 3)).alloc (.cells #[.slice none 0 0] 35)).alloc (.cells #[.slice ao n cap] 23)).alloc (.cells #[.int .i64 s] 3) := ⟨_, rfl⟩
  have hlX : Later W X2 := by rw [hX2]; exact (((((((Later.refl _).alloc _).alloc _).alloc _).alloc _).alloc _).alloc _).alloc _
  have k3 : X2.heap[W.heap.size]? = some (.cells #[.int .u64 id] 22 (0, 0)) := by rw [hX2]; exact push_old (push_old (push_old (push_old (push_old (push_old (push_new _ _ rfl))))))
  have k6 : X2.heap[W.heap.size + 1]? = some (.cells #[.slice none 0 0] 35 (0, 0)) := by rw [hX2]; exact push_old (push_old (push_old (push_old (push_old (push_new _ _ (by simp))))))
  have k7 : X2.heap[W.heap.size + 1 + 1]? = some (.cells #[.int .i64 0] 26 (0, 0)) := by rw [hX2]; exact push_old (push_old (push_old (push_old (push_new _ _ (by simp)))))
  have k8 : X2.heap[W.heap.size + 1 + 1 + 1]? = some (.cells #[.int .i64 N] 3 (0, 0)) := by rw [hX2]; exact push_old (push_old (push_old (push_new _ _ (by simp))))
  have kb : Boxed X2 (W.heap.size + 1 + 1 + 1 + 1) 35 (.slice none 0 0) := by
    have := Boxed.new ((((W.alloc (.cells #[.int .u64 id] 22)).alloc (.cells #[.slice none 0 0] 35)).alloc (.cells #[.int .i64 0] 26)).alloc (.cells #[.int .i64 N] 3)) 35 (.slice none 0 0)
    simp only [World.size_alloc] at this
    rw [hX2]; exact (this.alloc _).alloc _
  have kq : X2.heap[W.heap.size + 1 + 1 + 1 + 1 + 1]? = some (.cells #[.slice ao n cap] 23 (0, 0)) := by rw [hX2]; exact push_old (push_new _ _ (by simp))
  have kr : X2.heap[W.heap.size + 1 + 1 + 1 + 1 + 1 + 1]? = some (.cells #[.int .i64 s] 3 (0, 0)) := by rw [hX2]; exact push_new _ _ (by simp)
  have hXs : X2.heap.size = W.heap.size + 1 + 1 + 1 + 1 + 1 + 1 + 1 := by rw [hX2]; simp
  have e5 : (((((W.alloc (.cells #[.int .u64 id] 22)).alloc (.cells #[.slice none 0 0] 35)).alloc (.cells #[.int .i64 0] 26)).alloc (.cells #[.int .i64 N] 3)).alloc (.cells #[.slice none 0 0] 35)).heap.size = W.heap.size + 1 + 1 + 1 + 1 + 1 := by simp
  have hbx : ∀ g, W.heap.size ≤ g → g < X2.heap.size → ∃ z t, X2.heap[g]? = some (.cells #[z] t (0, 0)) ∧ ∀ b, z ≠ .int .u8 b := by
    intro g hg1 hg2
    rw [hXs] at hg2
    rcases (show g = W.heap.size ∨ g = W.heap.size + 1 ∨ g = W.heap.size + 1 + 1 ∨ g = W.heap.size + 1 + 1 + 1 ∨ g = W.heap.size + 1 + 1 + 1 + 1 ∨ g = W.heap.size + 1 + 1 + 1 + 1 + 1 ∨ g = W.heap.size + 1 + 1 + 1 + 1 + 1 + 1 by omega) with rfl | rfl | rfl | rfl | rfl | rfl | rfl
    · exact ⟨_, _, k3, fun b e => by cases e⟩
    · exact ⟨_, _, k6, fun b e => by cases e⟩
    · exact ⟨_, _, k7, fun b e => by cases e⟩
    · exact ⟨_, _, k8, fun b e => by cases e⟩
    · exact ⟨_, _, kb, fun b e => by cases e⟩
    · exact ⟨_, _, kq, fun b e => by cases e⟩
    · exact ⟨_, _, kr, fun b e => by cases e⟩
  rw [← hX2, e5]
  clear hX2 e5
  have hu2 := hu.out.later hlX
  have HS := Lib.hid (parts_seq _ _ s L _ X2 hs1 hL0 (by omega) hu2 kq kr)
  rw [hN.out] at HS
  obtain ⟨B3, hB3⟩ : ∃ x, Hid (W.heap.size = x) := ⟨_, rfl⟩
  obtain ⟨B6, hB6⟩ : ∃ x, Hid (W.heap.size + 1 = x) := ⟨_, rfl⟩
  obtain ⟨B7, hB7⟩ : ∃ x, Hid (W.heap.size + 1 + 1 = x) := ⟨_, rfl⟩
  obtain ⟨B8, hB8⟩ : ∃ x, Hid (W.heap.size + 1 + 1 + 1 = x) := ⟨_, rfl⟩
  obtain ⟨Bo, hBo⟩ : ∃ x, Hid (W.heap.size + 1 + 1 + 1 + 1 = x) := ⟨_, rfl⟩
  obtain ⟨q, hq⟩ : ∃ x, Hid (W.heap.size + 1 + 1 + 1 + 1 + 1 = x) := ⟨_, rfl⟩
  obtain ⟨r, hr⟩ : ∃ x, Hid (W.heap.size + 1 + 1 + 1 + 1 + 1 + 1 = x) := ⟨_, rfl⟩
  obtain ⟨n₀, hn0⟩ : ∃ x, Hid (X2.heap.size = x) := ⟨_, rfl⟩
  have ord : W.heap.size ≤ B3 ∧ B3 < B6 ∧ B6 < B7 ∧ B7 < B8 ∧ B8 < Bo ∧ Bo < q ∧ q < r ∧ r < X2.heap.size := by
    have := hB3.out; have := hB6.out; have := hB7.out; have := hB8.out; have := hBo.out; have := hq.out; have := hr.out; omega
  have hrn : n₀ ≤ r + 1 := by have := hn0.out; have := hr.out; omega
  have hn01 : n₀ ≤ X2.heap.size ∧ X2.heap.size ≤ n₀ := by have := hn0.out; omega
  have hWX : W.heap.size ≤ X2.heap.size := hlX.size
  have oW : W.heap.size ≤ B3 := ord.1
  have o6 : W.heap.size ≤ B6 := by omega
  have o7 : W.heap.size ≤ B7 := by omega
  have oo : W.heap.size ≤ Bo := by omega
  rw [hr.out, hq.out, hBo.out, hB8.out, hB7.out, hB6.out, hB3.out]
  rw [hr.out, hq.out] at HS
  rw [hr.out] at kr
  rw [hq.out] at kq
  rw [hBo.out] at kb
  rw [hB8.out] at k8
  rw [hB7.out] at k7
  rw [hB6.out] at k6
  rw [hB3.out] at k3
  obtain ⟨-, o36, o67, o78, o8o, ooq, oqr, orX⟩ := ord
  obtain ⟨hn1, hn2⟩ := hn01
  clear hr hq hBo hB8 hB7 hB6 hB3 hn0 hmax hu hXs
  go_wp2_with fail
  refine (wpIn_wide (n := 4)).1 ?_
  refine wpIn_rangeFunc_q rfl (by omega) (gf := 87) (lb := #[wp q, wp r]) rfl trivial (enters_of Try.func87 (by kernel_rfl) rfl)
    HS.out (by omega) (fun h k => ⟨k.1.trans h.1, k.2.trans h.2⟩) (fun V l o o' hl _ _ _ => ⟨World.putObj_heap_other (by omega), World.putObj_heap_other (by omega)⟩) (Below.refl _ _) (fun _ => rfl)
    (fun pre W' => (∃ v vs, Boxed W' Bo 35 v ∧ W'.ownsRow n₀ 23 1 v pre.length vs ∧ Pcs W' n₀ vs (pre.map (fun x => pcL id N x.1)) ∧ (pre ≠ [] → N ≤ 4096)) ∧ W.grownBy W' none ∧
      W'.heap[B3]? = some (.cells #[.int .u64 id] 22 (0, 0)) ∧ W'.heap[B6]? = some (.cells #[.slice none 0 0] 35 (0, 0)) ∧ W'.heap[B7]? = some (.cells #[.int .i64 0] 26 (0, 0)) ∧ W'.heap[B8]? = some (.cells #[.int .i64 N] 3 (0, 0)) ∧
      (∃ c, W'.heap[q]? = some (.cells c 23 (0, 0))) ∧ W'.heap[r]? = some (.cells #[.int .i64 s] 3 (0, 0)))
    (fun c pre W' => c = .ret ∧ ¬ N ≤ 4096 ∧ W.grownBy W' none ∧ W'.heap[B6]? = some (.cells #[.slice none 0 0] 35 (0, 0)) ∧ W'.heap[B7]? = some (.cells #[.int .i64 210] 26 (0, 0)))
    ?own (fun c => ?ownx)
    ⟨⟨_, [], kb, World.ownsRow_nil _ _ _ _, ⟨rfl, fun j u D h => by simp at h⟩, fun h => absurd rfl h⟩, hlX.grown, k3, k6, k7, k8, ⟨_, kq⟩, kr⟩
    (fun x => { tmps := #[.int .u64 id, .slice ao n cap, .int .i64 s, wp B3, undef, undef, wp B6, wp B7, wp B8, wp Bo, .int .i64 x.1.1, x.1.2.1, undef, undef, .int .u64 id, .bool false, .bool false, .slice ao n cap, .int .i64 n, .bool false, .bool false, .bool false, .int .i64 s, .bool false, .bool false, .bool false, .int .i64 s, .bool false, .bool false, .slice ao n cap, .int .i64 n, .int .i64 s, .int .i64 ((n : Int) + s), .int .i64 ((n : Int) + s - 1), .int .i64 s, .int .i64 (((n : Int) + s - 1) / s), .int .i64 N, .slice ao n cap, .int .i64 s, (.func (.func 87) #[] #[wp q, wp r]), .int .i64 x.1.1, x.1.2.1, undef, undef, undef, undef, undef, undef, undef, undef, undef, undef, undef, undef, undef, undef, undef, undef], defers := [] }) ?assign ?body ?done ?stop
  case own =>
    refine ⟨fun pre X Y row ⟨⟨v, vs, hv, hrow, hpc, hne⟩, hG, j3, j6, j7, j8, ⟨c, jq⟩, jr⟩ hg hr => ?_, fun pre X u ⟨⟨v, vs, hv, hrow, hpc, hne⟩, hG, j3, j6, j7, j8, ⟨c, jq⟩, jr⟩ => ?_⟩
    · exact ⟨⟨v, vs, cells_stand hg hr hv, row_stands hrow hg hr, hpc.kept (fun u D h => row_stands h hg hr), hne⟩, grown_none hG hg (fun r e => by have := (hr r e).1; omega), cells_stand hg hr j3, cells_stand hg hr j6, cells_stand hg hr j7, cells_stand hg hr j8, ⟨c, cells_stand hg hr jq⟩, cells_stand hg hr jr⟩
    · have hb : ∀ k, k ≠ q → (X.setCell ⟨q, 0, none⟩ u).heap[k]? = X.heap[k]? := fun k hk => Below.heap_setCell _ _ _ k hk
      have hqn : (⟨q, 0, none⟩ : Addr).block < n₀ := by show q < n₀; omega
      exact ⟨⟨v, vs, hv.other (by omega) u, ownsRow_setCell_below hrow hqn u, hpc.kept (fun u' D h => ownsRow_setCell_below h hqn u), hne⟩, grown_none hG (grownBy_set _ q 0 u) (fun r e => by cases e; omega), (hb _ (by omega)).trans j3, (hb _ (by omega)).trans j6, (hb _ (by omega)).trans j7, (hb _ (by omega)).trans j8, ⟨_, heap_setCell_same jq u⟩, (hb _ (by omega)).trans jr⟩
  case ownx =>
    refine ⟨fun pre X Y row ⟨hc, hN2, hG, j6, j7⟩ hg hr => ?_, fun pre X u ⟨hc, hN2, hG, j6, j7⟩ => ?_⟩
    · exact ⟨hc, hN2, grown_none hG hg (fun r e => by have := (hr r e).1; omega), cells_stand hg hr j6, cells_stand hg hr j7⟩
    · have hb : ∀ k, k ≠ q → (X.setCell ⟨q, 0, none⟩ u).heap[k]? = X.heap[k]? := fun k hk => Below.heap_setCell _ _ _ k hk
      exact ⟨hc, hN2, grown_none hG (grownBy_set _ q 0 u) (fun r e => by cases e; omega), (hb _ (by omega)).trans j6, (hb _ (by omega)).trans j7⟩
  case assign =>
    intro l x W K hK
    gi_wp2
    exact hK
  case body =>
    rintro l pre ⟨⟨xi, xu, xD⟩, hx⟩ W1 ⟨⟨v, vs, hv, hrow, hpc, hne⟩, hG, j3, j6, j7, j8, ⟨c, jq⟩, jr⟩ hlt
    obtain ⟨m, xo, xcap, rfl⟩ : ∃ m ao cap, xu = .slice ao m cap := by
      obtain ⟨a, c, h⟩ := bytV_form hx.2.2.1
      exact ⟨_, a, c, h⟩
    have hu1 : BytV W1 (.slice xo m xcap) xD := hx.2.2.1.past hbx (fun g hg => (hG.block g hg (by simp)).trans (hlX.block g hg).symm)
    have hxi : xi < N := by have := hx.1; rw [hN.out] at this; exact this
    have hxD : xD.length ≤ 880 := by have h := chunks_of_le hs1.1 hx.2.1; exact Nat.le_trans h hs1.2
    have c3 : W1.cell? ⟨B3, 0, none⟩ = some (.int .u64 id) := cell_of_row W1 B3 0 _ _ _ j3
    have c6 : W1.cell? ⟨B6, 0, none⟩ = some (.slice none 0 0) := cell_of_row W1 B6 0 _ _ _ j6
    have c7 : W1.cell? ⟨B7, 0, none⟩ = some (.int .i64 0) := cell_of_row W1 B7 0 _ _ _ j7
    have c8 : W1.cell? ⟨B8, 0, none⟩ = some (.int .i64 N) := cell_of_row W1 B8 0 _ _ _ j8
    obtain ⟨pL, hpL⟩ : ∃ p : List (List Int), Hid (p = [pcL id N (xi, .slice xo m xcap, xD)]) := ⟨_, Lib.hid rfl⟩
    by_cases hN4 : N ≤ 4096
    · have hcall := Lib.hid (write_yes id xi N _ xD W1 hu1 ⟨by omega, by omega, by omega, by omega, by omega, by omega⟩ hid)
      gi_wp2_with fail
      refine ⟨trivial, ?_⟩
      refine (CallsIn.inRound l (callsIn_wide.2 hcall.out)).mono ?_
      rintro e W2 ⟨v2, rfl, hr2, h2⟩
      have hsz2 := h2.size
      have hszG := hG.size
      have hn1W : n₀ ≤ W1.heap.size := Nat.le_trans hrn (Array.getElem?_eq_some_iff.1 jr).1
      have hv2 := Boxed.later hv h2
      have hc2 := hv2.cell
      have hrow2 := hrow.kept h2.grown (Classical.em _)
      have hpc2 : Pcs W2 n₀ vs _ := hpc.kept (fun u D h => h.kept h2.grown (Classical.em _))
      replace hr2 := row_mono hr2 hn1W
      obtain ⟨m2, o2, cap2, rfl⟩ : ∃ m a c, v2 = .slice a m c := by
        obtain ⟨a1, c1, h⟩ := own_form hr2
        exact ⟨_, a1, c1, h⟩
      have hML : 4097 < maxLen := by decide
      have hpl : pre.length < 4096 := Nat.lt_of_lt_of_le hlt hN4
      have t3 := (h2.block B3 (cell_lt c3)).trans j3
      have t6 := (h2.block B6 (cell_lt c6)).trans j6
      have t7 := (h2.block B7 (cell_lt c7)).trans j7
      have t8 := (h2.block B8 (cell_lt c8)).trans j8
      have tq := (h2.block q (Array.getElem?_eq_some_iff.1 jq).1).trans jq
      have tr := (h2.block r (Array.getElem?_eq_some_iff.1 jr).1).trans jr
      have q1 := hrow2.alloc (.cells #[.slice o2 m2 cap2] 23)
      have q2 := Try.underlying35
      have q3 : ∀ u ∈ [Value.slice o2 m2 cap2], u.oneCell' = true := fun u hu => by rw [List.mem_singleton] at hu; rw [hu]; rfl
      have q4 : pre.length + 1 ≤ maxLen := by omega
      have q5 : ∀ j u, [Value.slice o2 m2 cap2][j]? = some u → (W2.alloc (.cells #[.slice o2 m2 cap2] 23)).cell? ((⟨W2.heap.size, 0, none⟩ : Addr).add j) = some u := World.news_of_block (heap_alloc_new _ _)
      have q6 : (pre.length + 1) * 24 ≤ 140737488355328 := by omega
      have q7 : n₀ ≤ (W2.alloc (.cells #[.slice o2 m2 cap2] 23)).heap.size := by simp; omega
      have q8 : 35 ≠ 23 := by decide
      have q9 : n₀ ≤ W2.heap.size := by omega
      gi_wp2_with (gi_at_builtin; refine wpListIn_append_own _ rfl _ _ 35 rfl n₀ 23 i0 (.slice none 0 0) 1 24 q2 hi hz0 hz1 hz2 rfl (by decide) _ _ _ rfl q1 ⟨W2.heap.size, 0, none⟩ 1 1 [.slice o2 m2 cap2] rfl rfl q5 q3 q4 q6 q7 ?_; intro v' w1 hown' hgrow _; obtain ⟨g', cap', rfl⟩ := ownsRow_succ hown'; obtain ⟨hv1, hv3, hr3, hk3, hb3, hg3⟩ := boxed_append hv2 q8 hrow2 q9 hown' hgrow; have hc1 := hv1.cell; have hf1 := hv1.frozen)
      have kk : ∀ k, k < W2.heap.size → k ≠ Bo → v.ownBlock ≠ some k → _ := fun k h1 h2 h3 => append_block (B := Bo) (v' := .slice (some ⟨g', 0, none⟩) (pre.length + 1) cap') hgrow h1 h2 h3
      have kg : ∀ k c t, W2.heap[k]? = some (.cells c t (0, 0)) → t ≠ 23 → k ≠ Bo → _ := fun k c t hk ht hne => (kk k (Array.getElem?_eq_some_iff.1 hk).1 hne (row_ne hrow2 hk ht)).trans hk
      have kr : ∀ (u : Value) (D : List Int), W2.ownsRow n₀ 5 1 u D.length (encB D) → _ := fun u D h => ownsRow_setCell_below (a := ⟨Bo, 0, none⟩) ((h.alloc (.cells #[.slice o2 m2 cap2] 23)).kept hgrow (own_ne h hrow2 (by decide))) (show Bo < n₀ by omega) (.slice (some ⟨g', 0, none⟩) (pre.length + 1) cap')
      have kq : _ := (kk q (Array.getElem?_eq_some_iff.1 tq).1 (by omega) (fun e => own_ge hrow2 (show q < n₀ by omega) e.symm)).trans tq
      refine ⟨((KeepsOthers.of_grownBy h2.grown (fun _ _ e => by cases e)).trans hk3).from _, ⟨(kk q (Array.getElem?_eq_some_iff.1 tq).1 (by omega) (fun e => own_ge hrow2 (show q < n₀ by omega) e.symm)).trans (h2.block q (Array.getElem?_eq_some_iff.1 jq).1), (kg r _ _ tr (by decide) (by omega)).trans jr.symm⟩,
        ⟨_, _, hv3, by rw [List.length_append]; exact hr3, ?_, fun _ => hN4⟩, append_none (grown_none hG h2.grown (fun r e => by cases e)) (by omega) (by omega) hrow2 hgrow, kg _ _ _ t3 (by decide) (by omega), kg _ _ _ t6 (by decide) (by omega), kg _ _ _ t7 (by decide) (by omega), kg _ _ _ t8 (by decide) (by omega), ⟨_, kq⟩, kg _ _ _ tr (by decide) (by omega)⟩
      rw [List.map_append]
      exact (hpc2.kept kr).snoc (kr _ _ hr2)
    · have hcall := Lib.hid (write_no id xi N _ xD W1 hu1 (fun h => hN4 (by have := h.2.2.1; omega)))
      have f6 : ∀ W2, Later W1 W2 → W2.cell? ⟨B6, 0, none⟩ = some (.slice none 0 0) ∧ W2.frozen? ⟨B6, 0, none⟩ = false ∧ W2.cell? ⟨B7, 0, none⟩ = some (.int .i64 0) ∧ W2.frozen? ⟨B7, 0, none⟩ = false := fun W2 h2 => ⟨h2.cell c6, h2.frozen c6 (frozen_row j6 0), h2.cell c7, h2.frozen c7 (frozen_row j7 0)⟩
      gi_wp2_with fail
      refine ⟨trivial, ?_⟩
      refine (CallsIn.inRound l (callsIn_wide.2 hcall.out)).mono ?_
      rintro e W2 ⟨rfl, h2⟩
      obtain ⟨c62, f62, c72, f72⟩ := f6 W2 h2
      gi_wp2_with fail
      exact ⟨(((KeepsOthers.of_grownBy h2.grown (fun _ _ e => by cases e)).trans (KeepsOthers.setCell _ _ _)).trans (KeepsOthers.setCell _ _ _)).from _, rfl, hN4,
        grown_none (grown_none (grown_none hG h2.grown (fun r e => by cases e)) (grownBy_set _ B6 0 _) (fun r e => by cases e; omega)) (grownBy_set _ B7 0 _) (fun r e => by cases e; omega),
        (Below.heap_setCell _ _ _ B6 (by show B6 ≠ B7; omega)).trans (heap_setCell_same ((h2.block B6 (cell_lt c6)).trans j6) _), heap_setCell_same ((Below.heap_setCell _ _ _ B7 (by show B7 ≠ B6; omega)).trans ((h2.block B7 (cell_lt c7)).trans j7)) _⟩
  case done =>
    rintro D ys W' hD ⟨hys1, hys2⟩ ⟨⟨v, vs, hv, hrow, hpc, hne⟩, hG, j3, j6, j7, j8, ⟨c, jq⟩, jr⟩ hK
    have hyl : ys.length = N := by have := congrArg List.length hys2; simpa using this
    have hN4 : N ≤ 4096 := by
      cases ys with
      | nil => simp at hyl; omega
      | cons y ys => exact hne (by simp)
    rw [hyl] at hrow
    obtain ⟨vo, vcap, rfl⟩ := own_form hrow
    have hc := hv.cell
    have c6 : W'.cell? ⟨B6, 0, none⟩ = some (.slice none 0 0) := cell_of_row W' B6 0 _ _ _ j6
    have c7 : W'.cell? ⟨B7, 0, none⟩ = some (.int .i64 0) := cell_of_row W' B7 0 _ _ _ j7
    have f6 : W'.frozen? ⟨B6, 0, none⟩ = false := frozen_row j6 0
    have f7 : W'.frozen? ⟨B7, 0, none⟩ = false := frozen_row j7 0
    have hz : ys.map (fun x => pcL id N x.1) = cutL id N L s := by
      unfold cutL
      rw [← hys1, ← hys2]
      exact zip_of (fun i c => wrL id (i : Nat) N c) (fun x : { x : Prt // PartOk X2 L s x } => x.1.1) (fun x => x.1.2.2) ys
    rw [hz] at hpc
    go_wp2_with fail
    obtain ⟨W3, hW3⟩ : ∃ X, X = (W'.setCell ⟨B6, 0, none⟩ (.slice vo N vcap)).setCell ⟨B7, 0, none⟩ (.int .i64 0) := ⟨_, rfl⟩
    have hb6 : (⟨B6, 0, none⟩ : Addr).block < n₀ := by show B6 < n₀; omega
    have hb7 : (⟨B7, 0, none⟩ : Addr).block < n₀ := by show B7 < n₀; omega
    have hK2 : W3.heap[D]? = some (.deferred (some [])) := by
      rw [hW3, Below.heap_setCell _ _ _ D (by show D ≠ B7; omega), Below.heap_setCell _ _ _ D (by show D ≠ B6; omega)]; exact hK
    have e6 : W3.cell? ⟨B6, 0, none⟩ = some (.slice vo N vcap) := by rw [hW3]; exact cell_setCell_o (cell_setCell_s c6) (by omega)
    have e7 : W3.cell? ⟨B7, 0, none⟩ = some (.int .i64 0) := by rw [hW3]; exact cell_setCell_s (cell_setCell_o c7 (by omega))
    have hrow3 : W3.ownsRow n₀ 23 1 (.slice vo N vcap) N vs := by rw [hW3]; exact ownsRow_setCell_below (ownsRow_setCell_below hrow hb6 _) hb7 _
    have hpc3 : Pcs W3 n₀ vs (cutL id N L s) := by rw [hW3]; exact hpc.kept (fun u D h => ownsRow_setCell_below (ownsRow_setCell_below h hb6 _) hb7 _)
    have hG3 : W.grownBy W3 none := by rw [hW3]; exact grown_none (grown_none hG (grownBy_set _ B6 0 _) (fun r e => by cases e; omega)) (grownBy_set _ B7 0 _) (fun r e => by cases e; omega)
    rw [← hW3]
    clear hW3
    refine ⟨by simp, .inl ⟨_, _, rfl, run_takeDeferred hK2, ?_⟩⟩
    have hbe2 := belowK_b (w := X2) hWX W3 D _ (.deferred none) hD hK2 rfl rfl
    have e6' := (World.cell?_of_block (a := ⟨B6, 0, none⟩) (World.putObj_heap_other (w := W3) (o := .deferred none) (show B6 ≠ D by omega))).trans e6
    have e7' := (World.cell?_of_block (a := ⟨B7, 0, none⟩) (World.putObj_heap_other (w := W3) (o := .deferred none) (show B7 ≠ D by omega))).trans e7
    have hend : Later W (W3.putObj D (.deferred none)) := Below.trans (Later.of_grown hG3) hbe2
    have hrow4 := row_mono (ownsRow_putObj hrow3 (.deferred none) hK2 rfl) (show W.heap.size ≤ n₀ by omega)
    have hpc4 : Pcs (W3.putObj D (.deferred none)) W.heap.size vs (cutL id N L s) := ⟨hpc3.1, fun j u D' h1 h2 => row_mono (ownsRow_putObj (hpc3.2 j u D' h1 h2) (.deferred none) hK2 rfl) (show W.heap.size ≤ n₀ by omega)⟩
    obtain ⟨W4, hW4⟩ : ∃ X, X = W3.putObj D (.deferred none) := ⟨_, rfl⟩
    rw [← hW4] at e6' e7' hend hrow4 hpc4 ⊢
    clear hbe2 hW4
    refine ⟨.tuple #[.slice vo N vcap, .int .i64 0], ?_, .inl ⟨hN4, _, _, rfl, hrow4, hpc4⟩, hend⟩
    simp only [results]
    go_simp
  case stop =>
    rintro D c pre W' hD hys ⟨rfl, hN2, hG, j6, j7⟩ hK
    gi_wp2
    refine ⟨by simp, .inl ⟨_, _, rfl, run_takeDeferred hK, ?_⟩⟩
    have hbe2 := belowK_b (w := X2) hWX W' D _ (.deferred none) hD hK rfl rfl
    have e6' := (World.cell?_of_block (a := ⟨B6, 0, none⟩) (World.putObj_heap_other (w := W') (o := .deferred none) (show B6 ≠ D by omega))).trans (cell_of_row W' B6 0 _ _ _ j6)
    have e7' := (World.cell?_of_block (a := ⟨B7, 0, none⟩) (World.putObj_heap_other (w := W') (o := .deferred none) (show B7 ≠ D by omega))).trans (cell_of_row W' B7 0 _ _ _ j7)
    have hend : Later W (W'.putObj D (.deferred none)) := Below.trans (Later.of_grown hG) hbe2
    obtain ⟨W4, hW4⟩ : ∃ X, X = W'.putObj D (.deferred none) := ⟨_, rfl⟩
    rw [← hW4] at e6' e7' hend ⊢
    clear hbe2 hW4
    simp only [List.getElem?_toArray, List.getElem?_cons_zero] at e6' e7'
    refine ⟨.tuple #[.slice none 0 0, .int .i64 210], ?_, .inr ⟨hN2, rfl⟩, hend⟩
    simp only [results]
    go_simp
end Go.Proofs.Ytjelfiljebamgaa
