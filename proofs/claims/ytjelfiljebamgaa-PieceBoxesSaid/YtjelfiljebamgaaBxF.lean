/-
  Chapter 21: the box's small functions: none, there, New; the library's Equal, Grow, Concat of bytes.
-/
import Derived.Lib.AppendZerosOnto
import Derived.Lib.SliceRun
import Derived.Test.YtjelfiljebamgaaBxE
namespace Go.Proofs.Ytjelfiljebamgaa
open Go.RowKit Go.Shelf Go.Maps
set_option linter.unusedVariables false
set_option linter.unusedSimpArgs false
attribute [local go_sem] Oper.semAt_some

theorem none_nil (w : World) : Calls Try.prog 62 #[.pointer none] w fun e w' => e = .returned (.bool true) ∧ w' = w := by
  go_enter Try.func62, Try.ntmps62
  go_wp2
  go_ret
  exact ⟨rfl, rfl⟩
theorem none_zero (x : Nat) (w : World) (h : w.cell? ⟨x, 0, none⟩ = some (.int .i64 0)) : Calls Try.prog 62 #[wp x] w fun e w' => e = .returned (.bool true) ∧ w' = w := by
  go_enter Try.func62, Try.ntmps62
  go_wp2
  go_ret
  exact ⟨rfl, rfl⟩
theorem none_no (x : Nat) (r : Int) (w : World) (h : w.cell? ⟨x, 0, none⟩ = some (.int .i64 r)) (hr : 1 ≤ r) : Calls Try.prog 62 #[wp x] w fun e w' => e = .returned (.bool false) ∧ w' = w := by
  have h0 : (r == 0) = false := by simp; omega
  clear hr
  go_enter Try.func62, Try.ntmps62
  go_wp2
  go_ret
  exact ⟨rfl, rfl⟩
theorem BoxC.cells {w : World} {x B n : Nat} {r : Int} {D : DataW Unit} {f : Nat → Option Nat} {G : Nat → Nat} {M : Bx} {S T : Nat → Prop} (h : BoxC w x r B D f G n M S T) : w.cell? ⟨x, 0, none⟩ = some (.int .i64 r) ∧ w.cell? ⟨x, 1, none⟩ = some (.map (some B)) :=
  ⟨cell_of_row w x 0 _ _ _ h.head, cell_of_row w x 1 _ _ _ h.head⟩
theorem ne_nil_nil (W : World) : (binOp .neq 23 (.slice none 0 0) (.slice none 0 0)).run Try.prog W = .ok (.bool false) W := by kernel_rfl
theorem ne_some_nil (W : World) (ad : Addr) (n c : Nat) : (binOp .neq 23 (.slice (some ad) n c) (.slice none 0 0)).run Try.prog W = .ok (.bool true) W := by kernel_rfl
/-- Is a place filled? -/
theorem PlV.neq {w : World} {T : Nat → Prop} {v : Value} {o : Option (List Int)} (h : PlV w T v o) (W : World) : (binOp .neq 23 v (.slice none 0 0)).run Try.prog W = .ok (.bool o.isSome) W := by
  cases o with
  | none => rw [show v = .slice none 0 0 from h]; exact ne_nil_nil W
  | some d => obtain ⟨ad, n, c, rfl⟩ := h.2.2.1; exact ne_some_nil W ad n c
theorem PlV.form {w : World} {T : Nat → Prop} {v : Value} {o : Option (List Int)} (h : PlV w T v o) : ∃ ao n c, v = .slice ao n c := by
  cases o with
  | none => exact ⟨_, _, _, h⟩
  | some d => obtain ⟨ad, n, c, h⟩ := h.2.2.1; exact ⟨_, _, _, h⟩
set_option maxRecDepth 100000 in
theorem there_any (p g n cap a : Nat) (vs : List Value) (l : List (Option (List Int))) (T : Nat → Prop) (w : World) (hc : w.cell? ⟨p, 0, none⟩ = some (.slice (some ⟨g, 0, none⟩) n cap)) (hr : w.ownsRow 0 23 1 (.slice (some ⟨g, 0, none⟩) n cap) n vs) (hp : PlsV w T vs l) (hn : l.length = n) (hsm : n ≤ 4096) :
    Calls Try.prog 65 #[wp p, .int .i64 a] w fun e w' => e = .returned (.bool (l.getD a none).isSome) ∧ w' = w := by
  by_cases ha : a < n
  · obtain ⟨v, h1, h2⟩ := hp.2 a (by omega)
    have hcell : w.cell? ⟨g, a, none⟩ = some v := by rw [← h1]; exact hr.cellAt a (by omega)
    have hne := fun W => h2.neq W
    obtain ⟨ao, m, c, rfl⟩ := h2.form
    obtain ⟨b, hb⟩ : ∃ b, Hid ((l.getD a none).isSome = b) := ⟨_, rfl⟩
    rw [hb.out] at hne ⊢
    have hlt : (a : Int) < (n : Int) := by omega
    clear hr hp hn hb h1 h2
    go_enter Try.func65, Try.ntmps65
    go_wp2
    go_ret
    exact ⟨rfl, rfl⟩
  · have hb : (l.getD a none).isSome = false := by rw [List.getD_eq_getElem?_getD, List.getElem?_eq_none (by omega)]; rfl
    rw [hb]
    have hlt : ¬ (a : Int) < (n : Int) := by omega
    clear hr hp hn hb
    go_enter Try.func65, Try.ntmps65
    go_wp2
    go_ret
    exact ⟨rfl, rfl⟩
set_option maxRecDepth 100000 in
/-- slices.Equal of bytes: it only reads. -/
theorem equal_any (u v : Value) (L M : List Int) (W : World) (hu : BytV W u L) (hv : BytV W v M) (hL : L.length ≤ 1000000) (hM : M.length ≤ 1000000) :
    Calls Try.prog 66 #[u, v] W fun e w' => e = .returned (.bool (L == M)) ∧ ∃ m, w' = W.drewN m := by
  obtain ⟨_, ao, cap, rfl, -, hcu⟩ := hu
  obtain ⟨_, bo, cbp, rfl, -, hcv⟩ := hv
  obtain ⟨n, hn⟩ : ∃ n, Hid (L.length = n) := ⟨_, rfl⟩
  obtain ⟨m, hm⟩ : ∃ m, Hid (M.length = m) := ⟨_, rfl⟩
  by_cases hnm : n = m
  · subst hnm
    rw [hn.out] at hL
    have h1 : Hid (∀ k, k < n → ∃ g o, ao = some ⟨g, o, none⟩ ∧ W.cell? ⟨g, o + k, none⟩ = some (.int .u8 (L.getD k 0))) := Lib.hid (by rw [← hn.out]; exact hcu)
    have h2 : Hid (∀ k, k < n → ∃ g o, bo = some ⟨g, o, none⟩ ∧ W.cell? ⟨g, o + k, none⟩ = some (.int .u8 (M.getD k 0))) := Lib.hid (by rw [← hm.out]; exact hcv)
    have hLM : Hid ((L == M) = true ↔ ∀ k, k < n → L.getD k 0 = M.getD k 0) := Lib.hid (by
      rw [beq_iff_eq]
      constructor
      · rintro rfl k _; rfl
      · intro h
        apply List.ext_getElem?
        intro k
        by_cases hk : k < n
        · have := h k hk
          rw [List.getD_eq_getElem?_getD, List.getD_eq_getElem?_getD] at this
          rw [List.getElem?_eq_getElem (by rw [hn.out]; exact hk), List.getElem?_eq_getElem (by rw [hm.out]; exact hk)] at this ⊢
          simp at this ⊢; exact this
        · rw [List.getElem?_eq_none (by rw [hn.out]; omega), List.getElem?_eq_none (by rw [hm.out]; omega)])
    rw [hn.out, hm.out]
    obtain ⟨b, hb⟩ : ∃ b, Hid ((L == M) = b) := ⟨_, rfl⟩
    rw [hb.out] at hLM ⊢
    clear hcu hcv hM
    go_enter Try.func66, Try.ntmps66
    go_wp2_with fail
    go_loopg [13] (n + 1) (fun g y wr => Hid (∃ m, wr = W.drewN m) ∧ ∃ (i : Nat), g = n + 1 - i ∧ i ≤ n ∧ y = .int .i64 i ∧ Hid (∀ k, k < i → L.getD k 0 = M.getD k 0))
    case atStart => exact ⟨Lib.hid ⟨0, rfl⟩, 0, by omega, Nat.zero_le _, rfl, Lib.hid (fun k hk => absurd hk (Nat.not_lt_zero _))⟩
    case round =>
      obtain ⟨hl, i, rfl, hin, rfl, hsame⟩ := hrel
      obtain ⟨wo, rfl⟩ : ∃ wo : World, wo = wr := ⟨_, rfl⟩
      have hlw : Later W wo := by obtain ⟨m, e⟩ := hl.out; rw [e]; exact (Later.refl _).drewN _
      by_cases hi : i < n
      · have hii : (i : Int) < (n : Int) := by omega
        obtain ⟨g, o, rfl, hc⟩ := h1.out i hi
        obtain ⟨g2, o2, rfl, hc2⟩ := h2.out i hi
        obtain ⟨x, hx⟩ : ∃ x, Hid (L.getD i 0 = x) := ⟨_, rfl⟩
        obtain ⟨y, hy⟩ : ∃ y, Hid (M.getD i 0 = y) := ⟨_, rfl⟩
        rw [hx.out] at hc
        rw [hy.out] at hc2
        replace hc := hlw.cell hc
        replace hc2 := hlw.cell hc2
        go_wp2_with fail
        go_quiet (fail)
        obtain ⟨w2, hw2⟩ : ∃ X, X = wo.drewN nq := ⟨_, rfl⟩
        have hl2 : Hid (∃ m, w2 = W.drewN m) := Lib.hid (by obtain ⟨m, e⟩ := hl.out; exact ⟨_, by rw [hw2, e, World.drewN_drewN]⟩)
        rw [← hw2]
        clear hw2
        by_cases hxy : x = y
        · have hd : (x != y) = false := by simp [hxy]
          clear hxy
          go_wp2_with fail
          go_roundg (n - i)
          case measure => omega
          case rel => exact ⟨hl2, i + 1, by omega, by omega, by go_num, Lib.hid (fun k hk => by
            by_cases e : k = i
            · subst e; rw [hx.out, hy.out]; simpa using hd
            · exact hsame.out k (by omega))⟩
        · have hd : (x != y) = true := by simp [hxy]
          have hbf : b = false := by
            cases b
            · rfl
            · have := hLM.out.1 rfl i hi
              rw [hx.out, hy.out] at this
              exact absurd this hxy
          clear hxy
          go_wp2_with fail
          go_ret
          subst hbf
          exact ⟨rfl, hl2.out⟩
      · obtain rfl : n = i := by omega
        have hii : ¬ (n : Int) < (n : Int) := by omega
        have hbt : b = true := hLM.out.2 hsame.out
        go_wp2_with fail
        go_ret
        subst hbt
        exact ⟨rfl, hl.out⟩
  · have hLM : (L == M) = false := by
      rw [beq_eq_false_iff_ne]
      intro e
      rw [e, hm.out] at hn
      exact hnm hn.out.symm
    rw [hLM, hn.out, hm.out]
    have hne : ((n : Int) != (m : Int)) = true := by simp; omega
    clear hcu hcv hLM hnm
    go_enter Try.func66, Try.ntmps66
    go_wp2_with fail
    go_ret
    exact ⟨rfl, 0, rfl⟩
/-! A slice of bytes is made from many. -/
set_option maxRecDepth 100000 in
theorem grow_any (n : Nat) (W : World) (hn : n ≤ 4000000) :
    Calls Try.prog 92 #[.slice none 0 0, .int .i64 n] W fun e w' => ∃ v, e = .returned v ∧ w'.ownsRow W.heap.size 5 1 v 0 [] ∧ Later W w' := by
  by_cases h0 : n = 0
  · subst h0
    have h0 : Hid (W.ownsRow W.heap.size 5 1 (.slice none 0 0) 0 []) := Lib.hid (World.ownsRow_nil _ _ _ _)
    go_enter Try.func92, Try.ntmps92
    go_wp2
    go_ret
    exact ⟨_, rfl, h0.out, Later.refl _⟩
  · have h1 : ¬ ((n : Int) < 0) := by omega
    have h4 : (0 : Int) < (n : Int) := by omega
    obtain ⟨i0, hi0, hz0, hs0, hb0⟩ := info_parts info_u8
    have hold : (Builtin.firstCells i0.size 0 (.slice none 0 0)).run Try.prog W.drew = .ok ([] : List Value).toArray W.drew := run_firstCells_none W.drew i0.size 0 0 0
    have hrz : ∀ ty, (Builtin.append_ #[23, 3] ty #[.slice none 0 0, .int .i64 (n : Int)]).run Try.prog W =
        .ok (.slice (some ⟨W.heap.size, 0, none⟩) n (grownCap W n 0 5)) (W.drew.alloc (.cells (Builtin.zeroCells (Value.int .u8 0).cells n ++ Builtin.zeroCells (Value.int .u8 0).cells (grownCap W n 0 5 - n)) 5)) := fun ty => by
      have h := Lib.run_append_grow_zeros W 23 3 ty 5 i0 (.int .u8 0) .i64 .i64 Try.underlying23 Try.underlying3 hi0 hz0 none 0 0 [] hold n (by omega) (by omega) (by omega) (by omega)
        (by rw [hb0]; omega) (by rw [Nat.zero_add]; exact growslice_fits (by omega) (by rw [hb0]; omega))
      simpa using h
    have hGn : n ≤ grownCap W n 0 5 := grownCap_ge W _ _ _
    have hG63 : grownCap W n 0 5 ≤ maxLen := grownCap_le_maxLen W n 0 5 (by unfold maxLen; omega)
    obtain ⟨G, hG⟩ : ∃ G, G = grownCap W n 0 5 := ⟨_, rfl⟩
    rw [← hG] at hrz hGn hG63
    obtain ⟨Z, hZ⟩ : ∃ Z, Z = W.drew.alloc (.cells (Builtin.zeroCells (Value.int .u8 0).cells n ++ Builtin.zeroCells (Value.int .u8 0).cells (G - n)) 5) := ⟨_, rfl⟩
    rw [← hZ] at hrz
    have hl : Later W Z := by rw [hZ]; exact ((Later.refl W).drew).alloc _
    have hrow : Z.ownsRow W.heap.size 5 1 (.slice (some ⟨W.heap.size, 0, none⟩) 0 G) 0 [] := by
      refine ⟨rfl, .inr ⟨W.heap.size, G, _, rfl, Nat.le_refl _, by rw [hZ]; exact heap_alloc_new _ _, Nat.zero_le _, hG63, ?_, by simp⟩⟩
      rw [Array.size_append, size_zeroCells, size_zeroCells]
      simp [Value.cells]; omega
    replace hrow := Lib.hid hrow
    replace hl := Lib.hid hl
    have hGG : G ≤ 9223372036854775807 := by unfold maxLen at hG63; omega
    clear hold hG hZ hi0 hz0 hs0 hb0 hG63
    go_enter Try.func92, Try.ntmps92
    go_wp2_with (at_builtin; refine Lib.wpList_append_run _ rfl _ _ _ _ rfl _ _ rfl rfl _ _ (hrz _) ?_)
    go_ret
    exact ⟨_, rfl, hrow.out, hl.out⟩
/-- Several slices of bytes, all there. -/
def BsV (w : World) (v : Value) (Ls : List (List Int)) : Prop := ∃ g cap vs, v = .slice (some ⟨g, 0, none⟩) Ls.length cap ∧ w.ownsRow 0 23 1 v Ls.length vs ∧ ∀ k, k < Ls.length → ∃ u, vs[k]? = some u ∧ BytV w u (Ls.getD k [])
theorem BsV.later {w w' : World} {v : Value} {Ls : List (List Int)} (h : BsV w v Ls) (hl : Later w w') : BsV w' v Ls := by
  obtain ⟨g, cap, vs, rfl, hr, hk⟩ := h
  exact ⟨g, cap, vs, rfl, row_later hr hl, fun k h1 => by obtain ⟨u, h2, h3⟩ := hk k h1; exact ⟨u, h2, h3.later hl⟩⟩
theorem flat_take {Ls : List (List Int)} {k : Nat} (hk : k < Ls.length) : (Ls.take (k + 1)).flatten = (Ls.take k).flatten ++ Ls.getD k [] := by
  rw [List.take_add_one, List.flatten_append, List.getElem?_eq_getElem hk, List.getD_eq_getElem?_getD, List.getElem?_eq_getElem hk]; simp
theorem flat_len {Ls : List (List Int)} : ∀ k, ((Ls.take k).flatten).length ≤ Ls.flatten.length := fun k => by
  have := List.take_append_drop k Ls
  conv => rhs; rw [← this, List.flatten_append, List.length_append]
  omega
set_option maxRecDepth 100000 in
theorem concat_any (v : Value) (Ls : List (List Int)) (W : World) (hv : BsV W v Ls) (hlen : Ls.length ≤ 4096) (hsum : Ls.flatten.length ≤ 1000000) :
    Calls Try.prog 67 #[v] W fun e w' => ∃ u, e = .returned u ∧ w'.ownsRow W.heap.size 5 1 u Ls.flatten.length (encB Ls.flatten) ∧ Later W w' := by
  obtain ⟨g, cap, vs, rfl, hr, hk⟩ := hv
  obtain ⟨n, hn⟩ : ∃ n, Hid (Ls.length = n) := ⟨_, rfl⟩
  have hr : Hid (W.ownsRow 0 23 1 (.slice (some ⟨g, 0, none⟩) n cap) n vs) := Lib.hid (by rw [← hn.out]; exact hr)
  have hk : Hid (∀ k, k < n → ∃ u, vs[k]? = some u ∧ BytV W u (Ls.getD k [])) := Lib.hid (by rw [← hn.out]; exact hk)
  have hfl : Hid (∀ k, ((Ls.take k).flatten).length ≤ 1000000) := Lib.hid (fun k => Nat.le_trans (flat_len k) hsum)
  have hft : Hid (∀ k, k < n → (Ls.take (k + 1)).flatten = (Ls.take k).flatten ++ Ls.getD k []) := Lib.hid (fun k h => flat_take (by rw [hn.out]; exact h))
  have hall : Hid ((Ls.take n).flatten = Ls.flatten) := Lib.hid (by rw [← hn.out, List.take_length])
  obtain ⟨S, hS⟩ : ∃ S : Nat → Nat, Hid (∀ k, ((Ls.take k).flatten).length = S k) := ⟨fun k => ((Ls.take k).flatten).length, Lib.hid (fun k => rfl)⟩
  obtain ⟨N, hN⟩ : ∃ N, Hid (Ls.flatten.length = N) := ⟨_, Lib.hid rfl⟩
  rw [hn.out] at hlen ⊢
  rw [hN.out]
  clear hsum
  go_enter Try.func67, Try.ntmps67
  go_wp2_with fail
  go_loopg [3, 11] (n + 1) (fun g s y wr => W = wr ∧ ∃ (i : Nat), g = n + 1 - i ∧ i ≤ n ∧ s = .int .i64 (S i) ∧ y = .int .i64 i)
  case atStart =>
    refine ⟨rfl, 0, by omega, Nat.zero_le _, ?_, rfl⟩
    have := hS.out 0
    simp at this
    rw [← this]; rfl
  case round =>
    obtain ⟨rfl, i, rfl, hin, rfl, rfl⟩ := hrel
    by_cases hi : i < n
    · have hii : (i : Int) < (n : Int) := by omega
      obtain ⟨u, h1, h2⟩ := hk.out i hi
      have hcell : W.cell? ⟨g, i, none⟩ = some u := by rw [← h1]; exact hr.out.cellAt i (by omega)
      obtain ⟨m, uo, uc, rfl⟩ := bytV_sl h2
      have hm : m = (Ls.getD i []).length := by obtain ⟨_, ao, c, e, _⟩ := h2; injection e
      have hSi : (S i : Int) + (m : Int) = (S (i + 1) : Int) := by
        rw [← hS.out i, ← hS.out (i + 1), hft.out i hi, List.length_append, hm]; omega
      have hSb := hfl.out (i + 1)
      rw [hS.out] at hSb
      have hb1 : (0 : Int) ≤ (S (i + 1) : Int) ∧ (S (i + 1) : Int) ≤ 1000000 := by omega
      obtain ⟨q, hq⟩ : ∃ q : Int, Hid ((S (i + 1) : Int) = q) := ⟨_, rfl⟩
      rw [hq.out] at hSi hb1
      have hw : wrap64 ((S i : Int) + (m : Int)) = q := by rw [hSi]; unfold wrap64; omega
      have hneg : ¬ q < 0 := by omega
      clear hm h1 h2 hSi hSb hb1
      go_wp2_with fail
      go_roundg (n - i)
      case measure => omega
      case rel => exact ⟨rfl, i + 1, by omega, by omega, by rw [hq.out], by go_num⟩
    · obtain rfl : n = i := by omega
      have hii : ¬ (n : Int) < (n : Int) := by omega
      have hSb := hfl.out n
      rw [hS.out] at hSb
      go_wp2_with fail
      refine (grow_any (S n) W (by omega)).mono ?_
      rintro e w1 ⟨v1, rfl, hr1, hl1⟩
      obtain ⟨a1, c1, rfl⟩ := own_form hr1
      replace hr1 := Lib.hid hr1
      have hsz : Hid (W.heap.size ≤ w1.heap.size) := Lib.hid hl1.size
      replace hl1 := Lib.hid hl1
      go_wp2_with fail
      go_loopg [6, 27] (n + 1) (fun g s y w2 => ∃ (i : Nat), g = n + 1 - i ∧ i ≤ n ∧ y = .int .i64 i ∧ Hid (w2.ownsRow W.heap.size 5 1 s ((Ls.take i).flatten).length (encB (Ls.take i).flatten)) ∧ Hid (Later W w2))
      case atStart => exact ⟨0, by omega, Nat.zero_le _, rfl, hr1, hl1⟩
      case round =>
        obtain ⟨i, rfl, hin, rfl, hrow, hlw⟩ := hrel
        by_cases hi : i < n
        · have hii : (i : Int) < (n : Int) := by omega
          obtain ⟨u, h1, h2⟩ := hk.out i hi
          have hcell : wr.cell? ⟨g, i, none⟩ = some u := hlw.out.cell (by rw [← h1]; exact hr.out.cellAt i (by omega))
          have h3 := h2.later hlw.out
          obtain ⟨m, uo, uc, rfl⟩ := bytV_sl h2
          have hlen2 : ((Ls.take i).flatten).length + (Ls.getD i []).length ≤ 2000000 := by
            have := hfl.out (i + 1)
            rw [hft.out i hi, List.length_append] at this
            omega
          replace h3 := Lib.hid h3
          replace hlen2 := Lib.hid hlen2
          have hsz2 := Lib.hid hlw.out.size
          clear h1 h2
          go_wp2_with (at_builtin; refine wpList_append_bytes rfl _ _ rfl W.heap.size _ (Ls.take i).flatten rfl hrow.out _ rfl (Ls.getD i []) h3.out hlen2.out hsz2.out ?_; intro v' w3 hr3 hg3 hn3)
          go_roundg (n - i)
          case measure => omega
          case rel =>
            refine ⟨i + 1, by omega, by omega, by go_num, ?_, ?_⟩
            · rw [hft.out i hi]; exact Lib.hid hr3
            · exact Lib.hid (later_own hlw.out hrow.out (Nat.le_refl _) hg3)
        · obtain rfl : n = i := by omega
          have hii2 : ¬ (n : Int) < (n : Int) := by omega
          go_wp2_with fail
          go_ret
          refine ⟨_, rfl, ?_, hlw.out⟩
          have := hrow.out
          rw [hall.out, hN.out] at this
          exact this
end Go.Proofs.Ytjelfiljebamgaa
