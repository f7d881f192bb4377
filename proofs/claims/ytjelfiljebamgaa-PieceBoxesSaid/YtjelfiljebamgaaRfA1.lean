/-
  Chapter 21's document: its box in memory; the pieces of a message; a message that is gone.
  Chapter 21's document: Held, Drop, Missing.
-/
import Derived.Test.YtjelfiljebamgaaBxX
namespace Go.Proofs.Ytjelfiljebamgaa
open Go.RowKit Go.Shelf Go.Maps
set_option linter.unusedVariables false
set_option linter.unusedSimpArgs false
attribute [local go_sem] Oper.semAt_some

/-- A piece and where its bytes lie. -/
abbrev Pv := Pc × Value
def prow (q : Pv) : List Value := [.int .u64 (q.1.id : Nat), .int .i64 (q.1.pl : Nat), .int .i64 (q.1.of : Nat), q.2]
def encPs (P : List Pv) : List Value := P.flatMap prow
theorem encPs_len : ∀ P : List Pv, (encPs P).length = P.length * 4
  | [] => rfl
  | q :: P => by
    have := encPs_len P
    unfold encPs at this ⊢
    rw [List.flatMap_cons, List.length_append, this, List.length_cons]
    show 4 + _ = _
    omega
theorem encPs_at : ∀ {P : List Pv} {k : Nat} {q : Pv}, P[k]? = some q → ∀ j v, (prow q)[j]? = some v → (encPs P)[k * 4 + j]? = some v
  | [], _, _, h, _, _, _ => by simp at h
  | p :: P, 0, q, h, j, v, hv => by
    obtain rfl : p = q := by simpa using h
    unfold encPs
    rw [List.flatMap_cons, Nat.zero_mul, Nat.zero_add, List.getElem?_append_left (List.getElem?_eq_some_iff.1 hv).1]
    exact hv
  | p :: P, k + 1, q, h, j, v, hv => by
    unfold encPs
    rw [List.flatMap_cons, List.getElem?_append_right (by show 4 ≤ _; omega), show (k + 1) * 4 + j - (prow p).length = k * 4 + j by show (k + 1) * 4 + j - 4 = _; omega]
    exact encPs_at (P := P) (by simpa using h) j v hv
theorem encPs_snoc (P : List Pv) (q : Pv) : encPs (P ++ [q]) = encPs P ++ prow q := by unfold encPs; rw [List.flatMap_append]; simp
theorem later_own4 {X w w' : World} {base e n k : Nat} {v : Value} {xs : List Value} (h : Later X w) (hr : w.ownsRow base e n v k xs) (hb : X.heap.size ≤ base) (hg : w.grownBy w' v.ownBlock) : Later X w' :=
  ⟨hg.os.trans h.os, hg.tape.trans h.tape, hg.output.trans h.output, Nat.le_trans h.size hg.size, fun k hk => (hg.block k (Nat.lt_of_lt_of_le hk h.size) (fun e => by
    have := (World.ownsRow.lt hr k e.symm).1
    omega)).trans (h.block k hk)⟩
def PsV (w : World) (base : Nat) (v : Value) (P : List Pv) : Prop := w.ownsRow base 25 4 v P.length (encPs P)
theorem PsV.later {w w' : World} {base : Nat} {v : Value} {P : List Pv} (h : PsV w base v P) (hl : Later w w') : PsV w' base v P := World.ownsRow.kept h hl.grown (Classical.em _)
theorem PsV.form {w : World} {base : Nat} {v : Value} {P : List Pv} (h : PsV w base v P) : ∃ ao cap, v = .slice ao P.length cap := by
  rcases h.2 with ⟨rfl, h0⟩ | ⟨g, cap, cur, rfl, _⟩
  · exact ⟨none, 0, by rw [h0]⟩
  · exact ⟨_, _, rfl⟩
theorem PsV.cell {w : World} {base : Nat} {ao : Option Addr} {n cap : Nat} {P : List Pv} (h : PsV w base (.slice ao n cap) P) {k : Nat} {q : Pv} (hk : P[k]? = some q) :
    ∃ g, ao = some ⟨g, 0, none⟩ ∧ w.cell? ⟨g, k * 4, none⟩ = some (.int .u64 (q.1.id : Nat)) ∧ w.cell? ⟨g, k * 4 + 1, none⟩ = some (.int .i64 (q.1.pl : Nat)) ∧ w.cell? ⟨g, k * 4 + 2, none⟩ = some (.int .i64 (q.1.of : Nat)) ∧ w.cell? ⟨g, k * 4 + 3, none⟩ = some q.2 := by
  have hlt := (List.getElem?_eq_some_iff.1 hk).1
  rcases h.2 with ⟨h0, hz⟩ | ⟨g, c, cur, hv, hg, hb, h1, h2, h3, h4⟩
  · omega
  · injection hv with e1 e2 e3
    subst e1 e2
    have h : w.ownsRow base 25 4 (.slice (some ⟨g, 0, none⟩) P.length cap) P.length (encPs P) := h
    have key : ∀ j v, (prow q)[j]? = some v → w.cell? ⟨g, k * 4 + j, none⟩ = some v := fun j v hv => by
      have hj : j < 4 := (List.getElem?_eq_some_iff.1 hv).1
      have h5 := h.cellAt (k * 4 + j) (by omega)
      rw [encPs_at hk j v hv] at h5
      exact h5
    exact ⟨g, rfl, key 0 _ rfl, key 1 _ rfl, key 2 _ rfl, key 3 _ rfl⟩
def ofP (P : List Pv) (i : Nat) : List Pv := P.filter fun q => q.1.id == i
def goneP (P : List Pv) (i : Nat) : List Pv := P.filter fun q => !(q.1.id == i)
theorem filt_yes {P : List Pv} {f : Pv → Bool} {k : Nat} {q : Pv} (h : P[k]? = some q) (hf : f q = true) : (P.take (k + 1)).filter f = (P.take k).filter f ++ [q] := by
  rw [List.take_add_one, h, List.filter_append]
  show _ ++ ([q].filter f) = _
  rw [List.filter_cons_of_pos hf]; rfl
theorem filt_no {P : List Pv} {f : Pv → Bool} {k : Nat} {q : Pv} (h : P[k]? = some q) (hf : f q = false) : (P.take (k + 1)).filter f = (P.take k).filter f := by
  rw [List.take_add_one, h, List.filter_append]
  show _ ++ ([q].filter f) = _
  rw [List.filter_cons_of_neg (by rw [hf]; decide)]; simp
theorem filt_le (P : List Pv) (f : Pv → Bool) (k : Nat) : ((P.take k).filter f).length ≤ k := by
  refine Nat.le_trans (List.length_filter_le _ _) ?_
  rw [List.length_take]
  omega
theorem info_pc : (Try.prog.info? 25).map (fun i => (i.zero, i.size, i.bytes)) = some (some (.agg #[.int .u64 0, .int .i64 0, .int .i64 0, .slice none 0 0]), 4, 48) := by kernel_rfl
set_option maxRecDepth 100000 in
theorem of_any (y i : Nat) (v : Value) (P : List Pv) (base : Nat) (W : World) (hy : W.cell? ⟨y, 1, none⟩ = some v) (hP : PsV W base v P) (hn : P.length ≤ 1000000) (hone : ∀ q ∈ P, q.2.oneCell' = true) :
    Calls Try.prog 64 #[wp y, .int .u64 (i : Nat)] W fun e w' => ∃ u, e = .returned u ∧ PsV w' W.heap.size u (ofP P i) ∧ Later W w' := by
  obtain ⟨ao, cap, rfl⟩ := hP.form
  obtain ⟨n, hn'⟩ : ∃ n, Hid (P.length = n) := ⟨_, Lib.hid rfl⟩
  rw [hn'.out] at hn hy hP
  obtain ⟨i0, hi0, hz0, hz1, hz2⟩ := info_parts info_pc
  have hPh := Lib.hid hP
  replace hone := Lib.hid hone
  obtain ⟨I, hI⟩ : ∃ I : Int, Hid ((i : Int) = I) := ⟨_, Lib.hid rfl⟩
  rw [hI.out]
  clear hP
  go_enter Try.func64, Try.ntmps64
  go_wp2_with fail
  go_loopg [5, 6] (n + 1) (fun gg u s wr => ∃ k : Nat, gg = n + 1 - k ∧ k ≤ n ∧ s = .int .i64 k ∧ Hid (PsV wr W.heap.size u ((P.take k).filter fun q => q.1.id == i)) ∧ Hid (Later W wr))
  case atStart => exact ⟨0, by omega, Nat.zero_le _, rfl, Lib.hid (World.ownsRow_nil _ _ _ _), Lib.hid (Later.refl _)⟩
  case round =>
    obtain ⟨k, rfl, hkn, rfl, hrow, hl⟩ := hrel
    obtain ⟨ov, oc, rfl⟩ := hrow.out.form
    have hy' := hl.out.cell hy
    by_cases hk : k < n
    · have hkk : (k : Int) < (n : Int) := by omega
      obtain ⟨q, hq⟩ : ∃ q, P[k]? = some q := ⟨P[k]'(by rw [hn'.out]; exact hk), List.getElem?_eq_getElem _⟩
      obtain ⟨g, rfl, c0, c1, c2, c3⟩ := PsV.cell (hPh.out.later hl.out) hq
      obtain ⟨A, hA⟩ : ∃ A : Int, Hid ((q.1.id : Int) = A) := ⟨_, Lib.hid rfl⟩
      rw [hA.out] at c0
      have hqh := Lib.hid hq
      clear hq
      by_cases hAI : A = I
      · subst hAI
        have hyes := Lib.hid (filt_yes (f := fun q => q.1.id == i) hqh.out (by have h1 := hA.out; have h2 := hI.out; simp; omega))
        have hml := filt_le P (fun q => q.1.id == i) k
        obtain ⟨F, hF⟩ : ∃ F, Hid ((P.take k).filter (fun q => q.1.id == i) = F) := ⟨_, Lib.hid rfl⟩
        rw [hF.out] at hml hyes hrow ⊢
        have hsz := hl.out.size
        have hmL : F.length + 1 ≤ maxLen := Nat.le_trans (by omega : _ ≤ 5000000) (by decide)
        have q1' := World.ownsRow.alloc hrow.out (.cells #[.int .u64 A, .int .i64 (q.1.pl : Nat), .int .i64 (q.1.of : Nat), q.2] 25)
        have hla := Lib.hid (hl.out.alloc (.cells #[.int .u64 A, .int .i64 (q.1.pl : Nat), .int .i64 (q.1.of : Nat), q.2] 25))
        have hq1 := hone.out q (List.mem_of_getElem? hqh.out)
        have hAq := Lib.hid hA.out.symm
        clear hrow
        go_wp2_with (at_builtin; refine wpList_append_lies _ rfl _ _ 119 rfl W.heap.size 25 i0 (.agg #[.int .u64 0, .int .i64 0, .int .i64 0, .slice none 0 0]) 4 48 Try.underlying119 hi0 hz0 hz1 hz2 rfl (by decide) _ _ _ rfl q1' ⟨wr.heap.size, 0, none⟩ 1 1 [.int .u64 A, .int .i64 (q.1.pl : Nat), .int .i64 (q.1.of : Nat), q.2] rfl rfl (World.news_of_block (heap_alloc_new _ _)) (fun u hu => by simp at hu; rcases hu with rfl | rfl | rfl | rfl <;> first | rfl | exact hq1) (by omega) hmL (by omega) (by simp; omega) _ rfl ?_; intro ga ca w3 hr3 hg3 _ _)
        go_roundg (n - k)
        case measure => omega
        case rel =>
          refine ⟨k + 1, by omega, by omega, by go_num, ?_, Lib.hid (later_own4 hla.out q1' (Nat.le_refl _) hg3)⟩
          rw [hyes.out]
          refine Lib.hid ?_
          unfold PsV
          rw [encPs_snoc, List.length_append]
          unfold prow
          rw [← hAq.out]
          exact hr3
      · have hne : (A == I) = false := by simpa using hAI
        have hno := Lib.hid (filt_no (f := fun q => q.1.id == i) hqh.out (by have h1 := hA.out; have h2 := hI.out; simp; omega))
        go_wp2_with fail
        go_roundg (n - k)
        case measure => omega
        case rel => exact ⟨k + 1, by omega, by omega, by go_num, by rw [hno.out]; exact hrow, hl⟩
    · obtain rfl : n = k := by omega
      have hkk : ¬ (n : Int) < (n : Int) := by omega
      go_wp2_with fail
      go_ret
      refine ⟨_, rfl, ?_, hl.out⟩
      have h1 := hrow.out
      have e : P.take n = P := List.take_of_length_le (by rw [hn'.out]; exact Nat.le_refl _)
      show PsV wr W.heap.size (.slice ov (List.filter (fun q => q.1.id == i) (List.take n P)).length oc) (ofP P i)
      rw [e] at h1 ⊢
      exact h1
/-! The document's box. -/
def DB (w : World) (y : Nat) (r : Int) (P : List Pv) (Q : Nat → Prop) : Prop :=
  ∃ v base, w.heap[y]? = some (.cells #[.int .i64 r, v] 121 (0, 0)) ∧ PsV w base v P ∧ y < base ∧ Q y ∧ (∀ g, v.ownBlock = some g → Q g) ∧ ∀ q ∈ P, BytV w q.2 q.1.d ∧ In q.2 (fun k => Q k ∧ k ≠ y ∧ v.ownBlock ≠ some k ∧ k < w.heap.size)
theorem PsV.at_ {w w' : World} {base : Nat} {v : Value} {P : List Pv} (h : PsV w base v P) (hs : ∀ g, v.ownBlock = some g → w'.heap[g]? = w.heap[g]?) : PsV w' base v P := by
  refine ⟨h.1, ?_⟩
  rcases h.2 with hn | ⟨g, cap, cur, rfl, hb, hg, rest⟩
  · exact .inl hn
  · exact .inr ⟨g, cap, cur, rfl, hb, (hs g rfl).trans hg, rest⟩
theorem DB.keep {w w' : World} {y : Nat} {r : Int} {P : List Pv} {Q A : Nat → Prop} (h : DB w y r P Q) (hk : Keep A w w') (hA : ∀ k, Q k → ¬ A k) : DB w' y r P Q := by
  obtain ⟨v, base, h1, h2, h3, h4, h5, h6⟩ := h
  refine ⟨v, base, hk.at_ h1 (hA y h4), h2.at_ (fun g hg => hk.block g (World.ownsRow.lt h2 g hg).2 (hA g (h5 g hg))), h3, h4, h5, fun q hq => ?_⟩
  obtain ⟨q1, q2⟩ := h6 q hq
  exact ⟨hk.bytV q1 (q2.mono (fun g hg => hA g hg.1)), q2.mono (fun g hg => ⟨hg.1, hg.2.1, hg.2.2.1, Nat.lt_of_lt_of_le hg.2.2.2 hk.size⟩)⟩
theorem DB.later {w w' : World} {y : Nat} {r : Int} {P : List Pv} {Q : Nat → Prop} (h : DB w y r P Q) (hl : Later w w') : DB w' y r P Q := h.keep (A := fun _ => False) (Keep.of_later hl) (fun _ _ h => h)
theorem DB.mono {w : World} {y : Nat} {r : Int} {P : List Pv} {Q Q' : Nat → Prop} (h : DB w y r P Q) (hq : ∀ k, Q k → Q' k) : DB w y r P Q' := by
  obtain ⟨v, base, h1, h2, h3, h4, h5, h6⟩ := h
  exact ⟨v, base, h1, h2, h3, hq y h4, fun g hg => hq g (h5 g hg), fun q hm => ⟨(h6 q hm).1, (h6 q hm).2.mono (fun g hg => ⟨hq g hg.1, hg.2⟩)⟩⟩
theorem bytV_one {w : World} {v : Value} {L : List Int} (h : BytV w v L) : v.oneCell' = true := by
  obtain ⟨ao, cap, rfl⟩ := bytV_form h
  rfl
theorem heap_setY {w : World} {y : Nat} {a b u : Value} {T : TypeId} (h : w.heap[y]? = some (.cells #[a, b] T (0, 0))) : (w.setCell ⟨y, 1, none⟩ u).heap[y]? = some (.cells #[a, u] T (0, 0)) := by
  obtain ⟨hlt, hb⟩ := Array.getElem?_eq_some_iff.1 h
  show (w.heap.modify y _)[y]? = _
  rw [Array.getElem?_eq_getElem (by rw [Array.size_modify]; exact hlt), Array.getElem_modify_self, hb]
  rfl
/-- What the document's box turns. -/
structure DbTo (W w' : World) (y : Nat) (r : Int) (P : List Pv) (Q : Nat → Prop) : Prop where
  box : DB w' y r P (fun k => Q k ∨ (W.heap.size ≤ k ∧ k < w'.heap.size))
  keep : Keep (fun k => k = y) W w'
set_option maxRecDepth 100000 in
theorem gone_any (y i : Nat) (r : Int) (P : List Pv) (Q : Nat → Prop) (W : World) (h : DB W y r P Q) (hn : P.length ≤ 1000000) :
    Calls Try.prog 89 #[wp y, .int .u64 (i : Nat)] W fun e w' => e = .returned (.tuple #[]) ∧ DbTo W w' y r (goneP P i) Q := by
  have hdb := Lib.hid h
  obtain ⟨v, base, hbx, hP, hyb, hQy, hQo, hdat⟩ := h
  obtain ⟨ao, cap, rfl⟩ := hP.form
  obtain ⟨n, hn'⟩ : ∃ n, Hid (P.length = n) := ⟨_, Lib.hid rfl⟩
  rw [hn'.out] at hn hbx hP hQo hdat
  have hy : W.cell? ⟨y, 1, none⟩ = some (.slice ao n cap) := by rw [cell_of_row _ _ _ _ _ _ hbx]; rfl
  have hyl : y < W.heap.size := (Array.getElem?_eq_some_iff.1 hbx).1
  obtain ⟨i0, hi0, hz0, hz1, hz2⟩ := info_parts info_pc
  have hPh := Lib.hid hP
  have hone : Hid (∀ q ∈ P, q.2.oneCell' = true) := Lib.hid (fun q hq => bytV_one (hdat q hq).1)
  replace hdat := Lib.hid hdat
  replace hbx := Lib.hid hbx
  obtain ⟨I, hI⟩ : ∃ I : Int, Hid ((i : Int) = I) := ⟨_, Lib.hid rfl⟩
  rw [hI.out]
  clear hP hQo
  go_enter Try.func89, Try.ntmps89
  go_wp2_with fail
  go_loopg [4, 5] (n + 1) (fun gg u s wr => ∃ k : Nat, gg = n + 1 - k ∧ k ≤ n ∧ s = .int .i64 k ∧ Hid (PsV wr W.heap.size u ((P.take k).filter fun q => !(q.1.id == i))) ∧ Hid (Later W wr))
  case atStart => exact ⟨0, by omega, Nat.zero_le _, rfl, Lib.hid (World.ownsRow_nil _ _ _ _), Lib.hid (Later.refl _)⟩
  case round =>
    obtain ⟨k, rfl, hkn, rfl, hrow, hl⟩ := hrel
    obtain ⟨ov, oc, rfl⟩ := hrow.out.form
    have hy' := hl.out.cell hy
    by_cases hk : k < n
    · have hkk : (k : Int) < (n : Int) := by omega
      obtain ⟨q, hq⟩ : ∃ q, P[k]? = some q := ⟨P[k]'(by rw [hn'.out]; exact hk), List.getElem?_eq_getElem _⟩
      obtain ⟨g, rfl, c0, c1, c2, c3⟩ := PsV.cell (hPh.out.later hl.out) hq
      obtain ⟨A, hA⟩ : ∃ A : Int, Hid ((q.1.id : Int) = A) := ⟨_, Lib.hid rfl⟩
      rw [hA.out] at c0
      have hqh := Lib.hid hq
      clear hq
      by_cases hAI : A = I
      · subst hAI
        have hno := Lib.hid (filt_no (f := fun q => !(q.1.id == i)) hqh.out (by have h1 := hA.out; have h2 := hI.out; simp; omega))
        go_wp2_with fail
        go_roundg (n - k)
        case measure => omega
        case rel => exact ⟨k + 1, by omega, by omega, by go_num, by rw [hno.out]; exact hrow, hl⟩
      · have hne : (A == I) = false := by simpa using hAI
        have hyes := Lib.hid (filt_yes (f := fun q => !(q.1.id == i)) hqh.out (by have h1 := hA.out; have h2 := hI.out; simp; omega))
        have hml := filt_le P (fun q => !(q.1.id == i)) k
        obtain ⟨F, hF⟩ : ∃ F, Hid ((P.take k).filter (fun q => !(q.1.id == i)) = F) := ⟨_, Lib.hid rfl⟩
        rw [hF.out] at hml hyes hrow ⊢
        have hsz := hl.out.size
        have hmL : F.length + 1 ≤ maxLen := Nat.le_trans (by omega : _ ≤ 5000000) (by decide)
        have q1' := World.ownsRow.alloc hrow.out (.cells #[.int .u64 A, .int .i64 (q.1.pl : Nat), .int .i64 (q.1.of : Nat), q.2] 25)
        have hla := Lib.hid (hl.out.alloc (.cells #[.int .u64 A, .int .i64 (q.1.pl : Nat), .int .i64 (q.1.of : Nat), q.2] 25))
        have hq1 := hone.out q (List.mem_of_getElem? hqh.out)
        have hAq := Lib.hid hA.out.symm
        clear hrow
        go_wp2_with (at_builtin; refine wpList_append_lies _ rfl _ _ 119 rfl W.heap.size 25 i0 (.agg #[.int .u64 0, .int .i64 0, .int .i64 0, .slice none 0 0]) 4 48 Try.underlying119 hi0 hz0 hz1 hz2 rfl (by decide) _ _ _ rfl q1' ⟨wr.heap.size, 0, none⟩ 1 1 [.int .u64 A, .int .i64 (q.1.pl : Nat), .int .i64 (q.1.of : Nat), q.2] rfl rfl (World.news_of_block (heap_alloc_new _ _)) (fun u hu => by simp at hu; rcases hu with rfl | rfl | rfl | rfl <;> first | rfl | exact hq1) (by omega) hmL (by omega) (by simp; omega) _ rfl ?_; intro ga ca w3 hr3 hg3 _ _)
        go_roundg (n - k)
        case measure => omega
        case rel =>
          refine ⟨k + 1, by omega, by omega, by go_num, ?_, Lib.hid (later_own4 hla.out q1' (Nat.le_refl _) hg3)⟩
          rw [hyes.out]
          refine Lib.hid ?_
          unfold PsV
          rw [encPs_snoc, List.length_append]
          unfold prow
          rw [← hAq.out]
          exact hr3
    · obtain rfl : n = k := by omega
      have hkk : ¬ (n : Int) < (n : Int) := by omega
      have e : P.take n = P := List.take_of_length_le (by rw [hn'.out]; exact Nat.le_refl _)
      have hrow1 : Hid (PsV wr W.heap.size (.slice ov (goneP P i).length oc) (goneP P i)) := Lib.hid (by
        have h1 := hrow.out
        rw [e] at h1
        exact h1)
      rw [e]
      have hbw := hl.out.obj hbx.out
      have hfz : wr.frozen? ⟨y, 1, none⟩ = false := by simp [World.frozen?, hbw]
      have hbwh := Lib.hid hbw
      clear hrow hbw e
      go_wp2_with fail
      go_end0
      refine ⟨rfl, ?_, ?_⟩
      · have hk : Keep (fun k => k = y) wr (wr.setCell ⟨y, 1, none⟩ (.slice ov (goneP P i).length oc)) := (Keep.refl (fun k => k = y) wr).setCell (p := ⟨y, 1, none⟩) (.inl rfl) _
        refine ⟨_, W.heap.size, heap_setY hbwh.out, hrow1.out.at_ (fun g hg => ?_), hyl, .inl hQy, fun g hg => ?_, fun q hq => ?_⟩
        · have := World.ownsRow.lt hrow1.out g hg
          exact hk.block g this.2 (by intro e; subst e; omega)
        · have := World.ownsRow.lt hrow1.out g hg
          exact .inr ⟨this.1, Nat.lt_of_lt_of_le this.2 hk.size⟩
        · obtain ⟨q1, q2⟩ := hdat.out q (List.mem_filter.1 hq).1
          refine ⟨hk.bytV (q1.later hl.out) (q2.mono (fun g hg => hg.2.1)), q2.mono (fun g hg => ⟨.inl hg.1, hg.2.1, fun e => ?_, Nat.lt_of_lt_of_le hg.2.2.2 (Nat.le_trans hl.out.size hk.size)⟩)⟩
          have := (World.ownsRow.lt hrow1.out g e).1
          have := hg.2.2.2
          omega
      · exact (Keep.of_later hl.out).trans ((Keep.refl (fun k => k = y) wr).setCell (p := ⟨y, 1, none⟩) (.inl rfl) _)
end Go.Proofs.Ytjelfiljebamgaa
namespace Go.Proofs.Ytjelfiljebamgaa
open Go.RowKit Go.Shelf Go.Maps
set_option linter.unusedVariables false
set_option linter.unusedSimpArgs false
attribute [local go_sem] Oper.semAt_some

def pcs (P : List Pv) : List Pc := P.map (·.1)
theorem sumL_le : ∀ (L : List Pc) (b : Nat), (∀ p ∈ L, p.d.length ≤ b) → sumL L ≤ b * L.length
  | [], _, _ => Nat.zero_le _
  | p :: L, b, h => by
    have h1 := sumL_le L b (fun q hq => h q (List.mem_cons_of_mem _ hq))
    have h2 := h p (List.mem_cons_self ..)
    simp only [sumL, List.map_cons, List.sum_cons, List.length_cons, Nat.mul_succ] at h1 ⊢
    omega
theorem pcs_take {P : List Pv} {k : Nat} {q : Pv} (h : P[k]? = some q) : pcs (P.take (k + 1)) = pcs (P.take k) ++ [q.1] := by
  unfold pcs
  rw [List.take_add_one, h, List.map_append]
  rfl
theorem DbTo.after {W w w' : World} {y : Nat} {r : Int} {P : List Pv} {Q : Nat → Prop} (hl : Later W w) (h : DbTo w w' y r P Q) : DbTo W w' y r P Q :=
  ⟨h.box.mono (fun k hk => hk.elim .inl (fun h2 => .inr ⟨Nat.le_trans hl.size h2.1, h2.2⟩)), (Keep.of_later hl).trans h.keep⟩
set_option maxRecDepth 100000 in
theorem held_ref (y : Nat) (r : Int) (P : List Pv) (Q : Nat → Prop) (W : World) (h : DB W y r P Q) (hn : P.length ≤ 1000000) (hd : ∀ q ∈ P, q.1.d.length ≤ 1000) :
    Calls Try.prog 27 #[wp y] W fun e w' => e = .returned (.int .i64 (sumL (pcs P) : Nat)) ∧ Later W w' := by
  obtain ⟨v, base, hbx, hP, hyb, hQy, hQo, hdat⟩ := h
  obtain ⟨ao, cap, rfl⟩ := hP.form
  obtain ⟨n, hn'⟩ : ∃ n, Hid (P.length = n) := ⟨_, Lib.hid rfl⟩
  rw [hn'.out] at hn hbx hP hQo hdat
  have hy : W.cell? ⟨y, 1, none⟩ = some (.slice ao n cap) := by rw [cell_of_row _ _ _ _ _ _ hbx]; rfl
  have hPh := Lib.hid hP
  replace hdat := Lib.hid hdat
  have hsum : Hid (∀ k, k ≤ n → sumL (pcs (P.take k)) ≤ 1000000000) := Lib.hid (fun k hk => by
    have h1 := sumL_le (pcs (P.take k)) 1000 (fun p hp => by
      obtain ⟨q, hq, rfl⟩ := List.mem_map.1 hp
      exact hd q (List.mem_of_mem_take hq))
    have h2 : (pcs (P.take k)).length ≤ k := by unfold pcs; rw [List.length_map, List.length_take]; omega
    have h3 : 1000 * (pcs (P.take k)).length ≤ 1000 * 1000000 := Nat.mul_le_mul_left _ (by omega)
    omega)
  clear hP hQo hbx hd
  go_enter Try.func27, Try.ntmps27
  go_wp2_with fail
  go_loopg [3, 4] (n + 1) (fun gg u s wr => ∃ k z : Nat, gg = n + 1 - k ∧ k ≤ n ∧ s = .int .i64 k ∧ u = .int .i64 z ∧ Hid (sumL (pcs (P.take k)) = z) ∧ Hid (Later W wr))
  case atStart => exact ⟨0, 0, by omega, Nat.zero_le _, rfl, rfl, Lib.hid rfl, Lib.hid (Later.refl _)⟩
  case round =>
    obtain ⟨k, z, rfl, hkn, rfl, rfl, hz, hl⟩ := hrel
    have hy' := hl.out.cell hy
    by_cases hk : k < n
    · have hkk : (k : Int) < (n : Int) := by omega
      obtain ⟨q, hq⟩ : ∃ q, P[k]? = some q := ⟨P[k]'(by rw [hn'.out]; exact hk), List.getElem?_eq_getElem _⟩
      obtain ⟨g, rfl, c0, c1, c2, c3⟩ := PsV.cell (hPh.out.later hl.out) hq
      have hb := (hdat.out q (List.mem_of_getElem? hq)).1
      have hs1 := hsum.out (k + 1) hk
      have hs0 := hsum.out k (by omega)
      rw [pcs_take hq, sumL_snoc, hz.out] at hs1
      have hnx : Hid (sumL (pcs (P.take (k + 1))) = z + q.1.d.length) := Lib.hid (by rw [pcs_take hq, sumL_snoc, hz.out])
      obtain ⟨au, cu, e3⟩ := bytV_form hb
      rw [e3] at c3
      clear hb e3 c0 c1 c2 hq
      go_wp2_with fail
      go_roundg (n - k)
      case measure => omega
      case rel => exact ⟨k + 1, z + q.1.d.length, by omega, by omega, by go_num, by go_num, hnx, hl⟩
    · obtain rfl : n = k := by omega
      have hkk : ¬ (n : Int) < (n : Int) := by omega
      have e : P.take n = P := List.take_of_length_le (by rw [hn'.out]; exact Nat.le_refl _)
      rw [e] at hz
      clear e
      go_wp2_with fail
      go_ret
      exact ⟨by rw [hz.out]; rfl, hl.out⟩
theorem drop_ref (y i : Nat) (r : Int) (P : List Pv) (Q : Nat → Prop) (W : World) (h : DB W y r P Q) (hn : P.length ≤ 1000000) :
    Calls Try.prog 61 #[wp y, .int .u64 (i : Nat)] W fun e w' => (ofP P i = [] ∧ e = .returned (.int .i64 210) ∧ Later W w') ∨ (ofP P i ≠ [] ∧ e = .returned (.int .i64 0) ∧ DbTo W w' y r (goneP P i) Q) := by
  have hdb := Lib.hid h
  obtain ⟨v, base, hbx, hP, hyb, hQy, hQo, hdat⟩ := h
  have hy : W.cell? ⟨y, 1, none⟩ = some v := by rw [cell_of_row _ _ _ _ _ _ hbx]; rfl
  have hof := Lib.hid (of_any y i v P base W hy hP hn (fun q hq => bytV_one (hdat q hq).1))
  clear hbx hP hQo hdat hy hQy hyb
  go_enter Try.func61, Try.ntmps61
  go_wp2_with fail
  refine hof.out.mono ?_
  rintro e w1 ⟨u, rfl, hu, hl⟩
  obtain ⟨au, cu, rfl⟩ := hu.form
  have hgo := Lib.hid (gone_any y i r P Q w1 (hdb.out.later hl) hn)
  obtain ⟨F, hF⟩ : ∃ F, Hid (ofP P i = F) := ⟨_, Lib.hid rfl⟩
  rw [hF.out] at hu ⊢
  by_cases hz : F.length = 0
  · rw [hz]
    go_wp2_with fail
    go_ret
    exact .inl ⟨by rw [hF.out]; exact List.eq_nil_of_length_eq_zero hz, rfl, hl⟩
  · have hne : (((F.length : Nat) : Int) == 0) = false := by simp; intro e; exact hz (by rw [e]; rfl)
    go_wp2_with fail
    refine hgo.out.mono ?_
    rintro e w2 ⟨rfl, hd⟩
    go_wp2_with fail
    go_ret
    exact .inr ⟨fun e => hz (by rw [← hF.out, e]; rfl), rfl, hd.after hl⟩
/-- The places that are not there, plainly. -/
def missF (F : List Pv) : List Nat := match F with | [] => [] | q :: _ => dmiss (pcs F) q.1.of
def anyAt (F : List Pv) (j k : Nat) : Bool := (pcs (F.take j)).any fun q => q.pl == k
theorem anyAt_succ {F : List Pv} {j : Nat} {q : Pv} (h : F[j]? = some q) (k : Nat) : anyAt F (j + 1) k = (anyAt F j k || q.1.pl == k) := by
  unfold anyAt
  rw [pcs_take h, List.any_append]
  simp
def missU (F : List Pv) (k : Nat) : List Nat := (List.range k).filter fun x => !(anyAt F F.length x)
theorem missU_yes {F : List Pv} {k : Nat} (h : anyAt F F.length k = false) : missU F (k + 1) = missU F k ++ [k] := by
  unfold missU; rw [List.range_succ, List.filter_append, List.filter_cons_of_pos (by rw [h]; rfl)]; rfl
theorem missU_no {F : List Pv} {k : Nat} (h : anyAt F F.length k = true) : missU F (k + 1) = missU F k := by
  unfold missU; rw [List.range_succ, List.filter_append, List.filter_cons_of_neg (by rw [h]; decide)]; simp
theorem missU_le (F : List Pv) (k : Nat) : (missU F k).length ≤ k := by
  unfold missU
  refine Nat.le_trans (List.length_filter_le _ _) ?_
  simp
theorem missU_F {q : Pv} {F : List Pv} : missU (q :: F) q.1.of = missF (q :: F) := by
  unfold missU missF dmiss anyAt
  rw [List.take_of_length_le (Nat.le_refl _)]
set_option maxRecDepth 100000 in
theorem miss_ref (y i : Nat) (r : Int) (P : List Pv) (Q : Nat → Prop) (W : World) (h : DB W y r P Q) (hn : P.length ≤ 1000000) (hof : ∀ q ∈ P, q.1.of ≤ 4096) :
    Calls Try.prog 30 #[wp y, .int .u64 (i : Nat)] W fun e w' => ∃ u, e = .returned u ∧ w'.ownsRow W.heap.size 3 1 u (missF (ofP P i)).length (encN (missF (ofP P i))) ∧ Later W w' := by
  obtain ⟨v, base, hbx, hP, hyb, hQy, hQo, hdat⟩ := h
  have hy : W.cell? ⟨y, 1, none⟩ = some v := by rw [cell_of_row _ _ _ _ _ _ hbx]; rfl
  have hofc := Lib.hid (of_any y i v P base W hy hP hn (fun q hq => bytV_one (hdat q hq).1))
  obtain ⟨F, hF⟩ : ∃ F, Hid (ofP P i = F) := ⟨_, Lib.hid rfl⟩
  have hFof : Hid (∀ q ∈ F, q.1.of ≤ 4096) := Lib.hid (fun q hq => hof q (by rw [← hF.out] at hq; exact (List.mem_filter.1 hq).1))
  have hFn : F.length ≤ 1000000 := by rw [← hF.out]; exact Nat.le_trans (List.length_filter_le _ _) hn
  rw [hF.out] at hofc ⊢
  obtain ⟨m, hm⟩ : ∃ m, Hid (F.length = m) := ⟨_, Lib.hid rfl⟩
  rw [hm.out] at hFn
  obtain ⟨i0, hi0, hz0, hz1, hz2⟩ := info_parts info_int
  clear hbx hP hQo hdat hy hQy hyb hof
  go_enter Try.func30, Try.ntmps30
  go_wp2_with fail
  refine hofc.out.mono ?_
  rintro e w1 ⟨u, rfl, hu, hl⟩
  obtain ⟨au, cu, rfl⟩ := hu.form
  rw [hm.out] at hu ⊢
  replace hu := Lib.hid hu
  replace hl := Lib.hid hl
  clear hofc
  obtain ⟨B, hB⟩ : ∃ B, Hid (w1.heap.size = B) := ⟨_, Lib.hid rfl⟩
  obtain ⟨B0, hB0⟩ : ∃ B, Hid (W.heap.size = B) := ⟨_, Lib.hid rfl⟩
  go_wp2_with fail
  go_loopg [6, 7] 5000 (fun gg v s wr => ∃ k : Nat, gg = 5000 - k ∧ k ≤ 4096 ∧ s = .int .i64 k ∧ (m = 0 → k = 0) ∧ (∀ q, F[0]? = some q → k ≤ q.1.of) ∧ Hid (wr.ownsRow B 3 1 v (missU F k).length (encN (missU F k))) ∧ Hid (Later w1 wr))
  case atStart => exact ⟨0, by omega, by omega, rfl, fun _ => rfl, fun q _ => Nat.zero_le _, Lib.hid (World.ownsRow_nil _ _ _ _), Lib.hid (Later.refl _)⟩
  case round =>
    obtain ⟨k, rfl, hk4, rfl, hm0, hkof, hrow, hlw⟩ := hrel
    obtain ⟨ov, oc, rfl⟩ := own_form hrow.out
    by_cases hmz : m = 0
    · subst hmz
      obtain rfl := hm0 rfl
      have hF0 : F = [] := List.eq_nil_of_length_eq_zero hm.out
      subst hF0
      go_wp2_with fail
      go_ret
      exact ⟨_, rfl, row_base (base := B) hrow.out (by have := hB.out; have := hl.out.size; omega), hl.out.trans hlw.out⟩
    · obtain ⟨q0, hq0⟩ : ∃ q, F[0]? = some q := ⟨F[0]'(by rw [hm.out]; omega), List.getElem?_eq_getElem _⟩
      have hm1 : (0 : Int) < (m : Int) := by omega
      obtain ⟨g, rfl, -, -, c2, -⟩ := PsV.cell (hu.out.later hlw.out) hq0
      rw [Nat.zero_mul, Nat.zero_add] at c2
      have hof0 := hFof.out q0 (List.mem_of_getElem? hq0)
      obtain ⟨of0, hof0'⟩ : ∃ z, Hid (q0.1.of = z) := ⟨_, Lib.hid rfl⟩
      have hkof' := hkof q0 hq0
      rw [hof0'.out] at c2 hof0 hkof'
      have hkofh := Lib.hid hkof
      have hq0h := Lib.hid hq0
      clear hkof hq0
      by_cases hk : k < of0
      · have hkk : (k : Int) < (of0 : Int) := by omega
        go_wp2_with fail
        rename World => wq
        go_loopg [8, 9] (m + 1) (fun gg b s wr => ∃ j : Nat, gg = m + 1 - j ∧ j ≤ m ∧ s = .int .i64 j ∧ b = .bool (anyAt F j k) ∧ wr = wq)
        case atStart => exact ⟨0, by omega, Nat.zero_le _, rfl, rfl, rfl⟩
        case round =>
          obtain ⟨j, rfl, hjm, rfl, rfl, rfl⟩ := hrel
          by_cases hj : j < m
          · have hjj : (j : Int) < (m : Int) := by omega
            obtain ⟨q, hq⟩ : ∃ q, F[j]? = some q := ⟨F[j]'(by rw [hm.out]; exact hj), List.getElem?_eq_getElem _⟩
            obtain ⟨g', e', -, c1, -, -⟩ := PsV.cell (hu.out.later hlw.out) hq
            obtain rfl : g = g' := by injection e' with e'; injection e'
            have hsu := Lib.hid (anyAt_succ hq k)
            obtain ⟨z, hz⟩ : ∃ z, Hid (q.1.pl = z) := ⟨_, Lib.hid rfl⟩
            rw [hz.out] at c1 hsu
            clear hq e'
            cases hb : anyAt F j k with
            | true =>
              rw [hb] at hsu
              clear hb
              go_wp2_with fail
              go_roundg (m - j)
              case measure => omega
              case rel => exact ⟨j + 1, by omega, by omega, by go_num, by rw [hsu.out]; rfl, rfl⟩
            | false =>
              rw [hb] at hsu
              clear hb
              by_cases hzk : z = k
              · subst hzk
                have hee : ((z : Int) == (z : Int)) = true := by simp
                go_wp2_with fail
                go_roundg (m - j)
                case measure => omega
                case rel => exact ⟨j + 1, by omega, by omega, by go_num, by rw [hsu.out]; simp, rfl⟩
              · have hee : ((z : Int) == (k : Int)) = false := by simp; omega
                go_wp2_with fail
                go_roundg (m - j)
                case measure => omega
                case rel => exact ⟨j + 1, by omega, by omega, by go_num, by rw [hsu.out]; simp [hzk], rfl⟩
          · obtain rfl : m = j := by omega
            have hjj : ¬ (m : Int) < (m : Int) := by omega
            have hml := missU_le F k
            cases hb : anyAt F m k with
            | true =>
              have hno := Lib.hid (missU_no (by rw [hm.out]; exact hb))
              clear hb
              go_wp2_with fail
              go_roundg (5000 - (k + 1))
              case measure => omega
              case rel => exact ⟨k + 1, by omega, by omega, by go_num, fun h => absurd h hmz, fun q hq => by rw [hq0h.out] at hq; injection hq with hq; subst hq; rw [hof0'.out]; omega, by rw [hno.out]; exact hrow, hlw⟩
            | false =>
              have hyes := Lib.hid (missU_yes (by rw [hm.out]; exact hb))
              clear hb
              have hsz : B ≤ wr.heap.size := by rw [← hB.out]; exact hlw.out.size
              have hmL : (missU F k).length + 1 ≤ maxLen := Nat.le_trans (by omega : _ ≤ 5000) (by decide)
              have q1' := hrow.out.alloc (.cells #[.int .i64 k] 3)
              have hla := Lib.hid (hlw.out.alloc (.cells #[.int .i64 k] 3))
              go_wp2_with (at_builtin; refine wpList_append_lies _ rfl _ _ 60 rfl B 3 i0 (.int .i64 0) 1 8 Try.underlying60 hi0 hz0 hz1 hz2 rfl (by decide) _ _ _ rfl q1' ⟨wr.heap.size, 0, none⟩ 1 1 [.int .i64 k] rfl rfl (World.news_of_block (heap_alloc_new _ _)) (fun u hu => by rw [List.mem_singleton] at hu; rw [hu]; rfl) (by omega) hmL (by omega) (by simp; omega) _ rfl ?_; intro ga ca w3 hr3 hg3 _ _)
              go_roundg (5000 - (k + 1))
              case measure => omega
              case rel =>
                refine ⟨k + 1, by omega, by omega, by go_num, fun h => absurd h hmz, fun q hq => by rw [hq0h.out] at hq; injection hq with hq; subst hq; rw [hof0'.out]; omega, ?_, Lib.hid (later_own4 hla.out q1' (by rw [hB.out]; exact Nat.le_refl _) hg3)⟩
                rw [hyes.out, List.length_append]
                have e : encN (missU F k ++ [k]) = encN (missU F k) ++ [.int .i64 k] := by unfold encN; rw [List.map_append]; rfl
                rw [e]
                exact Lib.hid hr3
      · obtain rfl : of0 = k := by omega
        have hkk : ¬ (of0 : Int) < (of0 : Int) := by omega
        have hfin : Hid (missU F of0 = missF F) := Lib.hid (by
          cases F with
          | nil => simp at hq0h; exact absurd hq0h.out (by simp)
          | cons q F' =>
            have e := hq0h.out
            simp at e
            subst e
            rw [← hof0'.out]
            exact missU_F)
        go_wp2_with fail
        go_ret
        exact ⟨_, rfl, by rw [← hfin.out]; exact row_base (base := B) hrow.out (by have := hB.out; have := hl.out.size; omega), hl.out.trans hlw.out⟩
end Go.Proofs.Ytjelfiljebamgaa
