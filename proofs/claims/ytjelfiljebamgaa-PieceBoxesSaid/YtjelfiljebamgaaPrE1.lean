/-
  Chapter 21's law: a call of both boxes: Open and Held, Missing, Drop, none.
  Chapter 21's law: a call of both boxes: Drop.
  Chapter 21's law: a call of both boxes: Copy, and the old box is turned.
  Chapter 21's law PieceBoxes: its walk.
-/
import Derived.Deep.RegionHeld3
import Derived.Test.YtjelfiljebamgaaPrA1
import Derived.Test.YtjelfiljebamgaaBxO
import Derived.Test.YtjelfiljebamgaaCpA1
namespace Go.Proofs.Ytjelfiljebamgaa
open Go.RowKit Go.Shelf Go.Maps
set_option linter.unusedVariables false
set_option linter.unusedSimpArgs false
attribute [local go_sem] Oper.semAt_some

theorem srtU_asc {l : List Nat} (h : l.Pairwise (· < ·)) : srtU (keyI l) = keyI l := by
  refine List.mergeSort_of_pairwise ?_
  unfold keyI
  rw [List.pairwise_map]
  refine List.Pairwise.imp ?_ h
  intro a b h
  simp only [decide_eq_true_eq]
  show (a : Int) ≤ (b : Int)
  omega
theorem sumM_same {L : List Pc} {M : Bx} (h : BOk L M) : sumM M (dopen L) = sumL L := held_same h (dopen_nd L) (dopen_keys h)
theorem missF_same {P : List Pv} {M : Bx} (h : BOk (pcs P) M) (i : Nat) : missB M i = missF (ofP P i) := by
  have e := ofL_pcs P i
  unfold missB
  cases hm : M i with
  | none =>
    have h1 := (h i).1 hm
    rw [e] at h1
    have h2 : ofP P i = [] := List.map_eq_nil_iff.1 h1
    rw [h2]; rfl
  | some m =>
    have h1 := (h i).2 m hm
    rw [e] at h1
    cases hF : ofP P i with
    | nil => rw [hF] at h1; exact absurd rfl h1.ne
    | cons q F =>
      rw [hF] at h1
      show pmiss m = dmiss (pcs (q :: F)) q.1.of
      rw [h1.of q.1 (by simp [pcs]), miss_same h1]
theorem missF_le {P : List Pv} (hP : PcOk P) (i : Nat) : (missF (ofP P i)).length ≤ 4096 := by
  cases hF : ofP P i with
  | nil => exact Nat.zero_le _
  | cons q F =>
    have hq : q ∈ P := by
      have : q ∈ ofP P i := by rw [hF]; exact List.mem_cons_self ..
      exact (List.mem_filter.1 this).1
    have h1 := (hP q hq).2.1
    show (dmiss _ _).length ≤ _
    unfold dmiss
    exact Nat.le_trans (List.length_filter_le _ _) (by simpa using h1)
theorem dopen_le2 (P : List Pv) : (dopen (pcs P)).length ≤ P.length := by
  have h := dopen_le P P.length (Nat.le_refl _)
  rw [List.take_of_length_le (Nat.le_refl _)] at h
  exact h
theorem PcOk.le {P : List Pv} (h : PcOk P) : ∀ q ∈ P, q.1.d.length ≤ 1000 := fun q hq => Nat.le_trans (h q hq).1 (by decide)
set_option maxRecDepth 100000 in
theorem do_open (x y : Nat) (r : Int) (M : Bx) (P : List Pv) (Q Qy : Nat → Prop) (W : World) (h : DoPre W x y r M P Q Qy) (id : Nat) (pl of : Int) (u : Value) (b : List Int) (hid : id < 18446744073709551616) (hu : BytV W u b) (hi : In u (fun k => Q k ∧ ¬ Qy k)) (hb : b.length ≤ 1000) :
    Calls Try.prog 22 #[wp x, wp y, opA 2 id pl of u] W (DoPost W y r (P.length + 1) Q Qy) := by
  obtain ⟨aB, cB, rfl⟩ := bytV_form hu
  obtain ⟨nB, hnB⟩ : ∃ n, Hid (b.length = n) := ⟨_, Lib.hid rfl⟩
  rw [hnB.out] at hu hi ⊢
  obtain ⟨I, hI⟩ : ∃ I : Int, Hid ((id : Int) = I) := ⟨_, Lib.hid rfl⟩
  unfold opA
  rw [hI.out]
  obtain ⟨W1, hW1⟩ : ∃ w, w = W.alloc (.cells #[.int .i64 2, .int .u64 I, .int .i64 pl, .int .i64 of, .slice aB nB cB] 55) := ⟨_, rfl⟩
  have hl1 : Later W W1 := by rw [hW1]; exact (Later.refl _).alloc _
  have k1 : W1.heap[W.heap.size]? = some (.cells #[.int .i64 2, .int .u64 I, .int .i64 pl, .int .i64 of, .slice aB nB cB] 55 (0, 0)) := by rw [hW1]; exact heap_alloc_new _ _
  have hp1 := Lib.hid (h.later hl1)
  have hu1 := Lib.hid (hu.later hl1)
  have hi1 : Hid (In (.slice aB nB cB) (fun k => (Q k ∨ (W.heap.size ≤ k ∧ k < W1.heap.size)) ∧ ¬ Qy k)) := Lib.hid (hi.mono (fun k hk => ⟨.inl hk.1, hk.2⟩))
  obtain ⟨z, hz⟩ : ∃ z, Hid (W.heap.size = z) := ⟨_, Lib.hid rfl⟩
  rw [hz.out] at k1
  have c0 : W1.cell? ⟨z, 0, none⟩ = some (.int .i64 2) := by rw [cell_of_row _ _ _ _ _ _ k1]; rfl
  have c1 : W1.cell? ⟨z, 1, none⟩ = some (.int .u64 I) := by rw [cell_of_row _ _ _ _ _ _ k1]; rfl
  have c2 : W1.cell? ⟨z, 2, none⟩ = some (.int .i64 pl) := by rw [cell_of_row _ _ _ _ _ _ k1]; rfl
  have c3 : W1.cell? ⟨z, 3, none⟩ = some (.int .i64 of) := by rw [cell_of_row _ _ _ _ _ _ k1]; rfl
  have c4 : W1.cell? ⟨z, 4, none⟩ = some (.slice aB nB cB) := by rw [cell_of_row _ _ _ _ _ _ k1]; rfl
  clear hu hi
  go_enter Try.func22, Try.ntmps22
  go_upto_region 1 with fail
  rw [← hW1, hz.out]
  clear hW1
  obtain ⟨O, hO⟩ : ∃ O, Hid (dopen (pcs P) = O) := ⟨_, Lib.hid rfl⟩
  have hOl : O.length ≤ 1000 := by rw [← hO.out]; exact Nat.le_trans (dopen_le2 P) h.len
  have HX := Lib.hid (open_st2 hp1.out.bx (dopen_nd (pcs P)) (dopen_keys h.ok))
  rw [srtU_asc (dopen_asc _), hO.out] at HX
  have hP9 := h.len
  have hP9' : P.length ≤ 1000000 := by omega
  have hke : Hid ((keyI O).length = O.length) := Lib.hid (keyI_len O)
  clear h
  go_wp2_with fail
  refine HX.out.mono ?_
  rintro e w2 ⟨v2, rfl, hr2, hl2⟩
  obtain ⟨a2, q2, rfl⟩ := own_form hr2
  have HY := Lib.hid (open_ref y r P Qy w2 (hp1.out.db.later hl2) hP9')
  rw [hO.out] at HY
  replace hr2 := Lib.hid hr2
  go_wp2_with fail
  refine HY.out.mono ?_
  rintro e w3 ⟨v3, rfl, hr3, hl3⟩
  obtain ⟨a3, q3, rfl⟩ := own_form hr3
  have HN := Lib.hid (numbers_same (.slice a2 O.length q2) (.slice a3 O.length q3) (keyI O) _ _ w3 (by rw [hke.out]; exact row_later hr2.out hl3) (by rw [hke.out]; exact hr3) (by rw [hke.out]; omega))
  have hl3' := hl2.trans hl3
  clear HX HY hr3 hl2 hl3
  go_wp2_with fail
  refine HN.out.mono ?_
  rintro e w4 ⟨rfl, hl4⟩
  have hl4' := hl3'.trans hl4
  have HH := Lib.hid (held_st (hp1.out.bx.later hl4') (dopen_nd (pcs P)) (dopen_keys hp1.out.ok))
  rw [sumM_same hp1.out.ok] at HH
  obtain ⟨s, hs⟩ : ∃ s, Hid (sumL (pcs P) = s) := ⟨_, Lib.hid rfl⟩
  rw [hs.out] at HH
  clear hl4
  go_wp2_with fail
  refine HH.out.mono ?_
  rintro e w5 ⟨rfl, hl5⟩
  have HG := Lib.hid (held_ref y r P Qy w5 ((hp1.out.db.later hl4').later hl5) hP9' hp1.out.pc.le)
  rw [hs.out] at HG
  go_wp2_with fail
  refine HG.out.mono ?_
  rintro e w6 ⟨rfl, hl6⟩
  have hl6' := Lib.hid ((hl4'.trans hl5).trans hl6)
  clear hl5 hl6 hl4' hl3'
  have hss : ((s : Int) == (s : Int)) = true := by simp
  go_wp2_with fail
  go_ret2
  exact ⟨x, rfl, (PairTo.of_later hp1.out hl6'.out (Nat.le_succ _)).after hl1 (fun k hk => .inl hk)⟩
set_option maxRecDepth 100000 in
theorem do_miss (x y : Nat) (r : Int) (M : Bx) (P : List Pv) (Q Qy : Nat → Prop) (W : World) (h : DoPre W x y r M P Q Qy) (id : Nat) (pl of : Int) (u : Value) (b : List Int) (hid : id < 18446744073709551616) (hu : BytV W u b) (hi : In u (fun k => Q k ∧ ¬ Qy k)) (hb : b.length ≤ 1000) :
    Calls Try.prog 22 #[wp x, wp y, opA 3 id pl of u] W (DoPost W y r (P.length + 1) Q Qy) := by
  obtain ⟨aB, cB, rfl⟩ := bytV_form hu
  obtain ⟨nB, hnB⟩ : ∃ n, Hid (b.length = n) := ⟨_, Lib.hid rfl⟩
  rw [hnB.out] at hu hi ⊢
  obtain ⟨I, hI⟩ : ∃ I : Int, Hid ((id : Int) = I) := ⟨_, Lib.hid rfl⟩
  unfold opA
  rw [hI.out]
  obtain ⟨W1, hW1⟩ : ∃ w, w = W.alloc (.cells #[.int .i64 3, .int .u64 I, .int .i64 pl, .int .i64 of, .slice aB nB cB] 55) := ⟨_, rfl⟩
  have hl1 : Later W W1 := by rw [hW1]; exact (Later.refl _).alloc _
  have k1 : W1.heap[W.heap.size]? = some (.cells #[.int .i64 3, .int .u64 I, .int .i64 pl, .int .i64 of, .slice aB nB cB] 55 (0, 0)) := by rw [hW1]; exact heap_alloc_new _ _
  have hp1 := Lib.hid (h.later hl1)
  have hu1 := Lib.hid (hu.later hl1)
  have hi1 : Hid (In (.slice aB nB cB) (fun k => (Q k ∨ (W.heap.size ≤ k ∧ k < W1.heap.size)) ∧ ¬ Qy k)) := Lib.hid (hi.mono (fun k hk => ⟨.inl hk.1, hk.2⟩))
  obtain ⟨z, hz⟩ : ∃ z, Hid (W.heap.size = z) := ⟨_, Lib.hid rfl⟩
  rw [hz.out] at k1
  have c0 : W1.cell? ⟨z, 0, none⟩ = some (.int .i64 3) := by rw [cell_of_row _ _ _ _ _ _ k1]; rfl
  have c1 : W1.cell? ⟨z, 1, none⟩ = some (.int .u64 I) := by rw [cell_of_row _ _ _ _ _ _ k1]; rfl
  have c2 : W1.cell? ⟨z, 2, none⟩ = some (.int .i64 pl) := by rw [cell_of_row _ _ _ _ _ _ k1]; rfl
  have c3 : W1.cell? ⟨z, 3, none⟩ = some (.int .i64 of) := by rw [cell_of_row _ _ _ _ _ _ k1]; rfl
  have c4 : W1.cell? ⟨z, 4, none⟩ = some (.slice aB nB cB) := by rw [cell_of_row _ _ _ _ _ _ k1]; rfl
  clear hu hi
  go_enter Try.func22, Try.ntmps22
  go_upto_region 1 with fail
  rw [← hW1, hz.out]
  clear hW1
  obtain ⟨O, hO⟩ : ∃ O, Hid (missF (ofP P id) = O) := ⟨_, Lib.hid rfl⟩
  have hOl : O.length ≤ 4096 := by rw [← hO.out]; exact missF_le h.pc id
  have HX := Lib.hid (missing_st id hid hp1.out.bx)
  rw [missF_same h.ok, hO.out, hI.out] at HX
  have hP9' : P.length ≤ 1000000 := by have := h.len; omega
  clear h
  go_wp2_with fail
  refine HX.out.mono ?_
  rintro e w2 ⟨v2, rfl, hr2, hl2⟩
  obtain ⟨a2, q2, rfl⟩ := own_form hr2
  have HY := Lib.hid (miss_ref y id r P Qy w2 (hp1.out.db.later hl2) hP9' (fun q hq => (hp1.out.pc q hq).2.1))
  rw [hO.out, hI.out] at HY
  replace hr2 := Lib.hid hr2
  replace c1 := hl2.cell c1
  clear c0 c2 c3 c4
  go_wp2_with fail
  refine HY.out.mono ?_
  rintro e w3 ⟨v3, rfl, hr3, hl3⟩
  obtain ⟨a3, q3, rfl⟩ := own_form hr3
  have HN := Lib.hid (ints21_same (.slice a2 O.length q2) (.slice a3 O.length q3) O w3 ((numV_of hr2.out).later hl3) (numV_of hr3) (by omega))
  have hl3' := hl2.trans hl3
  clear HX HY hr3 hl2 hl3 c1
  go_wp2_with fail
  refine HN.out.mono ?_
  rintro e w4 ⟨rfl, hl4⟩
  have hl4' := Lib.hid (hl3'.trans hl4)
  go_wp2_with fail
  go_ret2
  exact ⟨x, rfl, (PairTo.of_later hp1.out hl4'.out (Nat.le_succ _)).after hl1 (fun k hk => .inl hk)⟩
set_option maxRecDepth 100000 in
theorem do_none (x y : Nat) (r : Int) (M : Bx) (P : List Pv) (Q Qy : Nat → Prop) (W : World) (h : DoPre W x y r M P Q Qy) (kd : Int) (id : Nat) (pl of : Int) (u : Value) (b : List Int) (hk0 : kd ≠ 0) (hk1 : kd ≠ 1) (hk2 : kd ≠ 2) (hk3 : kd ≠ 3) (hk4 : kd ≠ 4) (hk5 : kd ≠ 5) (hu : BytV W u b) (hi : In u (fun k => Q k ∧ ¬ Qy k)) :
    Calls Try.prog 22 #[wp x, wp y, opA kd id pl of u] W (DoPost W y r (P.length + 1) Q Qy) := by
  obtain ⟨aB, cB, rfl⟩ := bytV_form hu
  obtain ⟨nB, hnB⟩ : ∃ n, Hid (b.length = n) := ⟨_, Lib.hid rfl⟩
  rw [hnB.out] at hu hi ⊢
  obtain ⟨I, hI⟩ : ∃ I : Int, Hid ((id : Int) = I) := ⟨_, Lib.hid rfl⟩
  unfold opA
  rw [hI.out]
  obtain ⟨W1, hW1⟩ : ∃ w, w = W.alloc (.cells #[.int .i64 kd, .int .u64 I, .int .i64 pl, .int .i64 of, .slice aB nB cB] 55) := ⟨_, rfl⟩
  have hl1 : Later W W1 := by rw [hW1]; exact (Later.refl _).alloc _
  have k1 : W1.heap[W.heap.size]? = some (.cells #[.int .i64 kd, .int .u64 I, .int .i64 pl, .int .i64 of, .slice aB nB cB] 55 (0, 0)) := by rw [hW1]; exact heap_alloc_new _ _
  have hp1 := Lib.hid (h.later hl1)
  have hu1 := Lib.hid (hu.later hl1)
  have hi1 : Hid (In (.slice aB nB cB) (fun k => (Q k ∨ (W.heap.size ≤ k ∧ k < W1.heap.size)) ∧ ¬ Qy k)) := Lib.hid (hi.mono (fun k hk => ⟨.inl hk.1, hk.2⟩))
  obtain ⟨z, hz⟩ : ∃ z, Hid (W.heap.size = z) := ⟨_, Lib.hid rfl⟩
  rw [hz.out] at k1
  have c0 : W1.cell? ⟨z, 0, none⟩ = some (.int .i64 kd) := by rw [cell_of_row _ _ _ _ _ _ k1]; rfl
  have c1 : W1.cell? ⟨z, 1, none⟩ = some (.int .u64 I) := by rw [cell_of_row _ _ _ _ _ _ k1]; rfl
  have c2 : W1.cell? ⟨z, 2, none⟩ = some (.int .i64 pl) := by rw [cell_of_row _ _ _ _ _ _ k1]; rfl
  have c3 : W1.cell? ⟨z, 3, none⟩ = some (.int .i64 of) := by rw [cell_of_row _ _ _ _ _ _ k1]; rfl
  have c4 : W1.cell? ⟨z, 4, none⟩ = some (.slice aB nB cB) := by rw [cell_of_row _ _ _ _ _ _ k1]; rfl
  clear hu hi
  go_enter Try.func22, Try.ntmps22
  go_upto_region 1 with fail
  rw [← hW1, hz.out]
  clear hW1
  have e0 : (kd == 0) = false := by simpa using hk0
  have e1 : (kd == 1) = false := by simpa using hk1
  have e2 : (kd == 2) = false := by simpa using hk2
  have e3 : (kd == 3) = false := by simpa using hk3
  have e4 : (kd == 4) = false := by simpa using hk4
  have e5 : (kd == 5) = false := by simpa using hk5
  go_wp2_with fail
  go_ret2
  exact ⟨x, rfl, (PairTo.of_later hp1.out (Later.refl _) (Nat.le_succ _)).after hl1 (fun k hk => .inl hk)⟩
end Go.Proofs.Ytjelfiljebamgaa
namespace Go.Proofs.Ytjelfiljebamgaa
open Go.RowKit Go.Shelf Go.Maps
set_option linter.unusedVariables false
set_option linter.unusedSimpArgs false
attribute [local go_sem] Oper.semAt_some

theorem drop_stA {w : World} {Q : Nat → Prop} {x : Nat} {r : Int} {M : Bx} (i : Nat) (hi : i < 18446744073709551616) (h : BxSt w Q x r M) :
    Calls Try.prog 31 #[wp x, .int .u64 i] w fun e w' => ∃ (er : Int) (M' : Bx), ((M i = none ∧ er = 210 ∧ M' = M) ∨ (M i ≠ none ∧ er = 0 ∧ M' = fun j => if j = i then none else M j)) ∧ e = .returned (.int .i64 er) ∧ BxSt w' Q x r M' ∧ Hold Q w w' := by
  obtain ⟨S, T, hbx, hq⟩ := h
  refine (drop_any i x r M S T w hbx hi).mono ?_
  rintro e w' (⟨hn, rfl, hb, hk⟩ | ⟨m, hm, rfl, hb, hk⟩)
  · exact ⟨210, M, .inl ⟨hn, rfl, rfl⟩, rfl, ⟨S, T, hb, fun k hk' => ⟨(hq k hk').1, Nat.lt_of_lt_of_le (hq k hk').2.1 hk.size, (hq k hk').2.2⟩⟩, hk.mono (fun k _ hs hQ => (hq k hQ).1 hs)⟩
  · exact ⟨0, _, .inr ⟨by rw [hm]; simp, rfl, rfl⟩, rfl, ⟨S, T, hb, fun k hk' => ⟨(hq k hk').1, Nat.lt_of_lt_of_le (hq k hk').2.1 hk.size, (hq k hk').2.2⟩⟩, hk.mono (fun k _ hs hQ => (hq k hQ).1 hs)⟩
theorem drop_refA (y i : Nat) (r : Int) (P : List Pv) (Q : Nat → Prop) (W : World) (h : DB W y r P Q) (hn : P.length ≤ 1000000) :
    Calls Try.prog 61 #[wp y, .int .u64 (i : Nat)] W fun e w' => ∃ (er : Int) (P' : List Pv), ((ofP P i = [] ∧ er = 210 ∧ P' = P) ∨ (ofP P i ≠ [] ∧ er = 0 ∧ P' = goneP P i)) ∧ e = .returned (.int .i64 er) ∧ DbTo W w' y r P' Q := by
  refine (drop_ref y i r P Q W h hn).mono ?_
  rintro e w' (⟨h1, rfl, hl⟩ | ⟨h1, rfl, hd⟩)
  · exact ⟨210, P, .inl ⟨h1, rfl, rfl⟩, rfl, (h.later hl).mono (fun k hk => .inl hk), Keep.of_later hl⟩
  · exact ⟨0, _, .inr ⟨h1, rfl, rfl⟩, rfl, hd⟩
/-- Both answer a Drop alike. -/
theorem drop_alike {P P' : List Pv} {M M' : Bx} {i : Nat} {er er' : Int} (h : BOk (pcs P) M) (hx : (M i = none ∧ er = 210 ∧ M' = M) ∨ (M i ≠ none ∧ er = 0 ∧ M' = fun j => if j = i then none else M j)) (hy : (ofP P i = [] ∧ er' = 210 ∧ P' = P) ∨ (ofP P i ≠ [] ∧ er' = 0 ∧ P' = goneP P i)) : er' = er ∧ BOk (pcs P') M' ∧ P'.length ≤ P.length ∧ ∀ q ∈ P', q ∈ P := by
  have hio : M i = none ↔ ofP P i = [] := by
    have e := ofL_pcs P i
    have e2 : pcs (ofP P i) = [] ↔ ofP P i = [] := List.map_eq_nil_iff
    constructor
    · intro hm
      have h1 := (h i).1 hm
      rw [e] at h1
      exact e2.1 h1
    · intro hF
      cases hm : M i with
      | none => rfl
      | some m =>
        have h1 := ((h i).2 m hm).ne
        rw [e, hF] at h1
        exact absurd rfl h1
  rcases hx with ⟨h1, rfl, rfl⟩ | ⟨h1, rfl, rfl⟩
  · rcases hy with ⟨h2, rfl, rfl⟩ | ⟨h2, _⟩
    · exact ⟨rfl, h, Nat.le_refl _, fun q hq => hq⟩
    · exact absurd (hio.1 h1) h2
  · rcases hy with ⟨h2, _⟩ | ⟨h2, rfl, rfl⟩
    · exact absurd (hio.2 h2) h1
    · refine ⟨rfl, ?_, List.length_filter_le _ _, fun q hq => (List.mem_filter.1 hq).1⟩
      rw [pcs_gone]
      exact h.gone i
set_option maxRecDepth 100000 in
theorem do_drop (x y : Nat) (r : Int) (M : Bx) (P : List Pv) (Q Qy : Nat → Prop) (W : World) (h : DoPre W x y r M P Q Qy) (id : Nat) (pl of : Int) (u : Value) (b : List Int) (hid : id < 18446744073709551616) (hu : BytV W u b) (hi : In u (fun k => Q k ∧ ¬ Qy k)) (hb : b.length ≤ 1000) :
    Calls Try.prog 22 #[wp x, wp y, opA 4 id pl of u] W (DoPost W y r (P.length + 1) Q Qy) := by
  have hyW : Hid (y < W.heap.size) := Lib.hid (by obtain ⟨v, base, hb, _⟩ := h.db; exact (Array.getElem?_eq_some_iff.1 hb).1)
  obtain ⟨aB, cB, rfl⟩ := bytV_form hu
  obtain ⟨nB, hnB⟩ : ∃ n, Hid (b.length = n) := ⟨_, Lib.hid rfl⟩
  rw [hnB.out] at hu hi ⊢
  obtain ⟨I, hI⟩ : ∃ I : Int, Hid ((id : Int) = I) := ⟨_, Lib.hid rfl⟩
  unfold opA
  rw [hI.out]
  obtain ⟨W1, hW1⟩ : ∃ w, w = W.alloc (.cells #[.int .i64 4, .int .u64 I, .int .i64 pl, .int .i64 of, .slice aB nB cB] 55) := ⟨_, rfl⟩
  have hl1 : Later W W1 := by rw [hW1]; exact (Later.refl _).alloc _
  have k1 : W1.heap[W.heap.size]? = some (.cells #[.int .i64 4, .int .u64 I, .int .i64 pl, .int .i64 of, .slice aB nB cB] 55 (0, 0)) := by rw [hW1]; exact heap_alloc_new _ _
  have hp1 := Lib.hid (h.later hl1)
  have hu1 := Lib.hid (hu.later hl1)
  have hi1 : Hid (In (.slice aB nB cB) (fun k => (Q k ∨ (W.heap.size ≤ k ∧ k < W1.heap.size)) ∧ ¬ Qy k)) := Lib.hid (hi.mono (fun k hk => ⟨.inl hk.1, hk.2⟩))
  obtain ⟨z, hz⟩ : ∃ z, Hid (W.heap.size = z) := ⟨_, Lib.hid rfl⟩
  rw [hz.out] at k1
  have c0 : W1.cell? ⟨z, 0, none⟩ = some (.int .i64 4) := by rw [cell_of_row _ _ _ _ _ _ k1]; rfl
  have c1 : W1.cell? ⟨z, 1, none⟩ = some (.int .u64 I) := by rw [cell_of_row _ _ _ _ _ _ k1]; rfl
  have c2 : W1.cell? ⟨z, 2, none⟩ = some (.int .i64 pl) := by rw [cell_of_row _ _ _ _ _ _ k1]; rfl
  have c3 : W1.cell? ⟨z, 3, none⟩ = some (.int .i64 of) := by rw [cell_of_row _ _ _ _ _ _ k1]; rfl
  have c4 : W1.cell? ⟨z, 4, none⟩ = some (.slice aB nB cB) := by rw [cell_of_row _ _ _ _ _ _ k1]; rfl
  clear hu hi
  go_enter Try.func22, Try.ntmps22
  go_upto_region 1 with fail
  rw [← hW1, hz.out]
  clear hW1
  have hP9' : P.length ≤ 1000000 := by have := h.len; omega
  clear h
  have hzq : z < W1.heap.size := (Array.getElem?_eq_some_iff.1 k1).1
  obtain ⟨Q2, hpd, hz2, hqq⟩ : ∃ Q2 : Nat → Prop, Hid (DoPre W1.drew x y r M P Q2 Qy) ∧ Hid (Q2 z) ∧ Hid (∀ k, Q k → Q2 k) := ⟨_, Lib.hid (hp1.out.later (Later.refl W1).drew), Lib.hid (.inl (.inr ⟨Nat.le_of_eq hz.out, hzq⟩)), Lib.hid (fun k hk => .inl (.inl hk))⟩
  have kd : W1.drew.heap[z]? = some (.cells #[.int .i64 4, .int .u64 I, .int .i64 pl, .int .i64 of, .slice aB nB cB] 55 (0, 0)) := k1
  have HX := Lib.hid (drop_stA id hid hpd.out.bx)
  rw [hI.out] at HX
  have HY : Hid (∀ V, Hold Q2 W1.drew V → Calls Try.prog 61 #[wp y, .int .u64 I] V fun e w' => ∃ (er : Int) (P' : List Pv), ((ofP P id = [] ∧ er = 210 ∧ P' = P) ∨ (ofP P id ≠ [] ∧ er = 0 ∧ P' = goneP P id)) ∧ e = .returned (.int .i64 er) ∧ DbTo V w' y r P' Qy) := Lib.hid (fun V hV => by
    have h1 := drop_refA y id r P Qy V (hpd.out.db.keep hV (fun k hk hn => hn (hpd.out.qy k hk))) hP9'
    rw [hI.out] at h1
    exact h1)
  have hyz : Hid (y ≠ z) := Lib.hid (by have h1 := hyW.out; have h2 := hz.out; omega)
  have cd : W1.drew.cell? ⟨z, 1, none⟩ = some (.int .u64 I) := by rw [cell_of_row _ _ _ _ _ _ kd]; rfl
  have hWz : Hid (W.heap.size ≤ z ∧ z < W1.heap.size) := Lib.hid ⟨Nat.le_of_eq hz.out, hzq⟩
  have hd1 : Hid (∀ V, Hold Q2 W1.drew V → V.cell? ⟨z, 1, none⟩ = some (.int .u64 I)) := Lib.hid (fun V hV => by rw [cell_of_row _ _ _ _ _ _ (hV.at_ kd hz2.out)]; rfl)
  have hd2 : Hid (∀ V V', Hold Q2 W1.drew V → ∀ P', DbTo V V' y r P' Qy → V'.cell? ⟨z, 1, none⟩ = some (.int .u64 I)) := Lib.hid (fun V V' hV P' hd => by rw [cell_of_row _ _ _ _ _ _ (hd.keep.at_ (hV.at_ kd hz2.out) (fun e => hyz.out e.symm))]; rfl)
  go_upto_region 14 with fail
  go_region_held3 (fun V => V.cell? ⟨z, 1, none⟩ = some (.int .u64 I)) ((first | (with_reducible exact cd) | (with_reducible exact cv1) | (with_reducible exact cv2))) (first | (go_at_call 31; with_reducible refine HX.out.mono ?_; rintro e V1 ⟨er1, M', hm1, rfl, hb1, hh1⟩; have HY1 := Lib.hid (HY.out V1 hh1); have cv1 := hd1.out V1 hh1) | (go_at_call 61; with_reducible refine HY1.out.mono ?_; rintro e V2 ⟨er2, P', hm2, rfl, hdb2⟩; have cv2 := hd2.out V1 V2 hh1 P' hdb2; obtain ⟨he, hok', hlen', hsub'⟩ := drop_alike hpd.out.ok hm1 hm2; subst he; have hee : (er2 == er2) = true := by simp))
  have hqy : Qy y := by obtain ⟨v, base, _, _, _, hq, _⟩ := hp1.out.db; exact hq
  have hend : PairTo W V2 x y r (P.length + 1) Q Qy := by
    refine ⟨⟨_, _, M', P', hb1.turn hdb2.keep (fun k _ e => e ▸ hpd.out.qy y hqy), hdb2.box, fun k hk => ?_, hok', by omega, fun q hq => hp1.out.pc q (hsub' q hq), fun k hk => .inl (hqq.out k hk), fun k hk => hk.elim .inl (fun h => .inr (Nat.le_trans (Nat.le_trans hl1.size hh1.size) h.1))⟩, ?_⟩
    · exact hk.elim (fun h => .inl (hpd.out.qy k h)) .inr
    · exact ((Keep.of_later (hl1.trans (Later.refl W1).drew)).trans (Keep.mono (S := fun k => ¬ Q2 k) hh1 (fun k _ h => .inr (fun hq => h (hqq.out k hq))))).trans (hdb2.keep.mono (fun k _ e => .inl (e ▸ hqy)))
  replace hend := Lib.hid hend
  go_wp2_with fail
  go_ret2
  exact ⟨x, rfl, hend.out⟩
end Go.Proofs.Ytjelfiljebamgaa
namespace Go.Proofs.Ytjelfiljebamgaa
open Go.RowKit Go.Shelf Go.Maps
set_option linter.unusedVariables false
set_option linter.unusedSimpArgs false
attribute [local go_sem] Oper.semAt_some

theorem srtU_nat {ks : List Nat} (hk : ∀ i ∈ ks, i < 18446744073709551616) {k : Nat} (h : k < ks.length) : ∃ i : Nat, (srtU (keyI ks)).getD k 0 = (i : Int) ∧ i < 18446744073709551616 := by
  have hl : (srtU (keyI ks)).length = ks.length := by rw [srtU_len, keyI_len]
  have hm : (srtU (keyI ks)).getD k 0 ∈ srtU (keyI ks) := by
    rw [List.getD_eq_getElem?_getD, List.getElem?_eq_getElem (by omega)]
    exact List.getElem_mem _
  have h2 := (srtU_perm (keyI ks)).mem_iff.1 hm
  unfold keyI at h2
  obtain ⟨i, hi, e⟩ := List.mem_map.1 h2
  exact ⟨i, e.symm, hk i hi⟩
theorem missing_w {w : World} {Q : Nat → Prop} {x : Nat} {r : Int} (i : Nat) (hi : i < 18446744073709551616) (h : BxW w Q x r) :
    Calls Try.prog 28 #[wp x, .int .u64 i] w fun e w' => ∃ (v : Value) (L : List Nat), e = .returned v ∧ w'.ownsRow w.heap.size 3 1 v L.length (encN L) ∧ Later w w' := by
  obtain ⟨M, S, T, hbx, hq⟩ := h
  refine (missing_any i x r M S T w hbx hi).mono ?_
  rintro e w' ⟨v, h1, h2, h3⟩
  exact ⟨v, _, h1, h2, h3⟩
theorem write21_some (J A of : Int) (W : World) (hJ : 0 ≤ J) :
    Calls Try.prog 12 #[pcV J A of (.slice none 0 0)] W fun e w' => ∃ (v : Value) (D : List Int) (er : Int), e = .returned (.tuple #[v, .int .i64 er]) ∧ BytV w' v D ∧ D.length ≤ 900 ∧ Later W w' := by
  by_cases hm : May J A of ([] : List Int).length
  · refine (write21_new J A of (.slice none 0 0) [] W (bytV_nil W) hm hJ).mono ?_
    rintro e w' ⟨v, rfl, h1, -, h2⟩
    exact ⟨v, _, 0, rfl, h1, wrL_length hm hJ, h2⟩
  · refine (write21_no J A of (.slice none 0 0) [] W (bytV_nil W) hm).mono ?_
    rintro e w' ⟨rfl, h2⟩
    exact ⟨_, [], 210, rfl, bytV_nil w', by simp, h2⟩
set_option maxRecDepth 100000 in
theorem do_copy (x y : Nat) (r : Int) (M : Bx) (P : List Pv) (Q Qy : Nat → Prop) (W : World) (h : DoPre W x y r M P Q Qy) (id : Nat) (pl of : Int) (u : Value) (b : List Int) (hid : id < 18446744073709551616) (hu : BytV W u b) (hi : In u (fun k => Q k ∧ ¬ Qy k)) (hb : b.length ≤ 1000) :
    Calls Try.prog 22 #[wp x, wp y, opA 5 id pl of u] W (DoPost W y r (P.length + 1) Q Qy) := by
  have hks : Hid (∀ i, (M i).isSome = true → i < 18446744073709551616) := Lib.hid (fun i hi => by
    obtain ⟨m, hm⟩ := Option.isSome_iff_exists.1 hi
    have h1 := ((h.ok i).2 m hm).ne
    rw [ofL_pcs] at h1
    obtain ⟨p, hp⟩ := List.exists_mem_of_ne_nil _ h1
    obtain ⟨q, hq, rfl⟩ := List.mem_map.1 hp
    obtain ⟨h2, h3⟩ := List.mem_filter.1 hq
    have h4 := (h.pc q h2).2.2
    have h5 : q.1.id = i := by simpa using h3
    omega)
  obtain ⟨aB, cB, rfl⟩ := bytV_form hu
  obtain ⟨nB, hnB⟩ : ∃ n, Hid (b.length = n) := ⟨_, Lib.hid rfl⟩
  rw [hnB.out] at hu hi ⊢
  obtain ⟨I, hI⟩ : ∃ I : Int, Hid ((id : Int) = I) := ⟨_, Lib.hid rfl⟩
  unfold opA
  rw [hI.out]
  obtain ⟨W1, hW1⟩ : ∃ w, w = W.alloc (.cells #[.int .i64 5, .int .u64 I, .int .i64 pl, .int .i64 of, .slice aB nB cB] 55) := ⟨_, rfl⟩
  have hl1 : Later W W1 := by rw [hW1]; exact (Later.refl _).alloc _
  have k1 : W1.heap[W.heap.size]? = some (.cells #[.int .i64 5, .int .u64 I, .int .i64 pl, .int .i64 of, .slice aB nB cB] 55 (0, 0)) := by rw [hW1]; exact heap_alloc_new _ _
  have hp1 := Lib.hid (h.later hl1)
  have hu1 := Lib.hid (hu.later hl1)
  have hi1 : Hid (In (.slice aB nB cB) (fun k => (Q k ∨ (W.heap.size ≤ k ∧ k < W1.heap.size)) ∧ ¬ Qy k)) := Lib.hid (hi.mono (fun k hk => ⟨.inl hk.1, hk.2⟩))
  obtain ⟨z, hz⟩ : ∃ z, Hid (W.heap.size = z) := ⟨_, Lib.hid rfl⟩
  rw [hz.out] at k1
  have c0 : W1.cell? ⟨z, 0, none⟩ = some (.int .i64 5) := by rw [cell_of_row _ _ _ _ _ _ k1]; rfl
  have c1 : W1.cell? ⟨z, 1, none⟩ = some (.int .u64 I) := by rw [cell_of_row _ _ _ _ _ _ k1]; rfl
  have c2 : W1.cell? ⟨z, 2, none⟩ = some (.int .i64 pl) := by rw [cell_of_row _ _ _ _ _ _ k1]; rfl
  have c3 : W1.cell? ⟨z, 3, none⟩ = some (.int .i64 of) := by rw [cell_of_row _ _ _ _ _ _ k1]; rfl
  have c4 : W1.cell? ⟨z, 4, none⟩ = some (.slice aB nB cB) := by rw [cell_of_row _ _ _ _ _ _ k1]; rfl
  clear hu hi
  go_enter Try.func22, Try.ntmps22
  go_upto_region 1 with fail
  rw [← hW1, hz.out]
  clear hW1
  clear h
  obtain ⟨S, T, hbx, hQ⟩ := hp1.out.bx
  have hST : Hid (∀ k, S k ∨ T k → k < W1.heap.size) := Lib.hid (fun k hk => hbx.lt hk)
  have hdis : Hid (∀ k, T k → ¬ S k) := Lib.hid (by obtain ⟨B, D, f, G, n, hc⟩ := hbx; exact hc.dis)
  replace hQ := Lib.hid hQ
  have HC := Lib.hid (copy_any x r M S T W1 hbx)
  have hbxh := Lib.hid hbx
  have hzW : Hid (W.heap.size ≤ z ∧ z < W1.heap.size) := Lib.hid ⟨Nat.le_of_eq hz.out, (Array.getElem?_eq_some_iff.1 k1).1⟩
  have hSz : Hid (¬ S z) := Lib.hid (hQ.out z (.inr hzW.out)).1
  have k1h := Lib.hid k1
  clear hbx k1 c1 c2 c4 hu1 hi1
  go_wp2_with fail
  refine HC.out.mono ?_
  rintro e w2 ⟨c, S', rfl, hc2, hS', hl2⟩
  have HO := Lib.hid (open_any x r M S T w2 (hbxh.out.later hl2))
  replace hc2 := Lib.hid hc2
  replace hS' := Lib.hid hS'
  go_wp2_with fail
  refine HO.out.mono ?_
  rintro e w3 ⟨ks, v3, hnd, hkl, hkm, rfl, hr3, hl3⟩
  obtain ⟨a3, q3, rfl⟩ := own_form hr3
  obtain ⟨n, hn⟩ : ∃ n, Hid (ks.length = n) := ⟨_, Lib.hid rfl⟩
  have hat := Lib.hid (fun k (hk : k < ks.length) => srtU_nat (ks := ks) (fun i hi => hks.out i ((hkm i).1 hi)) hk)
  have hsl : (srtU (keyI ks)).length = n := by rw [srtU_len, keyI_len, hn.out]
  obtain ⟨Ls, hLs⟩ : ∃ l, Hid (srtU (keyI ks) = l) := ⟨_, Lib.hid rfl⟩
  rw [hLs.out] at hsl hat hr3
  rw [hn.out] at hkl hat hr3 ⊢
  have hl23 := hl2.trans hl3
  obtain ⟨Q3, hQ3⟩ : ∃ q : Nat → Prop, Hid (∀ k, q k ↔ (¬ S k ∧ k < w3.heap.size)) := ⟨_, Lib.hid (fun _ => Iff.rfl)⟩
  have hx3 : Hid (BxW w3 Q3 x r) := Lib.hid ⟨M, S, T, hbxh.out.later hl23, fun k hk => (hQ3.out k).1 hk⟩
  have hrQ : Hid (∀ g, (Value.slice a3 n q3).ownBlock = some g → Q3 g) := Lib.hid (fun g hg => by
    have h1 := World.ownsRow.lt hr3 g hg
    refine (hQ3.out g).2 ⟨fun hs => by have h2 := hST.out g (.inl hs); have := hl2.size; omega, h1.2⟩)
  have hzQ : Hid (Q3 z) := Lib.hid ((hQ3.out z).2 ⟨hSz.out, Nat.lt_of_lt_of_le hzW.out.2 hl23.size⟩)
  have kz3 := Lib.hid (hl23.obj k1h.out)
  replace hr3 := Lib.hid hr3
  replace hl23 := Lib.hid hl23
  have hl3h := Lib.hid hl3
  clear HC HO hl2 hl3 c0 c3 hkm hnd
  go_wp2_with fail
  go_loopg [97] (n + 1) (fun gg s wr => ∃ k : Nat, gg = n + 1 - k ∧ k ≤ n ∧ s = .int .i64 k ∧ Hid (BxW wr Q3 x r) ∧ Hid (Hold Q3 w3 wr))
  case atStart => exact ⟨0, by omega, Nat.zero_le _, rfl, hx3, Lib.hid (Keep.refl _ _)⟩
  case round =>
    clear hx3
    obtain ⟨k, rfl, hkn, rfl, hbw, hh⟩ := hrel
    by_cases hk : k < n
    · have hkk : (k : Int) < (n : Int) := by omega
      obtain ⟨i, hi, hi64⟩ := hat.out k hk
      obtain ⟨g, rfl, cg⟩ := own_cell (hh.out.row hr3.out hrQ.out) hsl hk
      rw [hi] at cg
      have HM := Lib.hid (missing_w i hi64 hbw.out)
      have HD := Lib.hid (fun w Q (h : BxW w Q x r) => drop_w (w := w) (Q := Q) (r := r) i hi64 h)
      obtain ⟨J, hJ⟩ : ∃ J : Int, Hid ((i : Int) = J) := ⟨_, Lib.hid rfl⟩
      rw [hJ.out] at cg HM HD
      have hJ0 : 0 ≤ J := by have := hJ.out; omega
      clear hi hi64
      go_wp2_with fail
      refine HM.out.mono ?_
      rintro e w4 ⟨v4, L4, rfl, hr4, hl4⟩
      obtain ⟨a4, q4, rfl⟩ := own_form hr4
      have hmx : L4.length ≤ 9223372036854775807 := Nat.le_trans (row_max hr4) (by decide)
      obtain ⟨m, hm⟩ : ∃ m, Hid (L4.length = m) := ⟨_, Lib.hid rfl⟩
      have hr4Q : Hid (∀ g', (Value.slice a4 L4.length q4).ownBlock = some g' → wr.heap.size ≤ g' ∧ g' < w4.heap.size) := Lib.hid (World.ownsRow.lt hr4)
      have hx4 := Lib.hid (hbw.out.later hl4)
      obtain ⟨Q4, hQ4⟩ : ∃ q : Nat → Prop, Hid (∀ k, q k ↔ (Q3 k ∨ (wr.heap.size ≤ k ∧ k < w4.heap.size))) := ⟨_, Lib.hid (fun _ => Iff.rfl)⟩
      have hx4' : Hid (BxW w4 Q4 x r) := Lib.hid (hx4.out.mono (fun k hk => (hQ4.out k).1 hk))
      have kz4 : Hid (w4.heap[z]? = some (.cells #[.int .i64 5, .int .u64 I, .int .i64 pl, .int .i64 of, .slice aB nB cB] 55 (0, 0))) := Lib.hid (hl4.obj (hh.out.at_ kz3.out hzQ.out))
      have hz4 : Hid (Q4 z) := Lib.hid ((hQ4.out z).2 (.inl hzQ.out))
      rw [hm.out] at hmx
      replace hr4 := Lib.hid hr4
      replace hl4 := Lib.hid hl4
      clear HM hx4 cg
      rw [hm.out]
      go_wp2_with fail
      go_loopg [105] (m + 1) (fun gg s wr => ∃ j : Nat, gg = m + 1 - j ∧ j ≤ m ∧ s = .int .i64 j ∧ Hid (BxW wr Q4 x r) ∧ Hid (Hold Q4 w4 wr))
      case atStart => exact ⟨0, by omega, Nat.zero_le _, rfl, hx4', Lib.hid (Keep.refl _ _)⟩
      case round =>
        clear hx4'
        rename World => wq
        obtain ⟨j, rfl, hjm, rfl, hbq, hhq⟩ := hrel
        by_cases hj : j < m
        · have hjj : (j : Int) < (m : Int) := by omega
          have hrq := hhq.out.row hr4.out (fun g' hg' => (hQ4.out g').2 (.inr (hr4Q.out g' hg')))
          obtain ⟨ao, cp, e, hnum⟩ := numV_of hrq
          have e2 : a4 = ao ∧ q4 = cp := by injection e with e1 e2 e3; exact ⟨e1, e3⟩
          obtain ⟨rfl, rfl⟩ := e2
          obtain ⟨g4, rfl, cj⟩ := hnum j (by rw [hm.out]; exact hj)
          obtain ⟨A, hA⟩ : ∃ A : Int, Hid (((L4.getD j 0 : Nat) : Int) = A) := ⟨_, Lib.hid rfl⟩
          rw [hA.out] at cj
          have hzq := hhq.out.at_ kz4.out hz4.out
          have cz : wq.cell? ⟨z, 3, none⟩ = some (.int .i64 of) := by rw [cell_of_row _ _ _ _ _ _ hzq]; rfl
          clear hrq e hnum hzq
          have HW := Lib.hid (write21_some J A of wq hJ0)
          go_wp2_with fail
          refine HW.out.mono ?_
          rintro e w5 ⟨v5, D5, er5, rfl, hb5, hD5, hl5⟩
          obtain ⟨a5, q5, rfl⟩ := bytV_form hb5
          have HPt := Lib.hid (put_w ((hbq.out.later hl5).mono (Q' := Q4) (fun k hk => .inl hk)) hb5 (by omega))
          replace hl5 := Lib.hid hl5
          obtain ⟨n5, hn5⟩ : ∃ m, Hid (D5.length = m) := ⟨_, Lib.hid rfl⟩
          rw [hn5.out] at HPt ⊢
          clear HW hb5 cj cz
          go_wp2_with fail
          refine HPt.out.mono ?_
          rintro e w6 ⟨v6, is6, er6, rfl, hb6, hh6⟩
          have hhn : Hid (Hold Q4 w4 w6) := Lib.hid ((hhq.out.trans (Keep.of_later hl5.out)).trans hh6)
          replace hb6 := Lib.hid hb6
          clear HPt hh6
          go_wp2_with fail
          go_roundg (m - j)
          case measure => omega
          case rel => exact ⟨j + 1, by omega, by omega, by go_num, hb6, hhn⟩
        · obtain rfl : m = j := by omega
          have hjj : ¬ (m : Int) < (m : Int) := by omega
          have HDD := Lib.hid (HD.out wq Q4 hbq.out)
          go_wp2_with fail
          refine HDD.out.mono ?_
          rintro e w6 ⟨er6, rfl, hb6, hh6⟩
          have hhn : Hid (Hold Q3 w3 w6) := Lib.hid (((hh.out.trans (Keep.of_later hl4.out)).trans (Hold.mono (Q := Q4) hhq.out (fun k hk => (hQ4.out k).2 (.inl hk)))).trans (Hold.mono (Q := Q4) hh6 (fun k hk => (hQ4.out k).2 (.inl hk))))
          have hb3 : Hid (BxW w6 Q3 x r) := Lib.hid (hb6.mono (fun k hk => (hQ4.out k).2 (.inl hk)))
          clear HDD hh6 hb6
          go_wp2_with fail
          go_roundg (n - k)
          case measure => omega
          case rel => exact ⟨k + 1, by omega, by omega, by go_num, hb3, hhn⟩
    · obtain rfl : n = k := by omega
      have hkk : ¬ (n : Int) < (n : Int) := by omega
      have hQQ : ∀ k, (Q k ∨ (W.heap.size ≤ k ∧ k < W1.heap.size)) → Q3 k := fun k hk => (hQ3.out k).2 ⟨(hQ.out k hk).1, by have h1 := (hQ.out k hk).2.1; have := hl23.out.size; omega⟩
      have hend : Hid (PairTo W wr c y r (P.length + 1) Q Qy) := Lib.hid (by
        have hcb := (hc2.out.later hl3h.out).keep hh.out (fun k hk hn => hn ((hQ3.out k).2 ⟨fun hs => ?_, (hc2.out.later hl3h.out).lt hk⟩))
        · refine ⟨⟨fun k => Q k ∨ (W.heap.size ≤ k ∧ k < W1.heap.size), Qy, M, P, ⟨S', T, hcb, fun k hk => ⟨fun hs => ?_, ?_, (hQ.out k hk).2.2⟩⟩, (hp1.out.db.later hl23.out).keep hh.out (fun k hk hn => hn (hQQ k (hp1.out.qy k hk))), hp1.out.qy, hp1.out.ok, Nat.le_succ _, hp1.out.pc, fun k hk => .inl hk, fun k hk => .inl hk⟩, ?_⟩
          · have h1 := hS'.out k hs
            have h2 := (hQ.out k hk).2.1
            omega
          · have h2 := (hQ.out k hk).2.1
            have h3 := hl23.out.size
            have h4 := hh.out.size
            omega
          · exact (Keep.of_later (hl1.trans hl23.out)).trans (Keep.mono (S := fun k => ¬ Q3 k) hh.out (fun k _ h => .inr (fun hq => h (hQQ k (.inl hq)))))
        · rcases hk with hk | hk
          · have h1 := hS'.out k hk
            have h2 := hST.out k (.inl hs)
            omega
          · exact hdis.out k hk hs)
      go_wp2_with fail
      go_ret2
      exact ⟨c, rfl, hend.out⟩
end Go.Proofs.Ytjelfiljebamgaa
namespace Go.Proofs.Ytjelfiljebamgaa
open Go.RowKit Go.Shelf Go.Maps
set_option linter.unusedVariables false
set_option linter.unusedSimpArgs false
attribute [local go_sem] Oper.semAt_some

theorem do_any (x y : Nat) (r : Int) (M : Bx) (P : List Pv) (Q Qy : Nat → Prop) (W : World) (h : DoPre W x y r M P Q Qy) (q : OpR) (u : Value) (hid : q.id < 18446744073709551616) (hu : BytV W u q.b) (hi : In u (fun k => Q k ∧ ¬ Qy k)) (hb : q.b.length ≤ 1000) :
    Calls Try.prog 22 #[wp x, wp y, opA q.kind q.id q.pl q.of u] W (DoPost W y r (P.length + 1) Q Qy) := by
  obtain ⟨kd, id, pl, of, b⟩ := q
  show Calls _ _ #[wp x, wp y, opA kd id pl of u] W _
  by_cases h0 : kd = 0
  · subst h0; exact do_put x y r M P Q Qy W h id pl of u b hid hu hi hb
  by_cases h1 : kd = 1
  · subst h1; exact do_piece x y r M P Q Qy W h id pl of u b hid hu hi hb
  by_cases h2 : kd = 2
  · subst h2; exact do_open x y r M P Q Qy W h id pl of u b hid hu hi hb
  by_cases h3 : kd = 3
  · subst h3; exact do_miss x y r M P Q Qy W h id pl of u b hid hu hi hb
  by_cases h4 : kd = 4
  · subst h4; exact do_drop x y r M P Q Qy W h id pl of u b hid hu hi hb
  by_cases h5 : kd = 5
  · subst h5; exact do_copy x y r M P Q Qy W h id pl of u b hid hu hi hb
  exact do_none x y r M P Q Qy W h kd id pl of u b h0 h1 h2 h3 h4 h5 hu hi
set_option maxRecDepth 100000 in
theorem boxes_any (r : Int) (v : Value) (L : List OpR) (W : World) (hv : OpsV W v L) :
    Calls Try.prog 5 #[.int .i64 r, v] W fun e w' => e = .returned (.bool true) ∧ Later W w' := by
  have HG := Lib.hid (great_any v L W hv)
  obtain ⟨ao, cap, rfl, hv⟩ := hv
  obtain ⟨n, hn⟩ : ∃ n, Hid (L.length = n) := ⟨_, Lib.hid rfl⟩
  rw [hn.out] at HG ⊢
  replace hv := Lib.hid hv
  go_enter Try.func5, Try.ntmps5
  go_wp2_with fail
  refine HG.out.mono ?_
  rintro e w1 ⟨cc, rfl, hw1, hgr⟩
  obtain rfl : W = w1 := hw1.symm
  cases cc with
  | true =>
    go_wp2_with fail
    go_ret
    exact ⟨rfl, Later.refl _⟩
  | false =>
    obtain ⟨hn2, hbl⟩ := hgr rfl
    rw [hn.out] at hn2
    replace hbl := Lib.hid hbl
    by_cases hr : 1 ≤ r ∧ r ≤ 64
    · have HN := Lib.hid (new_st r W hr)
      go_wp2_with fail
      refine HN.out.mono ?_
      rintro e w2 ⟨x, rfl, hbx, hl2⟩
      have HR := Lib.hid (refnew_yes r w2 hr)
      replace hbx := Lib.hid hbx
      go_wp2_with fail
      refine HR.out.mono ?_
      rintro e w3 ⟨y, rfl, hdb, hl3⟩
      have hp3 : Hid (DoPre w3 x y r (fun _ => none) [] (fun k => k < W.heap.size ∨ (w2.heap.size ≤ k ∧ k < w3.heap.size)) (fun k => w2.heap.size ≤ k ∧ k < w3.heap.size)) := Lib.hid ⟨hbx.out.later hl3, hdb, fun k hk => .inr hk, BOk.nil, Nat.zero_le _, fun q hq => by cases hq⟩
      have hs2 := hl2.size
      have hl23 := Lib.hid (hl2.trans hl3)
      have hq3 : Hid (∀ k, (w2.heap.size ≤ k ∧ k < w3.heap.size) → W.heap.size ≤ k) := Lib.hid (fun k hk => by omega)
      clear HG HN HR hbx hdb hl2 hl3
      go_upto_region 10 with fail
      go_loopg [5, 42] (n + 1) (fun gg xs s wr => ∃ (i x : Nat) (M : Bx) (P : List Pv) (Q Qy : Nat → Prop), gg = n + 1 - i ∧ i ≤ n ∧ s = .int .i64 i ∧ xs = wp x ∧ Hid (DoPre wr x y r M P Q Qy) ∧ Hid (∀ k, k < W.heap.size → Q k) ∧ Hid (∀ k, Qy k → W.heap.size ≤ k) ∧ P.length ≤ i ∧ Hid (Later W wr))
      case atStart => exact ⟨0, x, _, [], _, _, by omega, Nat.zero_le _, rfl, rfl, hp3, Lib.hid (fun k hk => .inl hk), hq3, Nat.zero_le _, hl23⟩
      case round =>
        clear hp3 hq3 hl23
        obtain ⟨i, x, M, P, Q, Qy, rfl, hin, rfl, rfl, hp, hQ, hQy, hPl, hl⟩ := hrel
        by_cases hi : i < n
        · have hii : (i : Int) < (n : Int) := by omega
          obtain ⟨q, hq⟩ : ∃ q, L[i]? = some q := ⟨L[i]'(by rw [hn.out]; exact hi), List.getElem?_eq_getElem _⟩
          obtain ⟨g, o, u, rfl, hid, c0, c1, c2, c3, c4, hu⟩ := hv.out i q hq
          have hul := hu.lt
          have HD := Lib.hid (do_any x y r M P Q Qy wr hp.out q u hid (hu.later hl.out) (hul.mono (fun k hk => ⟨hQ.out k hk, fun h => by have := hQy.out k h; have hk : k < W.heap.size := hk; omega⟩)) (hbl.out q (List.mem_of_getElem? hq)))
          obtain ⟨au, cu, rfl⟩ := bytV_form hu
          unfold opA at HD
          obtain ⟨z0, hz0⟩ : ∃ z, Hid (q.kind = z) := ⟨_, Lib.hid rfl⟩
          obtain ⟨z1, hz1⟩ : ∃ z : Int, Hid ((q.id : Int) = z) := ⟨_, Lib.hid rfl⟩
          obtain ⟨z2, hz2⟩ : ∃ z, Hid (q.pl = z) := ⟨_, Lib.hid rfl⟩
          obtain ⟨z3, hz3⟩ : ∃ z, Hid (q.of = z) := ⟨_, Lib.hid rfl⟩
          obtain ⟨z4, hz4⟩ : ∃ z, Hid (q.b.length = z) := ⟨_, Lib.hid rfl⟩
          rw [hz0.out, hz1.out, hz2.out, hz3.out, hz4.out] at HD
          rw [hz0.out] at c0
          rw [hz1.out] at c1
          rw [hz2.out] at c2
          rw [hz3.out] at c3
          rw [hz4.out] at c4
          replace c0 := hl.out.cell c0
          replace c1 := hl.out.cell c1
          replace c2 := hl.out.cell c2
          replace c3 := hl.out.cell c3
          replace c4 := hl.out.cell c4
          clear hq hul hu hid
          go_wp2_with fail
          refine HD.out.mono ?_
          rintro e w4 ⟨x', rfl, ⟨Q', Qy', M', P', e1, e2, e3, e4, e5, e6, e7, e8⟩, hk⟩
          have hl4 : Hid (Later W w4) := Lib.hid (hk.later hl.out (fun k h => h.elim (hQy.out k) (fun h => by
            by_cases hlt : k < W.heap.size
            · exact absurd (hQ.out k hlt) h
            · omega)))
          have hp4 : Hid (DoPre w4 x' y r M' P' Q' Qy') := Lib.hid ⟨e1, e2, e3, e4, by omega, e6⟩
          have hQ4 : Hid (∀ k, k < W.heap.size → Q' k) := Lib.hid (fun k hk => e7 k (hQ.out k hk))
          have hQy4 : Hid (∀ k, Qy' k → W.heap.size ≤ k) := Lib.hid (fun k hk => (e8 k hk).elim (hQy.out k) (fun h => Nat.le_trans hl.out.size h))
          clear e1 e2 e3 e4 e6 e7 e8 hk HD c0 c1 c2 c3 c4
          go_wp2_with fail
          go_roundg (n - i)
          case measure => omega
          case rel => exact ⟨i + 1, x', M', P', Q', Qy', by omega, by omega, by go_num, rfl, hp4, hQ4, hQy4, by omega, hl4⟩
        · obtain rfl : n = i := by omega
          have hii : ¬ (n : Int) < (n : Int) := by omega
          obtain ⟨O, hO⟩ : ∃ O, Hid (dopen (pcs P) = O) := ⟨_, Lib.hid rfl⟩
          have hOl : O.length ≤ 1000 := by rw [← hO.out]; exact Nat.le_trans (dopen_le2 P) hp.out.len
          have HX := Lib.hid (open_st2 hp.out.bx (dopen_nd (pcs P)) (dopen_keys hp.out.ok))
          rw [srtU_asc (dopen_asc _), hO.out] at HX
          have hP9' : P.length ≤ 1000000 := by omega
          have hke : Hid ((keyI O).length = O.length) := Lib.hid (keyI_len O)
          have hO64 : Hid (∀ i ∈ O, i < 18446744073709551616) := Lib.hid (fun i hi => by
            rw [← hO.out, dopen_keys hp.out.ok i] at hi
            obtain ⟨m, hm⟩ := Option.isSome_iff_exists.1 hi
            have h1 := ((hp.out.ok i).2 m hm).ne
            rw [ofL_pcs] at h1
            obtain ⟨p, hpp⟩ := List.exists_mem_of_ne_nil _ h1
            obtain ⟨q, hq, rfl⟩ := List.mem_map.1 hpp
            obtain ⟨h2, h3⟩ := List.mem_filter.1 hq
            have h4 := (hp.out.pc q h2).2.2
            have h5 : q.1.id = i := by simpa using h3
            omega)
          go_wp2_with fail
          refine HX.out.mono ?_
          rintro e w2 ⟨v2, rfl, hr2, hl2⟩
          obtain ⟨a2, q2, rfl⟩ := own_form hr2
          have HY := Lib.hid (open_ref y r P Qy w2 (hp.out.db.later hl2) hP9')
          rw [hO.out] at HY
          replace hr2 := Lib.hid hr2
          go_wp2_with fail
          refine HY.out.mono ?_
          rintro e w3 ⟨v3, rfl, hr3, hl3⟩
          obtain ⟨a3, q3, rfl⟩ := own_form hr3
          have HN := Lib.hid (numbers_same (.slice a2 O.length q2) (.slice a3 O.length q3) (keyI O) _ _ w3 (by rw [hke.out]; exact row_later hr2.out hl3) (by rw [hke.out]; exact hr3) (by rw [hke.out]; omega))
          have hl3' := hl2.trans hl3
          have hr2b := Lib.hid (row_later hr2.out hl3)
          clear HX HY hr3 hl2 hl3 hr2
          go_wp2_with fail
          refine HN.out.mono ?_
          rintro e w4 ⟨rfl, hl4⟩
          have hl4' := hl3'.trans hl4
          have hr4 := Lib.hid (row_later hr2b.out hl4)
          have HH := Lib.hid (held_st (hp.out.bx.later hl4') (dopen_nd (pcs P)) (dopen_keys hp.out.ok))
          rw [sumM_same hp.out.ok] at HH
          obtain ⟨s, hs⟩ : ∃ s, Hid (sumL (pcs P) = s) := ⟨_, Lib.hid rfl⟩
          rw [hs.out] at HH
          clear hl4 hr2b hl3'
          go_wp2_with fail
          refine HH.out.mono ?_
          rintro e w5 ⟨rfl, hl5⟩
          have HG := Lib.hid (held_ref y r P Qy w5 ((hp.out.db.later hl4').later hl5) hP9' hp.out.pc.le)
          rw [hs.out] at HG
          replace hl5 := Lib.hid hl5
          replace hl4' := Lib.hid hl4'
          go_wp2_with fail
          refine HG.out.mono ?_
          rintro e w6 ⟨rfl, hl6⟩
          have hl6' := Lib.hid ((hl4'.out.trans hl5.out).trans hl6)
          have hr6 := Lib.hid (row_later hr4.out (hl5.out.trans hl6))
          have hss : ((s : Int) != (s : Int)) = false := by simp
          obtain ⟨m, hm⟩ : ∃ m, Hid (O.length = m) := ⟨_, Lib.hid rfl⟩
          rw [hm.out] at hOl hke hr6 ⊢
          clear hl5 hl6 hl4' hr4 HN HH HG
          go_upto_region 21 with fail
          go_loopg [75] (m + 1) (fun gg s wv => ∃ k : Nat, gg = m + 1 - k ∧ k ≤ m ∧ s = .int .i64 k ∧ Hid (Later w6 wv))
          case atStart => exact ⟨0, by omega, Nat.zero_le _, rfl, Lib.hid (Later.refl _)⟩
          case round =>
            rename World => wq
            obtain ⟨k, rfl, hkm, rfl, hlq⟩ := hrel
            by_cases hk : k < m
            · have hkk : (k : Int) < (m : Int) := by omega
              obtain ⟨g, rfl, cg⟩ := own_cell (row_later hr6.out hlq.out) hke.out hk
              obtain ⟨i, hi⟩ : ∃ i, O[k]? = some i := ⟨O[k]'(by rw [hm.out]; exact hk), List.getElem?_eq_getElem _⟩
              rw [keyI_at hi] at cg
              have hi64 := hO64.out i (List.mem_of_getElem? hi)
              have hlr := hl6'.out.trans hlq.out
              have HX := Lib.hid (missing_st i hi64 (hp.out.bx.later hlr))
              rw [missF_same hp.out.ok] at HX
              obtain ⟨F, hF⟩ : ∃ F, Hid (missF (ofP P i) = F) := ⟨_, Lib.hid rfl⟩
              have hFl : F.length ≤ 4096 := by rw [← hF.out]; exact missF_le hp.out.pc i
              have HY := Lib.hid (fun V (hV : Later wq V) => miss_ref y i r P Qy V ((hp.out.db.later hlr).later hV) hP9' (fun q hq => (hp.out.pc q hq).2.1))
              rw [hF.out] at HX HY
              obtain ⟨J, hJ⟩ : ∃ J : Int, Hid ((i : Int) = J) := ⟨_, Lib.hid rfl⟩
              rw [hJ.out] at HX HY cg
              clear hi hi64 hlr
              go_wp2_with fail
              refine HX.out.mono ?_
              rintro e w7 ⟨v7, rfl, hr7, hl7⟩
              obtain ⟨a7, q7, rfl⟩ := own_form hr7
              have HY7 := Lib.hid (HY.out w7 hl7)
              replace hr7 := Lib.hid hr7
              clear HX HY
              go_wp2_with fail
              refine HY7.out.mono ?_
              rintro e w8 ⟨v8, rfl, hr8, hl8⟩
              obtain ⟨a8, q8, rfl⟩ := own_form hr8
              have HI := Lib.hid (ints21_same (.slice a7 F.length q7) (.slice a8 F.length q8) F w8 ((numV_of hr7.out).later hl8) (numV_of hr8) (by omega))
              have hl8' := Lib.hid ((hlq.out.trans hl7).trans hl8)
              clear HY7 hr8 hl7 hl8 hr7 cg
              go_wp2_with fail
              refine HI.out.mono ?_
              rintro e w9 ⟨rfl, hl9⟩
              have hl9' := Lib.hid (hl8'.out.trans hl9)
              clear HI hl9 hl8'
              go_wp2_with fail
              go_roundg (m - k)
              case measure => omega
              case rel => exact ⟨k + 1, by omega, by omega, by go_num, hl9'⟩
            · obtain rfl : m = k := by omega
              have hkk : ¬ (m : Int) < (m : Int) := by omega
              have hend := Lib.hid (hl.out.trans (hl6'.out.trans hlq.out))
              go_wp2_with fail
              go_ret
              exact ⟨rfl, hend.out⟩
    · have HN := Lib.hid (new_no r W hr)
      go_wp2_with fail
      refine HN.out.mono ?_
      rintro e w2 ⟨rfl, hl2⟩
      have HR := Lib.hid (refnew_no r w2 hr)
      go_wp2_with fail
      refine HR.out.mono ?_
      rintro e w3 ⟨rfl, hl3⟩
      have hl23 := Lib.hid (hl2.trans hl3)
      clear HN HR hl2 hl3
      go_wp2_with fail
      go_ret
      exact ⟨rfl, hl23.out⟩
end Go.Proofs.Ytjelfiljebamgaa
