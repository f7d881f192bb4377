/-
  Chapter 23, the document's answer: a tick.
-/
import Derived.Test.YtaaohfocegnlkaaBtV
namespace Go.Proofs.Ytaaohfocegnlkaa
open Go.RowKit Go.Shelf
set_option linter.unusedVariables false
set_option linter.unusedSimpArgs false
attribute [local go_sem] Oper.semAt_some

theorem RB.setNow {W : World} {b lb bb N : Nat} {s p now : Int} {last : Nat → Int} {bad : Nat → Bool} (h : RB W b lb bb N s p now last bad) (v : Int) :
    RB (W.setCell ⟨b, 3, none⟩ (.int .i64 v)) b lb bb N s p v last bad :=
  ⟨(heap_set W b 3 _ _ _ _ h.head).trans rfl, (heap_set_o _ _ _ _ _ (fun e => h.ne1 e.symm)).trans h.rowL, (heap_set_o _ _ _ _ _ (fun e => h.ne2 e.symm)).trans h.rowB, h.ne1, h.ne2, h.ne3⟩
theorem RB.extB {W : World} {b lb bb N : Nat} {s p now : Int} {last : Nat → Int} {bad bad' : Nat → Bool} (h : RB W b lb bb N s p now last bad) (e : ∀ k, k < N → bad k = bad' k) : RB W b lb bb N s p now last bad' :=
  ⟨h.head, h.rowL, by rw [h.rowB]; congr 3; exact List.map_congr_left (fun k hk => by rw [e k (List.mem_range.1 hk)]), h.ne1, h.ne2, h.ne3⟩
theorem RB.extL {W : World} {b lb bb N : Nat} {s p now : Int} {last last' : Nat → Int} {bad : Nat → Bool} (h : RB W b lb bb N s p now last bad) (e : ∀ k, k < N → last k = last' k) : RB W b lb bb N s p now last' bad :=
  ⟨h.head, h.rowL.ext e, h.rowB, h.ne1, h.ne2, h.ne3⟩
theorem RB.lt {W : World} {b lb bb N : Nat} {s p now : Int} {last : Nat → Int} {bad : Nat → Bool} (h : RB W b lb bb N s p now last bad) : b < W.heap.size ∧ lb < W.heap.size ∧ bb < W.heap.size :=
  ⟨(Array.getElem?_eq_some_iff.1 h.head).1, h.rowL.lt, (Array.getElem?_eq_some_iff.1 h.rowB).1⟩
theorem RB.grown {W W' : World} {b lb bb N : Nat} {s p now : Int} {last : Nat → Int} {bad : Nat → Bool} {row : Option Nat} (h : RB W b lb bb N s p now last bad) (hg : W.grownBy W' row) (h1 : some b ≠ row) (h2 : some lb ≠ row) (h3 : some bb ≠ row) :
    RB W' b lb bb N s p now last bad :=
  ⟨(hg.block b h.lt.1 h1).trans h.head, (hg.block lb h.lt.2.1 h2).trans h.rowL, (hg.block bb h.lt.2.2 h3).trans h.rowB, h.ne1, h.ne2, h.ne3⟩
theorem own_ge {w : World} {base e k : Nat} {v : Value} {xs : List Value} (hr : w.ownsRow base e 1 v k xs) {j : Nat} (hj : j < base) : some j ≠ v.ownBlock := by
  intro e'
  rcases hr.2 with ⟨rfl, _⟩ | ⟨g, cap, cur, rfl, hb2, _⟩
  · simp [Value.ownBlock] at e'
  · obtain rfl : g = j := by simpa [Value.ownBlock] using e'.symm
    omega
theorem Two.grown {A B C : World} {p q : Nat} {e k : Nat} {v : Value} {xs : List Value} (h : Two A B p q) (hr : B.ownsRow A.heap.size e 1 v k xs) (hg : B.grownBy C v.ownBlock) : Two A C p q :=
  ⟨hg.os.trans h.os, hg.tape.trans h.tape, hg.output.trans h.output, Nat.le_trans h.size hg.size, fun i hi h1 h2 => (hg.block i (Nat.lt_of_lt_of_le hi h.size) (own_ge hr hi)).trans (h.block i hi h1 h2)⟩

theorem row_later {w w' : World} {base e k : Nat} {v : Value} {xs : List Value} (hr : w.ownsRow base e 1 v k xs) (h : Later w w') : w'.ownsRow base e 1 v k xs := hr.kept h.grown (Classical.em _)
section
variable (N : Nat) (s p now : Int) (last : Nat → Int) (bad : Nat → Bool)
def rc (k : Nat) : Bool := isB N s k && (!bad k && decide (now = last k + p))
def rtB (i : Nat) : Nat → Bool := fun k => bad k || (decide (k < i) && rc N s p now last bad k)
def rtL (i : Nat) : List Int := ((List.range i).filter (rc N s p now last bad)).map (fun k : Nat => (k : Int))
end
section
variable {N : Nat} {s p now : Int} {last : Nat → Int} {bad : Nat → Bool}
theorem rtL_succ {i : Nat} : rtL N s p now last bad (i + 1) = rtL N s p now last bad i ++ (if rc N s p now last bad i = true then [(i : Int)] else []) := by
  unfold rtL
  rw [List.range_succ, List.filter_append, List.map_append]
  by_cases e : rc N s p now last bad i = true
  · rw [if_pos e, List.filter_cons, if_pos e]; rfl
  · rw [if_neg e, List.filter_cons, if_neg e]; rfl
theorem rtL_length (i : Nat) : (rtL N s p now last bad i).length ≤ i := by
  unfold rtL; rw [List.length_map]; exact Nat.le_trans (List.length_filter_le _ _) (by rw [List.length_range]; exact Nat.le_refl _)
theorem rtB_no {i : Nat} (h : rc N s p now last bad i = false) (k : Nat) : rtB N s p now last bad (i + 1) k = rtB N s p now last bad i k := by
  unfold rtB
  by_cases e : k = i
  · subst e; rw [h, Bool.and_false, Bool.and_false]
  · rw [show decide (k < i + 1) = decide (k < i) from by congr 1; exact propext ⟨fun h => by omega, fun h => by omega⟩]
theorem rtB_yes {i : Nat} (h : rc N s p now last bad i = true) (k : Nat) : rtB N s p now last bad (i + 1) k = if k = i then true else rtB N s p now last bad i k := by
  unfold rtB
  by_cases e : k = i
  · subst e; rw [h, if_pos rfl]; simp
  · rw [if_neg e, show decide (k < i + 1) = decide (k < i) from by congr 1; exact propext ⟨fun h => by omega, fun h => by omega⟩]
theorem rtB_at (i : Nat) : rtB N s p now last bad i i = bad i := by
  unfold rtB; simp
theorem rtB_0 (k : Nat) : rtB N s p now last bad 0 k = bad k := by
  unfold rtB; simp
end

set_option maxRecDepth 100000 in
set_option maxHeartbeats 2000000 in
theorem rTick_any (b lb bb N : Nat) (s p now0 : Int) (last : Nat → Int) (bad : Nat → Bool) (W : World) (h : RB W b lb bb N s p now0 last bad) (hN : N ≤ 64) (hp : 4 ≤ p ∧ p ≤ 1000) (hnow : 0 ≤ now0 ∧ now0 ≤ 100000) (hlast : ∀ k, k < N → 0 ≤ last k ∧ last k ≤ 100000) :
    Calls Try.prog 18 #[wp b] W fun e w' => ∃ v, e = .returned v ∧ IntsV w' v (rtL N s p (now0 + 1) last bad N) ∧ RB w' b lb bb N s p (now0 + 1) last (rtB N s p (now0 + 1) last bad N) ∧ Two W w' b bb := by
  obtain ⟨i0, hi0, hz0, hz1, hz2⟩ := info_parts info_int
  have c3 : W.cell? ⟨b, 3, none⟩ = some (.int .i64 now0) := h.cell 3
  have f3 : W.frozen? ⟨b, 3, none⟩ = false := by simp [World.frozen?, h.head]
  obtain ⟨now, hnw⟩ : ∃ n, Hid (now0 + 1 = n) := ⟨_, rfl⟩
  have hlast := Lib.hid hlast
  rw [hnw.out]
  have hnow1 : 1 ≤ now ∧ now ≤ 100001 := by have := hnw.out; omega
  go_enter Try.func18, Try.ntmps18
  go_wp2_with fail
  rw [hnw.out]
  have hR0 := h.setNow now
  have hT0 : Two W (W.setCell ⟨b, 3, none⟩ (.int .i64 now)) b bb := Two.set1 _
  obtain ⟨X, hX⟩ : ∃ X, X = W.setCell ⟨b, 3, none⟩ (.int .i64 now) := ⟨_, rfl⟩
  rw [← hX] at hR0 hT0 ⊢
  have hbW := h.lt
  clear hX c3 f3 h
  go_loopw [3, 4] (fun o y wr => ∃ i : Nat, i ≤ N ∧ y = .int .i64 i ∧ wr.ownsRow W.heap.size 3 1 o (rtL N s p now last bad i).length (encI (rtL N s p now last bad i)) ∧ RB wr b lb bb N s p now last (rtB N s p now last bad i) ∧ Two W wr b bb) (fun _ y _ => (5000 - intOf y).toNat)
  case atStart => exact ⟨0, by omega, rfl, World.ownsRow_nil _ _ _ _, hR0.extB (fun k _ => (rtB_0 k).symm), hT0⟩
  case round =>
    obtain ⟨i, hi, rfl, hrow, hR, hT⟩ := hrel
    obtain ⟨wo, rfl⟩ : ∃ wo : World, wo = wr := ⟨_, rfl⟩
    have c1 : wo.cell? ⟨b, 1, none⟩ = some (.int .i64 N) := hR.cell 1
    by_cases hin : i < N
    · have HI := Lib.hid (is_any b lb bb N s p now i last _ wo hR)
      have hl2 := hlast.out i hin
      cases hI : isB N s i with
      | false =>
        have hrc : rc N s p now last bad i = false := by unfold rc; rw [hI]; rfl
        rw [show decide (0 ≤ (i : Int) ∧ (i : Int) < N ∧ (i : Int) ≠ s) = false from hI] at HI
        go_wp2_with fail
        refine HI.out.mono ?_
        rintro e w1 ⟨rfl, h1⟩
        replace hR := hR.later h1
        replace hT := hT.trans (Two.of_later h1)
        replace hrow := row_later hrow h1
        clear hI HI
        go_wp2_with fail
        go_quiet (fail)
        go_wp2_with fail
        go_roundw
        case rel =>
          refine ⟨i + 1, by omega, by go_num, ?_, ?_, hT.trans (Two.of_later ((Later.refl _).drewN _))⟩
          · rw [rtL_succ, if_neg (by rw [hrc]; decide), List.append_nil]; exact hrow
          · exact (hR.later ((Later.refl _).drewN _)).extB (fun k _ => (rtB_no hrc k).symm)
        case measure => simp [intOf]; omega
      | true =>
        rw [show decide (0 ≤ (i : Int) ∧ (i : Int) < N ∧ (i : Int) ≠ s) = true from hI] at HI
        go_wp2_with fail
        refine HI.out.mono ?_
        rintro e w1 ⟨rfl, h1⟩
        replace hR := hR.later h1
        replace hT := hT.trans (Two.of_later h1)
        replace hrow := row_later hrow h1
        clear HI
        have c2 : w1.cell? ⟨b, 2, none⟩ = some (.int .i64 p) := hR.cell 2
        have c3 : w1.cell? ⟨b, 3, none⟩ = some (.int .i64 now) := hR.cell 3
        have c4 : w1.cell? ⟨b, 4, none⟩ = some (.slice (some ⟨lb, 0, none⟩) N N) := hR.cell 4
        have c5 : w1.cell? ⟨b, 5, none⟩ = some (.slice (some ⟨bb, 0, none⟩) N N) := hR.cell 5
        have cl := hR.rowL.cell (k := i) hin
        have cb : w1.cell? ⟨bb, i, none⟩ = some (.bool (bad i)) := by
          rw [cell_of_row w1 bb i _ _ _ hR.rowB, ← rtB_at (N := N) (s := s) (p := p) (now := now) (last := last) (bad := bad) i]; simp [hin]
        have fb : w1.frozen? ⟨bb, i, none⟩ = false := by simp [World.frozen?, hR.rowB]
        obtain ⟨lk, hlk⟩ : ∃ l, Hid (last i = l) := ⟨_, rfl⟩
        rw [hlk.out] at cl hl2
        have hrcE : rc N s p now last bad i = (!bad i && decide (now = lk + p)) := by unfold rc; rw [hI, hlk.out]; rfl
        have hinZ : (i : Int) < (N : Int) := by omega
        clear hI
        cases hb : bad i with
        | true =>
          have hrc : rc N s p now last bad i = false := by rw [hrcE, hb]; rfl
          rw [hb] at cb
          clear hrcE hb
          go_wp2_with fail
          go_quiet (fail)
          go_wp2_with fail
          go_roundw
          case rel =>
            refine ⟨i + 1, by omega, by go_num, ?_, ?_, hT.trans (Two.of_later ((Later.refl _).drewN _))⟩
            · rw [rtL_succ, if_neg (by rw [hrc]; decide), List.append_nil]; exact hrow
            · exact (hR.later ((Later.refl _).drewN _)).extB (fun k _ => (rtB_no hrc k).symm)
          case measure => simp [intOf]; omega
        | false =>
          rw [hb] at cb
          have hwr : IntKind.i64.wrap (lk + p) = lk + p := by rw [IntKind.wrap_i64]; omega
          by_cases hc : now = lk + p
          · have hrc : rc N s p now last bad i = true := by rw [hrcE, hb, decide_eq_true hc]; rfl
            have hcB : (now == lk + p) = true := by simp [hc]
            clear hrcE hb hc
            go_wp2_with fail
            go_quiet (fail)
            have hl2 : Later w1 (w1.drewN nq) := (Later.refl _).drewN _
            obtain ⟨w2, hw2⟩ : ∃ w, w = w1.drewN nq := ⟨_, rfl⟩
            rw [← hw2] at hl2 ⊢
            replace hR := hR.later hl2
            replace hT := hT.trans (Two.of_later hl2)
            replace hrow := row_later hrow hl2
            clear hw2 c1 c2 c3 c4 cl
            replace c5 := hl2.cell c5
            replace fb := hl2.frozen cb fb
            replace cb := hl2.cell cb
            go_upto_region 9 with fail
            have hR3 := hR.setB hin true
            have hT3 := hT.trans (Two.set2 (W := w2) (p := b) (q := bb) (j := i) (.bool true))
            have hrow3 := ownsRow_setCell_below hrow (a := ⟨bb, i, none⟩) (show bb < _ from hbW.2.2) (.bool true)
            obtain ⟨X3, hX3⟩ : ∃ X, X = w2.setCell ⟨bb, i, none⟩ (.bool true) := ⟨_, rfl⟩
            rw [← hX3] at hR3 hT3 hrow3 ⊢
            clear hX3 c5 fb cb hR hT hrow h1 hl2
            have hls : rtL N s p now last bad (i + 1) = rtL N s p now last bad i ++ [(i : Int)] := by rw [rtL_succ, if_pos hrc]
            have hll := rtL_length (N := N) (s := s) (p := p) (now := now) (last := last) (bad := bad) i
            have hR4 := hR3.extB (bad' := rtB N s p now last bad (i + 1)) (fun k _ => (rtB_yes hrc k).symm)
            obtain ⟨B4, hB4⟩ : ∃ B, rtB N s p now last bad (i + 1) = B := ⟨_, rfl⟩
            obtain ⟨F, hF⟩ : ∃ F, rtL N s p now last bad i = F := ⟨_, rfl⟩
            rw [hF] at hrow3 hls hll
            have hB4 := Lib.hid hB4
            rw [hB4.out] at hR4
            clear hF hR3 hrc
            have hML : 4096 < maxLen := by decide
            have hsz := hT3.size
            go_wp2_with (at_builtin; refine wpList_append_own _ rfl _ _ 26 rfl W.heap.size 3 i0 (.int .i64 0) 1 8 Try.underlying26 hi0 hz0 hz1 hz2 rfl (by decide) _ _ _ rfl (hrow3.alloc _) ⟨X3.heap.size, 0, none⟩ 1 1 [.int .i64 i] rfl rfl (World.news_of_block (heap_alloc_new _ _)) (by simp [Value.oneCell']) (by omega) (by omega) (by simp; omega) ?_; intro v' w8 hown' hgrow _)
            have hla : Later X3 (X3.alloc (.cells #[.int .i64 i] 3)) := (Later.refl _).alloc _
            have hg := hrow3.alloc (.cells #[.int .i64 i] 3)
            go_roundw
            case rel =>
              refine ⟨i + 1, by omega, by go_num, ?_, ?_, ?_⟩
              · rw [hls]; unfold encI at hown' ⊢; rw [List.map_append, List.length_append]; exact hown'
              · rw [hB4.out]; exact (hR4.later hla).grown hgrow (own_ge hg hbW.1) (own_ge hg hbW.2.1) (own_ge hg hbW.2.2)
              · exact (hT3.trans (Two.of_later hla)).grown hg hgrow
            case measure => simp [intOf]; omega
          · have hrc : rc N s p now last bad i = false := by rw [hrcE, hb, decide_eq_false hc]; rfl
            have hcB : (now == lk + p) = false := by simp [hc]
            clear hrcE hb hc
            go_wp2_with fail
            go_quiet (fail)
            go_wp2_with fail
            go_roundw
            case rel =>
              refine ⟨i + 1, by omega, by go_num, ?_, ?_, hT.trans (Two.of_later ((Later.refl _).drewN _))⟩
              · rw [rtL_succ, if_neg (by rw [hrc]; decide), List.append_nil]; exact hrow
              · exact (hR.later ((Later.refl _).drewN _)).extB (fun k _ => (rtB_no hrc k).symm)
            case measure => simp [intOf]; omega
    · obtain rfl : i = N := by omega
      go_wp2_with fail
      go_ret
      exact ⟨_, rfl, intsV_of_row hrow, hR, hT⟩
end Go.Proofs.Ytaaohfocegnlkaa
