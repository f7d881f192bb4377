/-
  Chapter 2: numbers of 128 bits: the walks of Add and Div (by 65536).
-/
import Derived.Laws.Rows
import Derived.Deep.DeepCutAuto
import Derived.Test.YtackbajbladhhaaWdD
import Derived.Test.YtackbajbladhhaaBgA
namespace Go.Proofs.Ytackbajbladhhaa
open Go.RowKit Go.Shelf
set_option linter.unusedVariables false
set_option linter.unusedSimpArgs false
attribute [local go_sem] Oper.semAt_some

theorem Later.frozen' {w w' : World} (h : Later w w') {b o : Nat} (hb : b < w.heap.size) : w'.frozen? ⟨b, o, none⟩ = w.frozen? ⟨b, o, none⟩ := Below.frozen (p := ⟨b, o, none⟩) h hb
/-- A number of two words in a block of the call's own. -/
def NewW (X : World) (h l : Int) (u : Value) (wx : World) : Prop := ∃ Q, u = .pointer (some ⟨Q, 0, none⟩) ∧ Later X wx ∧ X.heap.size ≤ Q ∧ wx.heap[Q]? = some (.cells #[.int .i64 h, .int .u64 l] 107 (0, 0))
theorem newW_one {X V : World} {h l : Int} (hl : Later X V) : NewW X h l (.pointer (some ⟨V.heap.size, 0, none⟩)) (V.alloc (.cells #[.int .i64 h, .int .u64 l] 107)) :=
  ⟨_, rfl, hl.alloc _, hl.size, heap_alloc_new _ _⟩
theorem newW_two {X V : World} {h l : Int} {a b : Value} (hl : Later X V) (h2 : Later (X.alloc (.cells #[a, b] 107)).drew V) :
    NewW X h l (.pointer (some ⟨X.heap.size, 0, none⟩)) ((V.setCell ⟨X.heap.size, 0, none⟩ (.int .i64 h)).setCell ⟨X.heap.size, 1, none⟩ (.int .u64 l)) := by
  refine ⟨_, rfl, (hl.setCell (Nat.le_refl _) _).setCell (Nat.le_refl _) _, Nat.le_refl _, ?_⟩
  have h0 : V.heap[X.heap.size]? = some (.cells #[a, b] 107 (0, 0)) := (h2.block _ (by simp)).trans (heap_alloc_new _ _)
  exact heap_setC (heap_setC h0)
theorem size_k (W : World) : Calls Try.prog 80 #[.int .i64 65536] W fun e w' => e = .returned (.int .u64 65536) ∧ W = w' := size_any 65536 W (by decide)
set_option maxRecDepth 100000 in
set_option maxHeartbeats 2000000 in
theorem div_pos (x : Int) (W : World) (hx : 0 ≤ x ∧ x < 170141183460469231731687303715884105728) :
    Calls Try.prog 61 #[wdV x, .int .i64 65536] W fun e w' => e = .returned (.tuple #[wdV (x / 65536), .int .i64 (x % 65536), .int .i64 0]) ∧ Later W w' := by
  have hb2 : ¬ hiW x < 0 := by rw [hiW_eq]; omega
  have hP := fun w => parts_any x w hx
  have hq2 : ¬ hiW (x / 65536) < 0 := by rw [hiW_eq]; omega
  obtain ⟨d, hd⟩ : ∃ d, Hid (x / 65536 = d) := ⟨_, rfl⟩
  obtain ⟨m, hm⟩ : ∃ d, Hid (x % 65536 = d) := ⟨_, rfl⟩
  have hmb : 0 ≤ m ∧ m < 65536 := by have := hm.out; omega
  rw [hd.out] at hP hq2 ⊢
  rw [hm.out] at hP ⊢
  obtain ⟨h1, e1⟩ : ∃ h, Hid (hiW x = h) := ⟨_, rfl⟩
  obtain ⟨l1, f1⟩ : ∃ h, Hid (loW x = h) := ⟨_, rfl⟩
  simp only [wdV] at hP ⊢
  rw [e1.out, f1.out] at hP ⊢
  rw [e1.out] at hb2
  obtain ⟨h2, e2⟩ : ∃ h, Hid (hiW d = h) := ⟨_, rfl⟩
  obtain ⟨l2, f2⟩ : ∃ h, Hid (loW d = h) := ⟨_, rfl⟩
  rw [e2.out, f2.out] at hP ⊢
  rw [e2.out] at hq2
  go_enter Try.func61, Try.ntmps61
  go_wp2_with fail
  obtain ⟨X, hX⟩ : ∃ X, X = ((W.alloc (.cells #[.int .i64 h1, .int .u64 l1] 107)).alloc (.cells #[.int .i64 0, .int .u64 0] 107)).alloc (.cells #[.int .i64 h1, .int .u64 l1] 107) := ⟨_, rfl⟩
  have q0 : X.cell? ⟨W.heap.size + 1 + 1, 0, none⟩ = some (.int .i64 h1) := by rw [hX]; go_simp
  have q1 : X.cell? ⟨W.heap.size + 1 + 1, 1, none⟩ = some (.int .u64 l1) := by rw [hX]; go_simp
  have hl : Later W X := by rw [hX]; exact (((Later.refl W).alloc _).alloc _).alloc _
  have hs : X.heap.size = W.heap.size + 1 + 1 + 1 := by rw [hX]; simp
  rw [← hX]
  obtain ⟨P, hP2⟩ : ∃ P, Hid (W.heap.size + 1 + 1 = P) := ⟨_, rfl⟩
  have hPW : W.heap.size ≤ P := by have := hP2.out; omega
  rw [hP2.out] at q0 q1 ⊢
  have r0 : X.cell? ⟨W.heap.size + 1, 0, none⟩ = some (.int .i64 0) := by rw [hX]; go_simp
  have r1 : X.cell? ⟨W.heap.size + 1, 1, none⟩ = some (.int .u64 0) := by rw [hX]; go_simp
  have rf : ∀ o, X.frozen? ⟨W.heap.size + 1, o, none⟩ = false := by rw [hX]; intro o; go_simp
  have hRX : W.heap.size + 1 < X.heap.size := by omega
  obtain ⟨R, hR⟩ : ∃ R, Hid (W.heap.size + 1 = R) := ⟨_, rfl⟩
  have hRW : W.heap.size ≤ R := by have := hR.out; omega
  rw [hR.out] at r0 r1 rf hRX ⊢
  have hXW : W.heap.size ≤ X.heap.size := hl.size
  clear hX
  have hPX : P < X.heap.size := by have := hP2.out; omega
  replace hs := Lib.hid hs
  go_cut [9, 10] from 21 to 27 (fun u v wx => NewW X h2 l2 u wx ∧ v = .int .u64 m)
  case first =>
    go_region_held3 (fun V => V.cell? ⟨P, 0, none⟩ = some (.int .i64 h1) ∧ V.cell? ⟨P, 1, none⟩ = some (.int .u64 l1)) ((go_split_ands; (repeat' apply And.intro) <;> first | assumption | exact (Later.refl _).drew.cell (by assumption) | exact ((Later.refl _).alloc _).cell (by assumption) | exact cell_setCell_o (cell_setCell_o (by assumption) (by omega)) (by omega) | exact Later.cell hL (by assumption))) (first | (go_at_call 80; refine (size_k _).mono ?_; rintro e V0 ⟨rfl, rfl⟩) | (go_at_call 79; refine (hP _).mono ?_; rintro e V1 ⟨rfl, hL⟩; have hL2 := hL; have hL1 : Later X V1 := (by first | exact (Later.refl X).drew.trans hL | exact ((Later.refl X).alloc _).drew.trans hL); have kq0 := hL1.cell q0; have kq1 := hL1.cell q1; obtain ⟨hc1, hf1⟩ := bcell hL))
    all_goals
      rename_i JJ KK hj hk hh; refine hk _ _ (Met.intro (hj _ _ ?_)); (repeat apply Exists.intro)
      refine ⟨⟨?_, rfl⟩, rfl⟩
      first
        | exact newW_one hL1
        | exact newW_two hL1 hL2
  case rest =>
    obtain ⟨⟨Q, rfl, hlQ, hQ, kQ⟩, rfl⟩ := hcut
    have t0 := cell_of_row _ Q 0 _ _ _ kQ
    have t1 := cell_of_row _ Q 1 _ _ _ kQ
    simp only [List.getElem?_toArray, List.getElem?_cons_zero, List.getElem?_cons_succ] at t0 t1
    have kr0 := hlQ.cell r0
    have kr1 := hlQ.cell r1
    have krf := fun o => (hlQ.frozen' (o := o) hRX).trans (rf o)
    have hRQ : R < Q := by omega
    go_wp2_with fail
    refine bodyPost_ret (v := .tuple #[.agg #[.int .i64 h2, .int .u64 l2], .int .i64 m, .int .i64 0]) ?_ rfl ⟨rfl, ?_⟩
    · simp only [results]; go_simp
    · exact ((hl.trans hlQ).setCell hRW _).setCell hRW _
end Go.Proofs.Ytackbajbladhhaa
