/-
  Chapter 28, the document's answer: two messages that are the same.
-/
import Derived.Test.YtjelfiljebamgaaNdB
namespace Go.Proofs.Ytjelfiljebamgaa
open Go.RowKit Go.Shelf
set_option linter.unusedVariables false
set_option linter.unusedSimpArgs false
attribute [local go_sem] Oper.semAt_some

set_option maxRecDepth 100000 in
theorem ints_same (u v : Value) (L : List Int) (W : World) (hu : IntsV W u L) (hv : IntsV W v L) (hL : L.length ≤ 1000000) :
    Calls Try.prog 74 #[u, v] W fun e w' => e = .returned (.bool true) ∧ Later W w' := by
  obtain ⟨ao, cap, rfl, hcu⟩ := hu
  obtain ⟨bo, cbp, rfl, hcv⟩ := hv
  obtain ⟨n, hn⟩ : ∃ n, Hid (L.length = n) := ⟨_, rfl⟩
  rw [hn.out] at hL
  have h1 : Hid (∀ k, k < n → ∃ g o, ao = some ⟨g, o, none⟩ ∧ W.cell? ⟨g, o + k, none⟩ = some (.int .i64 (L.getD k 0))) := Lib.hid (by rw [← hn.out]; exact hcu)
  have h2 : Hid (∀ k, k < n → ∃ g o, bo = some ⟨g, o, none⟩ ∧ W.cell? ⟨g, o + k, none⟩ = some (.int .i64 (L.getD k 0))) := Lib.hid (by rw [← hn.out]; exact hcv)
  rw [hn.out]
  clear hcu hcv
  go_enter Try.func74, Try.ntmps74
  go_wp2_with fail
  go_loopg [5] (n + 1) (fun g y wr => Later W wr ∧ ∃ (i : Nat), g = n + 1 - i ∧ i ≤ n ∧ y = .int .i64 i)
  case atStart => exact ⟨Later.refl _, 0, by omega, Nat.zero_le _, rfl⟩
  case round =>
    obtain ⟨hl, i, rfl, hin, rfl⟩ := hrel
    obtain ⟨wo, rfl⟩ : ∃ wo : World, wo = wr := ⟨_, rfl⟩
    by_cases hi : i < n
    · have hii : (i : Int) < (n : Int) := by omega
      obtain ⟨g, o, rfl, hc⟩ := h1.out i hi
      obtain ⟨g2, o2, rfl, hc2⟩ := h2.out i hi
      obtain ⟨x, hx⟩ : ∃ x, Hid (L.getD i 0 = x) := ⟨_, rfl⟩
      rw [hx.out] at hc hc2
      replace hc := hl.cell hc
      replace hc2 := hl.cell hc2
      go_wp2_with fail
      go_quiet (fail)
      obtain ⟨w2, hw2⟩ : ∃ X, X = wo.drewN nq := ⟨_, rfl⟩
      have hl2 : Later W w2 := by rw [hw2]; exact hl.drewN _
      rw [← hw2]
      clear hw2
      go_wp2_with fail
      go_roundg (n - i)
      case measure => omega
      case rel => exact ⟨hl2, i + 1, by omega, by omega, by go_num⟩
    · obtain rfl : n = i := by omega
      have hii : ¬ (n : Int) < (n : Int) := by omega
      go_wp2_with fail
      go_ret
      exact ⟨rfl, hl⟩
set_option maxRecDepth 100000 in
theorem same_yes (k eN eB : Int) (um vm : Value) (fr ro mf mt sf st : Int) (ud vd : Value) (Ms D : List Int) (W : World) (hm : IntsV W um Ms) (hm' : IntsV W vm Ms) (hd : BytV W ud D) (hd' : BytV W vd D) (hml : Ms.length ≤ 1000000) :
    Calls Try.prog 39 #[msV k eN eB um fr ro mf mt sf st ud, msV k eN eB vm fr ro mf mt sf st vd] W fun e w' => e = .returned (.bool true) ∧ Later W w' := by
  obtain ⟨am, cm, hume⟩ := intsV_form hm
  obtain ⟨ad, cd, hude⟩ := bytV_form hd
  obtain ⟨am', cm', hume'⟩ := intsV_form hm'
  obtain ⟨ad', cd', hude'⟩ := bytV_form hd'
  have hl2 : Later W ((W.alloc (.cells (msC k eN eB um fr ro mf mt sf st ud) 88)).alloc (.cells (msC k eN eB vm fr ro mf mt sf st vd) 88)) := ((Later.refl _).alloc _).alloc _
  have HI := Lib.hid (ints_same um vm Ms _ (hm.later hl2) (hm'.later hl2) hml)
  have s1 : Hid (∀ w', Later W w' → (convert 23 9 ud).run Try.prog w' = .ok (.string (strOfNums D)) w') := Lib.hid fun w' hl => bytV_string (hd.later hl)
  have s2 : Hid (∀ w', Later W w' → (convert 23 9 vd).run Try.prog w' = .ok (.string (strOfNums D)) w') := Lib.hid fun w' hl => bytV_string (hd'.later hl)
  obtain ⟨nm, hnm⟩ : ∃ n, Ms.length = n := ⟨_, rfl⟩
  obtain ⟨nd, hnd⟩ : ∃ n, D.length = n := ⟨_, rfl⟩
  rw [hnm] at hume hume' hml
  rw [hnd] at hude hude'
  clear hm hm' hd hd' hnm hnd
  subst hume hude hume' hude'
  replace hl2 := Lib.hid hl2
  go_enter Try.func39, Try.ntmps39
  go_wp2_with fail
  refine HI.out.mono ?_
  rintro e w' ⟨rfl, hl⟩
  have t1 := s1.out w' (hl2.out.trans hl)
  have t2 := s2.out w' (hl2.out.trans hl)
  have kp := (hl.block W.heap.size (by simp; omega)).trans (push_old (heap_alloc_new W (.cells (msC k eN eB (.slice am nm cm) fr ro mf mt sf st (.slice ad nd cd)) 88)))
  have kq := (hl.block (W.heap.size + 1) (by simp)).trans (push_new (W.alloc (.cells (msC k eN eB (.slice am nm cm) fr ro mf mt sf st (.slice ad nd cd)) 88)) (.cells (msC k eN eB (.slice am' nm cm') fr ro mf mt sf st (.slice ad' nd cd')) 88) (by simp))
  have p0 : w'.cell? ⟨W.heap.size, 0, none⟩ = some _ := cell_of_row w' _ 0 _ _ _ kp
  have p1 : w'.cell? ⟨W.heap.size, 1, none⟩ = some _ := cell_of_row w' _ 1 _ _ _ kp
  have p2 : w'.cell? ⟨W.heap.size, 2, none⟩ = some _ := cell_of_row w' _ 2 _ _ _ kp
  have p3 : w'.cell? ⟨W.heap.size, 3, none⟩ = some _ := cell_of_row w' _ 3 _ _ _ kp
  have p4 : w'.cell? ⟨W.heap.size, 4, none⟩ = some _ := cell_of_row w' _ 4 _ _ _ kp
  have p5 : w'.cell? ⟨W.heap.size, 5, none⟩ = some _ := cell_of_row w' _ 5 _ _ _ kp
  have p6 : w'.cell? ⟨W.heap.size, 6, none⟩ = some _ := cell_of_row w' _ 6 _ _ _ kp
  have p7 : w'.cell? ⟨W.heap.size, 7, none⟩ = some _ := cell_of_row w' _ 7 _ _ _ kp
  have p8 : w'.cell? ⟨W.heap.size, 8, none⟩ = some _ := cell_of_row w' _ 8 _ _ _ kp
  have p9 : w'.cell? ⟨W.heap.size, 9, none⟩ = some _ := cell_of_row w' _ 9 _ _ _ kp
  have p10 : w'.cell? ⟨W.heap.size, 10, none⟩ = some _ := cell_of_row w' _ 10 _ _ _ kp
  have q0 : w'.cell? ⟨(W.heap.size + 1), 0, none⟩ = some _ := cell_of_row w' _ 0 _ _ _ kq
  have q1 : w'.cell? ⟨(W.heap.size + 1), 1, none⟩ = some _ := cell_of_row w' _ 1 _ _ _ kq
  have q2 : w'.cell? ⟨(W.heap.size + 1), 2, none⟩ = some _ := cell_of_row w' _ 2 _ _ _ kq
  have q3 : w'.cell? ⟨(W.heap.size + 1), 3, none⟩ = some _ := cell_of_row w' _ 3 _ _ _ kq
  have q4 : w'.cell? ⟨(W.heap.size + 1), 4, none⟩ = some _ := cell_of_row w' _ 4 _ _ _ kq
  have q5 : w'.cell? ⟨(W.heap.size + 1), 5, none⟩ = some _ := cell_of_row w' _ 5 _ _ _ kq
  have q6 : w'.cell? ⟨(W.heap.size + 1), 6, none⟩ = some _ := cell_of_row w' _ 6 _ _ _ kq
  have q7 : w'.cell? ⟨(W.heap.size + 1), 7, none⟩ = some _ := cell_of_row w' _ 7 _ _ _ kq
  have q8 : w'.cell? ⟨(W.heap.size + 1), 8, none⟩ = some _ := cell_of_row w' _ 8 _ _ _ kq
  have q9 : w'.cell? ⟨(W.heap.size + 1), 9, none⟩ = some _ := cell_of_row w' _ 9 _ _ _ kq
  have q10 : w'.cell? ⟨(W.heap.size + 1), 10, none⟩ = some _ := cell_of_row w' _ 10 _ _ _ kq
  have hend := Lib.hid (hl2.out.trans hl)
  clear kp kq hl s1 s2
  go_wp2_with fail
  go_ret
  exact ⟨rfl, hend.out⟩
end Go.Proofs.Ytjelfiljebamgaa
