/-
  Chapter 21, the document's answer: a piece's bytes.
-/
import Derived.Test.YtjelfiljebamgaaPcB
namespace Go.Proofs.Ytjelfiljebamgaa
open Go.RowKit Go.Shelf
set_option linter.unusedVariables false
set_option linter.unusedSimpArgs false
attribute [local go_sem] Oper.semAt_some

set_option maxRecDepth 10000 in
theorem write21_no (id at_ of : Int) (u : Value) (D : List Int) (W : World) (hu : BytV W u D) (h : ¬ May id at_ of D.length) :
    Calls Try.prog 12 #[pcV id at_ of u] W fun e w' => e = .returned (.tuple #[.slice none 0 0, .int .i64 210]) ∧ Later W w' := by
  obtain ⟨ao, cap, hue⟩ := bytV_form hu
  have hl0 : Later W (W.alloc (.cells #[.int .u64 id, .int .i64 at_, .int .i64 of, u] 25)) := (Later.refl _).alloc _
  have HM := Lib.hid (may21_no id at_ of u D (W.alloc (.cells #[.int .u64 id, .int .i64 at_, .int .i64 of, u] 25)) (hu.later hl0) h)
  clear hu h
  obtain ⟨n, hn⟩ : ∃ n, Hid (D.length = n) := ⟨_, rfl⟩
  rw [hn.out] at hue
  subst hue
  go_enter Try.func12, Try.ntmps12
  go_wp2_with fail
  refine HM.out.mono ?_
  rintro e w1 ⟨rfl, hl1⟩
  go_wp2_with fail
  go_ret2
  exact ⟨rfl, hl0.trans hl1⟩
theorem newWriter05 (X : World) : RwB (X.alloc (.cells #[.slice none 0 0, .bool false] 106)) X.heap.size (.slice none 0 0) [] :=
  ⟨heap_alloc_new _ _, ⟨(fun x hx => by cases hx), none, 0, rfl, ⟨Nat.le_refl _, fun _ => rfl⟩, (fun k hk => by cases hk)⟩, (fun g o s len cap e => by cases e), (fun g o s len cap e => by cases e)⟩

set_option maxRecDepth 10000 in
set_option maxHeartbeats 1000000 in
theorem write21_yes (id at_ of : Int) (u : Value) (D : List Int) (W : World) (hu : BytV W u D) (h : May id at_ of D.length) (hid : 0 ≤ id) :
    Calls Try.prog 12 #[pcV id at_ of u] W fun e w' => ∃ v, e = .returned (.tuple #[v, .int .i64 0]) ∧ BytV w' v (wrL id at_ of D) ∧ U8b w' v ∧ Later W w' := by
  have hl0 : Later W (W.alloc (.cells #[.int .u64 id, .int .i64 at_, .int .i64 of, u] 25)) := (Later.refl _).alloc _
  have HM := Lib.hid (may21_yes id at_ of u D (W.alloc (.cells #[.int .u64 id, .int .i64 at_, .int .i64 of, u] 25)) (hu.later hl0) h)
  obtain ⟨h1, h2, h3, h4, h5, h6⟩ := h
  obtain ⟨i, rfl⟩ : ∃ i : Nat, id = i := ⟨id.toNat, by omega⟩
  obtain ⟨a, rfl⟩ : ∃ a : Nat, at_ = a := ⟨at_.toNat, by omega⟩
  obtain ⟨o, rfl⟩ : ∃ o : Nat, of = (o : Int) + 1 := ⟨(of - 1).toNat, by omega⟩
  have hwr : wrL i a ((o : Int) + 1) D = fm i ++ fm o ++ fm a ++ fm D.length ++ D := by
    unfold wrL; rw [show ((i : Nat) : Int).toNat = i by omega, show ((a : Nat) : Int).toNat = a by omega, show ((o : Int) + 1 - 1).toNat = o by omega]
  rw [hwr]
  clear hwr
  have hi2 : i < 18446744073709551616 := by omega
  have ho2 : o < 18446744073709551616 := by omega
  have ha2 : a < 18446744073709551616 := by omega
  have hlt := hu.lt
  have hfi := fm_len i
  have hfo := fm_len o
  have hfa := fm_len a
  have hfd := fm_len D.length
  obtain ⟨I, hI⟩ : ∃ I : Int, Hid ((i : Int) = I) := ⟨_, rfl⟩
  have HU := Lib.hid (fun p v L w (h : RwB w p v L) (hL : L.length ≤ 900000) => uint05_any p i v L w h hi2 hL)
  have HSo := Lib.hid (fun p v L w (h : RwB w p v L) (hL : L.length ≤ 900000) => uint05_any p o v L w h ho2 hL)
  have HSa := Lib.hid (fun p v L w (h : RwB w p v L) (hL : L.length ≤ 900000) => uint05_any p a v L w h ha2 hL)
  rw [hI.out] at HU HM h1 hid ⊢
  rw [hI.out] at hl0
  have ho3 : 0 ≤ (o : Int) ∧ (o : Int) ≤ 4095 := by omega
  have ha3 : 0 ≤ (a : Int) ∧ (a : Int) ≤ 4095 := by omega
  clear h1 h2 h3 h4 h5 hi2 ho2 ha2
  obtain ⟨ao, cap, hue⟩ := bytV_form hu
  have hu := Lib.hid hu
  obtain ⟨n, hn⟩ : ∃ n, Hid (D.length = n) := ⟨_, rfl⟩
  rw [hn.out] at hue h6 hfd ⊢
  subst hue
  go_enter Try.func12, Try.ntmps12
  go_wp2_with fail
  refine HM.out.mono ?_
  rintro e w1 ⟨rfl, hl1⟩
  have c0 : w1.cell? ⟨W.heap.size, 0, none⟩ = some (.int .u64 I) := hl1.cell (by simp)
  have c1 : w1.cell? ⟨W.heap.size, 1, none⟩ = some (.int .i64 a) := hl1.cell (by simp)
  have c2 : w1.cell? ⟨W.heap.size, 2, none⟩ = some (.int .i64 ((o : Int) + 1)) := hl1.cell (by simp)
  have c3 : w1.cell? ⟨W.heap.size, 3, none⟩ = some (.slice ao n cap) := hl1.cell (by simp)
  have hW1 : W.heap.size < w1.heap.size := cell_lt c0
  replace hl1 := hl0.trans hl1
  clear HM hl0
  go_upto_region 5 with fail
  have hw := newWriter05 w1
  obtain ⟨X, hX⟩ : ∃ X, X = w1.alloc (.cells #[.slice none 0 0, .bool false] 106) := ⟨_, rfl⟩
  have hl2 : Later w1 X := by rw [hX]; exact (Later.refl _).alloc _
  rw [← hX] at hw ⊢
  clear hX
  replace c0 := hl2.cell c0
  replace c1 := hl2.cell c1
  replace c2 := hl2.cell c2
  replace c3 := hl2.cell c3
  replace hu := Lib.hid (hu.out.later (hl1.trans hl2))
  replace hl1 := hl1.trans hl2
  obtain ⟨p, hp⟩ : ∃ p, Hid (w1.heap.size = p) := ⟨_, rfl⟩
  rw [hp.out] at hw hW1 ⊢
  clear hl2 hp
  have hWp : W.heap.size ≤ p := by omega
  have hin : In (.slice ao n cap) (· ≠ p) := hlt.mono (fun g hg => by have hg : g < W.heap.size := hg; omega)
  go_wp2_with fail
  refine (HU.out _ _ _ _ hw (by simp)).mono ?_
  rintro e w3 ⟨rfl, ⟨v3, hw3⟩, hs3⟩
  replace c1 := grown_c hs3 c1 (by omega)
  replace c2 := grown_c hs3 c2 (by omega)
  replace c3 := grown_c hs3 c3 (by omega)
  replace hu := Lib.hid (hu.out.grown hs3 hin)
  replace hl1 := rw_step hl1 hs3 hWp
  clear hw hs3 HU c0
  rw [List.nil_append] at hw3
  go_wp2_with fail
  refine (HSo.out _ _ _ _ hw3 (by omega)).mono ?_
  rintro e w4 ⟨rfl, ⟨v4, hw4⟩, hs4⟩
  replace c1 := grown_c hs4 c1 (by omega)
  replace c3 := grown_c hs4 c3 (by omega)
  replace hu := Lib.hid (hu.out.grown hs4 hin)
  replace hl1 := rw_step hl1 hs4 hWp
  clear hw3 hs4 HSo c2
  go_wp2_with fail
  refine (HSa.out _ _ _ _ hw4 (by rw [List.length_append]; omega)).mono ?_
  rintro e w5 ⟨rfl, ⟨v5, hw5⟩, hs5⟩
  replace c3 := grown_c hs5 c3 (by omega)
  replace hu := Lib.hid (hu.out.grown hs5 hin)
  replace hl1 := rw_step hl1 hs5 hWp
  clear hw4 hs5 HSa c1
  have HT := Lib.hid (text05_any p 880 v5 _ _ D w5 hw5 hu.out (by rw [hn.out]; exact h6) (by rw [List.length_append, List.length_append]; omega) (by rw [hn.out]; omega))
  rw [hn.out] at HT
  go_wp2_with fail
  refine HT.out.mono ?_
  rintro e w6 ⟨rfl, ⟨v6, hw6⟩, hs6⟩
  replace hl1 := rw_step hl1 hs6 hWp
  have cB : w6.cell? ⟨p, 0, none⟩ = some v6 := cell_of_row w6 p 0 _ _ _ hw6.head
  have hv6 := Lib.hid hw6.val
  have ht6 := Lib.hid hw6.ty
  clear hw5 hs6 HT c3 hu hw6
  go_wp2_with fail
  go_ret2
  exact ⟨v6, rfl, hv6.out, ht6.out, hl1⟩
end Go.Proofs.Ytjelfiljebamgaa
