/-
  Chapter 21: a piece's bytes: the program's, and the document's.
-/
import Derived.Test.YtjelfiljebamgaaPcA
namespace Go.Proofs.Ytjelfiljebamgaa
open Go.RowKit Go.Shelf
set_option linter.unusedVariables false
set_option linter.unusedSimpArgs false
attribute [local go_sem] Oper.semAt_some

/-- A piece's bytes. -/
def wrL (id at_ of : Int) (D : List Int) : List Int := fm id.toNat ++ fm (of - 1).toNat ++ fm at_.toNat ++ fm D.length ++ D
theorem WS.later {base p : Nat} {X W W' : World} (h : Later X W) (hs : WS base p W W') (hp : X.heap.size ≤ p) (hb : X.heap.size ≤ base) : Later X W' :=
  ⟨hs.os.trans h.os, hs.tape.trans h.tape, hs.output.trans h.output, Nat.le_trans h.size hs.size, fun k hk => (hs.block k (Nat.lt_of_lt_of_le hk h.size) (by omega) (.inl (by omega))).trans (h.block k hk)⟩
theorem WS.cell {base p : Nat} {W W' : World} (hs : WS base p W W') {b o : Nat} {v : Value} (hc : W.cell? ⟨b, o, none⟩ = some v) (hb : b < base) (hp : b ≠ p) : W'.cell? ⟨b, o, none⟩ = some v :=
  (World.cell?_of_block (a := ⟨b, o, none⟩) (hs.block b (cell_lt hc) hp (.inl hb))).trans hc

set_option maxRecDepth 10000 in
theorem write_no (id at_ of : Int) (u : Value) (D : List Int) (W : World) (hu : BytV W u D) (h : ¬ May id at_ of D.length) :
    Calls Try.prog 11 #[pcV id at_ of u] W fun e w' => e = .returned (.tuple #[.slice none 0 0, .int .i64 210]) ∧ Later W w' := by
  obtain ⟨ao, cap, hue⟩ := bytV_form hu
  have hl0 : Later W (W.alloc (.cells #[.int .u64 id, .int .i64 at_, .int .i64 of, u] 25)) := (Later.refl _).alloc _
  have HM := Lib.hid (may_no id at_ of u D (W.alloc (.cells #[.int .u64 id, .int .i64 at_, .int .i64 of, u] 25)) (hu.later hl0) h)
  clear hu h
  obtain ⟨n, hn⟩ : ∃ n, Hid (D.length = n) := ⟨_, rfl⟩
  rw [hn.out] at hue
  subst hue
  go_enter Try.func11, Try.ntmps11
  go_wp2_with fail
  refine HM.out.mono ?_
  rintro e w1 ⟨rfl, hl1⟩
  go_wp2_with fail
  go_ret2
  exact ⟨rfl, hl0.trans hl1⟩
set_option maxRecDepth 10000 in
set_option maxHeartbeats 1000000 in
theorem write_yes (id at_ of : Int) (u : Value) (D : List Int) (W : World) (hu : BytV W u D) (h : May id at_ of D.length) (hid : 0 ≤ id) :
    Calls Try.prog 11 #[pcV id at_ of u] W fun e w' => ∃ v, e = .returned (.tuple #[v, .int .i64 0]) ∧ w'.ownsRow W.heap.size 5 1 v (wrL id at_ of D).length (encB (wrL id at_ of D)) ∧ Later W w' := by
  have hl0 : Later W (W.alloc (.cells #[.int .u64 id, .int .i64 at_, .int .i64 of, u] 25)) := (Later.refl _).alloc _
  have HM := Lib.hid (may_yes id at_ of u D (W.alloc (.cells #[.int .u64 id, .int .i64 at_, .int .i64 of, u] 25)) (hu.later hl0) h)
  obtain ⟨h1, h2, h3, h4, h5, h6⟩ := h
  obtain ⟨i, rfl⟩ : ∃ i : Nat, id = i := ⟨id.toNat, by omega⟩
  obtain ⟨a, rfl⟩ : ∃ a : Nat, at_ = a := ⟨at_.toNat, by omega⟩
  obtain ⟨o, rfl⟩ : ∃ o : Nat, of = (o : Int) + 1 := ⟨(of - 1).toNat, by omega⟩
  have hwr : wrL i a ((o : Int) + 1) D = fm i ++ fm o ++ fm a ++ fm D.length ++ D := by
    unfold wrL; rw [show ((i : Nat) : Int).toNat = i by omega, show ((a : Nat) : Int).toNat = a by omega, show ((o : Int) + 1 - 1).toNat = o by omega]
  rw [hwr]
  clear hwr
  have hi2 : i < 18446744073709551616 := by omega
  have ho2 : o ≤ 4095 := by omega
  have ha2 : a ≤ 4095 := by omega
  have hbD := hu.1
  have hlt := hu.lt
  have hfi := fm_len i
  have hfo := fm_len o
  have hfa := fm_len a
  have hfd := fm_len D.length
  have hbi := fm_byt hi2
  have hbo := fm_byt (n := o) (by omega)
  have hba := fm_byt (n := a) (by omega)
  have hbd := fm_byt (n := D.length) (by omega)
  obtain ⟨I, hI⟩ : ∃ I : Int, Hid ((i : Int) = I) := ⟨_, rfl⟩
  have HU := Lib.hid (fun base p v L w (h : WrB w base p v L) hb (hL : L.length ≤ 1000000) => uint_any base p i v L w h hb hi2 hL)
  have HSo := Lib.hid (fun base p v L w (h : WrB w base p v L) hb (hL : L.length ≤ 1000000) => small_any base p o 4095 v L w h hb ho2 (by omega) hL)
  have HSa := Lib.hid (fun base p v L w (h : WrB w base p v L) hb (hL : L.length ≤ 1000000) => small_any base p a 4095 v L w h hb ha2 (by omega) hL)
  rw [hI.out] at HU HM h1 hid ⊢
  have ho3 : (o : Int) ≤ 4095 := by omega
  have hX0 : (W.alloc (.cells #[.int .u64 I, .int .i64 a, .int .i64 ((o : Int) + 1), u] 25)).heap.size = W.heap.size + 1 := by simp
  clear h1 h2 h3 h4 h5 hi2 ho2 ha2
  obtain ⟨ao, cap, hue⟩ := bytV_form hu
  have hu := Lib.hid hu
  obtain ⟨n, hn⟩ : ∃ n, Hid (D.length = n) := ⟨_, rfl⟩
  rw [hn.out] at hue h6 hfd hbd ⊢
  subst hue
  rw [hI.out] at hl0
  go_enter Try.func11, Try.ntmps11
  go_wp2_with fail
  refine HM.out.mono ?_
  rintro e w1 ⟨rfl, hl1⟩
  have c0 : w1.cell? ⟨W.heap.size, 0, none⟩ = some (.int .u64 I) := hl1.cell (by simp)
  have c1 : w1.cell? ⟨W.heap.size, 1, none⟩ = some (.int .i64 a) := hl1.cell (by simp)
  have c2 : w1.cell? ⟨W.heap.size, 2, none⟩ = some (.int .i64 ((o : Int) + 1)) := hl1.cell (by simp)
  have c3 : w1.cell? ⟨W.heap.size, 3, none⟩ = some (.slice ao n cap) := hl1.cell (by simp)
  have hW1 : W.heap.size < w1.heap.size := cell_lt c0
  replace hl1 := hl0.trans hl1
  clear HM hl0 hX0
  go_wp2_with fail
  refine (newWriter_any w1).mono ?_
  rintro e w2 ⟨rfl, hw, hs2, hl2⟩
  replace c0 := hl2.cell c0
  replace c1 := hl2.cell c1
  replace c2 := hl2.cell c2
  replace c3 := hl2.cell c3
  replace hu := Lib.hid (hu.out.later (hl1.trans hl2))
  replace hl1 := hl1.trans hl2
  obtain ⟨p, hp⟩ : ∃ p, Hid (w1.heap.size = p) := ⟨_, rfl⟩
  rw [hp.out] at hw hW1 hs2 ⊢
  clear hl2 hp
  have hbs : p + 1 ≤ w2.heap.size := by omega
  clear hs2
  have hWp : W.heap.size ≤ p := by omega
  go_wp2_with fail
  refine (HU.out _ _ _ _ _ hw hbs (by simp)).mono ?_
  rintro e w3 ⟨rfl, ⟨v3, hw3⟩, hs3⟩
  have c1 := hs3.cell c1 (by omega) (by omega)
  have c2 := hs3.cell c2 (by omega) (by omega)
  have c3 := hs3.cell c3 (by omega) (by omega)
  replace hu := Lib.hid (hu.out.ws (n := 0) hs3 (hlt.mono (fun g hg => by have hg : g < W.heap.size := hg; omega)))
  replace hl1 := hs3.later hl1 hWp (by omega)
  replace hbs := Nat.le_trans hbs hs3.size
  clear hw hs3 HU c0
  rw [List.nil_append] at hw3
  go_wp2_with fail
  refine (HSo.out _ _ _ _ _ hw3 hbs (by omega)).mono ?_
  rintro e w4 ⟨rfl, ⟨v4, hw4⟩, hs4⟩
  have c1 := hs4.cell c1 (by omega) (by omega)
  have c3 := hs4.cell c3 (by omega) (by omega)
  replace hu := Lib.hid (hu.out.ws (n := 0) hs4 (hlt.mono (fun g hg => by have hg : g < W.heap.size := hg; omega)))
  replace hl1 := hs4.later hl1 hWp (by omega)
  replace hbs := Nat.le_trans hbs hs4.size
  clear hw3 hs4 HSo c2
  go_wp2_with fail
  refine (HSa.out _ _ _ _ _ hw4 hbs (by rw [List.length_append]; omega)).mono ?_
  rintro e w5 ⟨rfl, ⟨v5, hw5⟩, hs5⟩
  have c3 := hs5.cell c3 (by omega) (by omega)
  replace hu := Lib.hid (hu.out.ws (n := 0) hs5 (hlt.mono (fun g hg => by have hg : g < W.heap.size := hg; omega)))
  replace hl1 := hs5.later hl1 hWp (by omega)
  replace hbs := Nat.le_trans hbs hs5.size
  clear hw4 hs5 HSa c1
  have HT := Lib.hid (text_any (p + 1) p 880 v5 _ _ D w5 hw5 hbs hu.out (hlt.mono (fun g hg => by have hg : g < W.heap.size := hg; omega)) (by rw [hn.out]; exact h6) (by omega) (by rw [List.length_append, List.length_append]; omega))
  rw [hn.out] at HT
  go_wp2_with fail
  refine HT.out.mono ?_
  rintro e w6 ⟨rfl, ⟨v6, hw6⟩, hs6⟩
  replace hl1 := hs6.later hl1 hWp (by omega)
  clear hw5 hs6 HT c3 hu
  go_wp2_with fail
  refine (bytes_any (p + 1) p v6 _ w6 hw6 ((((hbi.append hbo).append hba).append hbd).append hbD) (by have := hn.out; simp only [List.length_append]; omega)).mono ?_
  rintro e w7 ⟨v, rfl, hr, hl7⟩
  go_wp2_with fail
  go_ret2
  exact ⟨v, rfl, row_mono hr hl1.size, hl1.trans hl7⟩
end Go.Proofs.Ytjelfiljebamgaa
