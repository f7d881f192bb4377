/-
  Chapter 28's law NodeForms: its walk.
-/
import Derived.Test.YtjelfiljebamgaaNdI
import Derived.Test.YtjelfiljebamgaaNdH
import Derived.Test.YtjelfiljebamgaaNdJ
import Derived.Test.YtjelfiljebamgaaPcV
namespace Go.Proofs.Ytjelfiljebamgaa
open Go.RowKit Go.Shelf
set_option linter.unusedVariables false
set_option linter.unusedSimpArgs false
attribute [local go_sem] Oper.semAt_some


theorem writeM_both (k eN eB fr ro mf mt sf st : Int) (Ms D : List Int) (hml : Ms.length ≤ 1000000) (hdl : D.length ≤ 1000000) (hN : 0 ≤ eN ∧ eN ≤ 4294967295) (hD : Byt D) : ∃ (A : List Int) (r : Int), Byt A ∧ A.length ≤ 71000 ∧
    (∀ Y um ud, IntsV Y um Ms → BytV Y ud D → Calls Try.prog 35 #[msV k eN eB um fr ro mf mt sf st ud] Y fun e w' => ∃ v, e = .returned (.tuple #[v, .int .i64 r]) ∧ w'.ownsRow Y.heap.size 5 1 v A.length (encB A) ∧ Later Y w') ∧
    (∀ Y um ud, IntsV Y um Ms → BytV Y ud D → Calls Try.prog 36 #[msV k eN eB um fr ro mf mt sf st ud] Y fun e w' => ∃ v, e = .returned (.tuple #[v, .int .i64 r]) ∧ BytV w' v A ∧ Later Y w') := by
  by_cases h : MayM k eB fr ro mf mt sf st Ms.length D.length (risen (-1) Ms).toNat
  · exact ⟨wrM k eN eB Ms fr ro mf mt sf st D, 0, (wrM_ok h hN hD).1, (wrM_ok h hN hD).2, fun Y um ud hm hd => writeM_yes k eN eB um fr ro mf mt sf st ud Ms D Y hm hd hml hdl hN h, fun Y um ud hm hd => write28_yes k eN eB um fr ro mf mt sf st ud Ms D Y hm hd hml hdl hN h⟩
  · refine ⟨[], 281, fun x hx => by simp at hx, by simp, fun Y um ud hm hd => ?_, fun Y um ud hm hd => ?_⟩
    · refine (writeM_no k eN eB um fr ro mf mt sf st ud Ms D Y hm hd hml hdl h).mono ?_
      rintro e w' ⟨rfl, hl⟩
      exact ⟨_, rfl, World.ownsRow_nil _ _ _ _, hl⟩
    · refine (write28_no k eN eB um fr ro mf mt sf st ud Ms D Y hm hd hml hdl h).mono ?_
      rintro e w' ⟨rfl, hl⟩
      exact ⟨_, rfl, bytV_nil _, hl⟩
theorem fin_some {m m' : Msg} {L : List Int} {lost : Bool} (h : fin m L lost = some m') : m = m' ∧ m.May := by
  unfold fin at h
  split at h
  · rename_i hc
    exact ⟨Option.some.inj h, hc.2⟩
  · cases h
theorem rdT_some {k : Int} {n y f r s t : Nat} {L : List Int} {lost : Bool} {m : Msg} (hb : Byt L) (h : rdT k n y f r s t L lost = some m) : m.May ∧ Byt m.D := by
  obtain ⟨e, hm⟩ := fin_some h
  exact ⟨e ▸ hm, e ▸ rT_byt _ _ _ (rU_byt _ _ _ (rU_byt _ _ _ hb))⟩
theorem rdM_some {b : List Int} {m : Msg} (hb : Byt b) (h : rdM b = some m) : m.May ∧ Byt m.D := by
  have nb : Byt ([] : List Int) := fun x hx => by simp at hx
  have h3 : Byt (rU 63 (rU 4294967295 (rU 6 b false).2.1 (rU 6 b false).2.2).2.1 (rU 4294967295 (rU 6 b false).2.1 (rU 6 b false).2.2).2.2).2.1 := rU_byt _ _ _ (rU_byt _ _ _ (rU_byt _ _ _ hb))
  unfold rdM rdBM at h
  split at h
  · obtain ⟨e, hm⟩ := fin_some h
    exact ⟨e ▸ hm, e ▸ nb⟩
  · unfold rdFM at h
    have h4 := rU_byt 1000 _ (rU 63 (rU 4294967295 (rU 6 b false).2.1 (rU 6 b false).2.2).2.1 (rU 4294967295 (rU 6 b false).2.1 (rU 6 b false).2.2).2.2).2.2 h3
    split at h
    · exact rdT_some (rU_byt _ _ _ (rU_byt _ _ _ (rU_byt _ _ _ h4))) h
    · split at h
      · exact rdT_some (rU_byt _ _ _ h4) h
      · obtain ⟨e, hm⟩ := fin_some h
        exact ⟨e ▸ hm, e ▸ nb⟩
theorem may_len {m : Msg} (h : m.May) : m.Ms.length ≤ 1000000 ∧ m.D.length ≤ 70000 := by
  obtain ⟨_, _, _, _, hD, _, _, _, _, _, _, _, _, _, _, hk⟩ := h
  refine ⟨?_, hD⟩
  rcases hk with ⟨_, hr, _⟩ | ⟨_, h0, _⟩ | ⟨_, h0⟩ | ⟨_, h0, _⟩
  · have hRt : risen (-1) m.Ms = true := by
      cases hh : risen (-1) m.Ms with
      | true => rfl
      | false => rw [hh] at hr; cases hr
    have := risen_len hRt (by omega) (by omega)
    omega
  · omega
  · omega
  · omega
theorem readM_both (b : List Int) (hb : Byt b) (hl : b.length ≤ 1000000) : ∃ (mm : Msg) (r : Int), Byt mm.D ∧ mm.Ms.length ≤ 1000000 ∧ mm.D.length ≤ 70000 ∧
    (∀ Y u, BytV Y u b → Calls Try.prog 37 #[u] Y fun e w' => ∃ um ud, e = .returned (.tuple #[mm.V um ud, .int .i64 r]) ∧ w'.ownsRow Y.heap.size 3 1 um mm.Ms.length (encI mm.Ms) ∧ w'.ownsRow Y.heap.size 5 1 ud mm.D.length (encB mm.D) ∧ Later Y w') ∧
    (∀ Y u, BytV Y u b → Calls Try.prog 38 #[u] Y fun e w' => ∃ um ud, e = .returned (.tuple #[mm.V um ud, .int .i64 r]) ∧ w'.ownsRow Y.heap.size 3 1 um mm.Ms.length (encI mm.Ms) ∧ w'.ownsRow Y.heap.size 5 1 ud mm.D.length (encB mm.D) ∧ Later Y w') := by
  cases h : rdM b with
  | some m =>
    obtain ⟨hM, hD⟩ := rdM_some hb h
    refine ⟨m, 0, hD, (may_len hM).1, (may_len hM).2, fun Y u hu => ?_, fun Y u hu => ?_⟩
    · refine (readM_any u b Y hu hl).mono ?_
      rintro e w' ⟨hp, hl'⟩
      rw [h] at hp
      obtain ⟨um, ud, e1, h1, h2⟩ := hp
      exact ⟨um, ud, e1, h1, h2, hl'⟩
    · refine (read28_any u b Y hu hl).mono ?_
      rintro e w' ⟨hp, hl'⟩
      rw [h] at hp
      obtain ⟨um, ud, e1, h1, h2⟩ := hp
      exact ⟨um, ud, e1, h1, h2, hl'⟩
  | none =>
    refine ⟨Msg.zero, 281, fun x hx => by simp at hx, by simp, by simp, fun Y u hu => ?_, fun Y u hu => ?_⟩
    · refine (readM_any u b Y hu hl).mono ?_
      rintro e w' ⟨hp, hl'⟩
      rw [h] at hp
      exact ⟨_, _, hp, World.ownsRow_nil _ _ _ _, World.ownsRow_nil _ _ _ _, hl'⟩
    · refine (read28_any u b Y hu hl).mono ?_
      rintro e w' ⟨hp, hl'⟩
      rw [h] at hp
      exact ⟨_, _, hp, World.ownsRow_nil _ _ _ _, World.ownsRow_nil _ _ _ _, hl'⟩
/-- What is turned by the law lies apart from all that it looks at behind. -/
structure MutM (X w : World) (vd : Value) (nd : Nat) (vA : Value) (nA : Nat) (d : Nat) (cd : Array Value) : Prop where
  later : Later X w
  ud : U8s w X.heap.size vd nd
  uA : U8s w X.heap.size vA nA
  kd : w.heap[d]? = some (.cells cd 88 (0, 0))
theorem MutM.step {X w w' : World} {vd vA : Value} {nd nA d : Nat} {cd : Array Value} (h : MutM X w vd nd vA nA d cd) (hl : Later w w') : MutM X w' vd nd vA nA d cd :=
  ⟨h.later.trans hl, h.ud.later hl, h.uA.later hl, (hl.block d (Array.getElem?_eq_some_iff.1 h.kd).1).trans h.kd⟩
theorem MutM.set {X w : World} {vd vA : Value} {nd nA d : Nat} {cd : Array Value} (h : MutM X w vd nd vA nA d cd) {g : Nat} (hg : X.heap.size ≤ g) (hc : ∃ c, w.heap[g]? = some (.cells c 5 (0, 0))) (k : Nat) (y : Int) : MutM X (w.setCell ⟨g, k, none⟩ (.int .u8 y)) vd nd vA nA d cd := by
  refine ⟨h.later.setCell hg _, h.ud.set _ _ _, h.uA.set _ _ _, ?_⟩
  have hne : g ≠ d := by
    rintro rfl
    obtain ⟨c', h'⟩ := hc
    have hk := h.kd
    rw [h'] at hk
    injection hk with hk
    injection hk with _ h _
    exact absurd h (by decide)
  exact (Below.heap_setCell w ⟨g, k, none⟩ (.int .u8 y) d (by first | exact hne | exact hne.symm)).trans h.kd
set_option maxRecDepth 100000 in
set_option maxHeartbeats 4000000 in
theorem nforms_walk (k eN eB : Int) (um : Value) (fr ro mf mt sf st : Int) (ud : Value) (Ms D : List Int) (v : Value) (B : List Int) (W : World) (hN : 0 ≤ eN ∧ eN ≤ 4294967295) (hm : IntsV W um Ms) (hd : BytV W ud D) (hv : BytV W v B) :
    Calls Try.prog 9 #[msV k eN eB um fr ro mf mt sf st ud, v] W fun e w' => e = .returned (.bool true) ∧ Later W w' := by
  obtain ⟨am, cm, hume⟩ := intsV_form hm
  obtain ⟨ad, cd, hude⟩ := bytV_form hd
  obtain ⟨aB, cB, hve⟩ := bytV_form hv
  obtain ⟨nM, hnM⟩ : ∃ n, Hid (Ms.length = n) := ⟨_, rfl⟩
  obtain ⟨nD, hnD⟩ : ∃ n, Hid (D.length = n) := ⟨_, rfl⟩
  obtain ⟨nB, hnB⟩ : ∃ n, Hid (B.length = n) := ⟨_, rfl⟩
  rw [hnM.out] at hume
  rw [hnD.out] at hude
  rw [hnB.out] at hve
  subst hume hude hve
  obtain ⟨X0, hX0⟩ : ∃ X, X = W.alloc (.cells (msC k eN eB (.slice am nM cm) fr ro mf mt sf st (.slice ad nD cd)) 88) := ⟨_, rfl⟩
  have hl0 : Later W X0 := by rw [hX0]; exact (Later.refl _).alloc _
  have k0 : X0.heap[W.heap.size]? = some (.cells (msC k eN eB (.slice am nM cm) fr ro mf mt sf st (.slice ad nD cd)) 88 (0, 0)) := by rw [hX0]; exact push_new W _ rfl
  have hm0 := Lib.hid (hm.later hl0)
  have hd0 := Lib.hid (hd.later hl0)
  have hv0 := Lib.hid (hv.later hl0)
  clear hm hd hv
  go_enter Try.func9, Try.ntmps9
  go_upto_region 1 with fail
  change Code.wp _ _ _ _ (W.alloc (.cells (msC k eN eB (.slice am nM cm) fr ro mf mt sf st (.slice ad nD cd)) 88))
  rw [← hX0]
  obtain ⟨P, hP⟩ : ∃ P, Hid (W.heap.size = P) := ⟨_, rfl⟩
  rw [hP.out] at k0 ⊢
  clear hX0
  have p0 : X0.cell? ⟨P, 0, none⟩ = some _ := cell_of_row X0 _ 0 _ _ _ k0
  have p1 : X0.cell? ⟨P, 1, none⟩ = some _ := cell_of_row X0 _ 1 _ _ _ k0
  have p2 : X0.cell? ⟨P, 2, none⟩ = some _ := cell_of_row X0 _ 2 _ _ _ k0
  have p3 : X0.cell? ⟨P, 3, none⟩ = some _ := cell_of_row X0 _ 3 _ _ _ k0
  have p4 : X0.cell? ⟨P, 4, none⟩ = some _ := cell_of_row X0 _ 4 _ _ _ k0
  have p5 : X0.cell? ⟨P, 5, none⟩ = some _ := cell_of_row X0 _ 5 _ _ _ k0
  have p6 : X0.cell? ⟨P, 6, none⟩ = some _ := cell_of_row X0 _ 6 _ _ _ k0
  have p7 : X0.cell? ⟨P, 7, none⟩ = some _ := cell_of_row X0 _ 7 _ _ _ k0
  have p8 : X0.cell? ⟨P, 8, none⟩ = some _ := cell_of_row X0 _ 8 _ _ _ k0
  have p9 : X0.cell? ⟨P, 9, none⟩ = some _ := cell_of_row X0 _ 9 _ _ _ k0
  have p10 : X0.cell? ⟨P, 10, none⟩ = some _ := cell_of_row X0 _ 10 _ _ _ k0
  by_cases hs : ¬ (nM ≤ 100 ∧ nD ≤ 1000 ∧ nB ≤ 2000)
  · have hor : (decide ((100 : Int) < nM) || decide ((1000 : Int) < nD) || decide ((2000 : Int) < nB)) = true := by
      rw [Bool.or_eq_true, Bool.or_eq_true, decide_eq_true_eq, decide_eq_true_eq, decide_eq_true_eq]; omega
    go_wp2_with fail
    all_goals
      first | (exfalso; omega) | (go_ret; exact ⟨rfl, hl0⟩)
  · rw [Classical.not_not] at hs
    obtain ⟨hsM, hsD, hsB⟩ := hs
    have d1 : decide ((100 : Int) < nM) = false := decide_eq_false (by omega)
    have d2 : decide ((1000 : Int) < nD) = false := decide_eq_false (by omega)
    have d3 : decide ((2000 : Int) < nB) = false := decide_eq_false (by omega)
    have hBl : B.length ≤ 2000 := by rw [hnB.out]; exact hsB
    go_upto_region 3 with fail
    have o1 : Hid ((X0.alloc (.cells #[] 5)).ownsRow X0.heap.size 5 1 (.slice (some ⟨X0.heap.size, 0, none⟩) 0 0) ([] : List Int).length (encB [])) :=
      Lib.hid ⟨rfl, .inr ⟨_, _, _, rfl, Nat.le_refl _, heap_alloc_new _ _, Nat.le_refl _, by decide, rfl, rfl⟩⟩
    have b1 := Lib.hid (hv0.out.later ((Later.refl X0).alloc (.cells #[] 5)))
    have l1 : Hid (([] : List Int).length + (B).length ≤ 2000000) := Lib.hid (by simp; omega)
    have l2 : Hid (X0.heap.size ≤ (X0.alloc (.cells #[] 5)).heap.size) := Lib.hid (by simp)
    have l3 : Hid ((B).length + ([7] : List Int).length ≤ 2000000) := Lib.hid (by simp; omega)
    go_upto_region 4 with (first
      | (at_builtin; refine wpList_append_bytes rfl _ _ rfl X0.heap.size _ [] rfl o1.out _ rfl B b1.out l1.out l2.out ?_; intro vA wA hrA hgA hnA; have hlA := later_own ((Later.refl X0).alloc _) o1.out (Nat.le_refl _) hgA; rw [List.nil_append] at hrA; obtain ⟨mA, aA, qA, rfl⟩ := own_form4 hrA; have oA := Lib.hid (hrA.alloc (.cells #[.int .u8 7] 5)); have bA := Lib.hid (new_byte wA 7 (by decide)); have lA : Hid (X0.heap.size ≤ (wA.alloc (.cells #[.int .u8 7] 5)).heap.size) := Lib.hid (Nat.le_trans hlA.size (by simp)))
      | (at_builtin; refine wpList_append_bytes rfl _ _ rfl X0.heap.size _ B rfl oA.out _ rfl [7] bA.out l3.out lA.out ?_; intro vB w1 hrB hgB hnB; have hl1 := later_own (hlA.alloc _) oA.out (Nat.le_refl _) hgB; obtain ⟨m1, a1, q1, rfl⟩ := own_form4 hrB; have ho1 := Lib.hid hrB))
    clear o1 b1 l1 l2 l3 hrA hgA hnA hlA oA bA lA hrB hgB hnB
    have bO := (bytV_of_row (hv0.out.1.append (Byt.one 7 (by decide))) ho1.out).1
    have kP1 := (hl1.block P (Array.getElem?_eq_some_iff.1 k0).1).trans k0
    have hW1 := hl0.trans hl1
    have bO1 := Lib.hid bO
    have bB1 := Lib.hid (hv0.out.later hl1)
    have bM1 := Lib.hid (hm0.out.later hl1)
    have bD1 := Lib.hid (hd0.out.later hl1)
    obtain ⟨eO, cO⟩ := bytV_cap bO1.out
    have nO : nB ≤ m1 := by rw [eO, List.length_append, hnB.out]; exact Nat.le_add_right _ _
    obtain ⟨zO, hO⟩ := slice_high a1 m1 q1 nB nO cO
    have rO : ∀ W', _ := fun W' => (hO W').1
    have bO8 : Hid (BytV w1 (.slice zO nB q1) B) := Lib.hid (by have h := (hO w1).2 w1 _ eO.symm bO1.out; rw [List.take_left' hnB.out] at h; exact h)
    obtain ⟨A, rA, hA, hAl, HA1, HA2⟩ := writeM_both k eN eB fr ro mf mt sf st Ms D (by rw [hnM.out]; omega) (by rw [hnD.out]; omega) hN hd0.out.1
    obtain ⟨mm, rE, hE, hEm, hEl, HE1, HE2⟩ := readM_both B hv0.out.1 (by omega)
    replace HA1 := Lib.hid HA1
    replace HA2 := Lib.hid HA2
    replace HE1 := Lib.hid HE1
    replace HE2 := Lib.hid HE2
    clear p0 p1 p2 p3 p4 p5 p6 p7 p8 p9 p10 hl0 k0 hv0 hm0 hd0 hl1 bO ho1 hO nO eO cO d1 d2 d3
    have p0 : w1.cell? ⟨P, 0, none⟩ = some _ := cell_of_row w1 _ 0 _ _ _ kP1
    have p1 : w1.cell? ⟨P, 1, none⟩ = some _ := cell_of_row w1 _ 1 _ _ _ kP1
    have p2 : w1.cell? ⟨P, 2, none⟩ = some _ := cell_of_row w1 _ 2 _ _ _ kP1
    have p3 : w1.cell? ⟨P, 3, none⟩ = some _ := cell_of_row w1 _ 3 _ _ _ kP1
    have p4 : w1.cell? ⟨P, 4, none⟩ = some _ := cell_of_row w1 _ 4 _ _ _ kP1
    have p5 : w1.cell? ⟨P, 5, none⟩ = some _ := cell_of_row w1 _ 5 _ _ _ kP1
    have p6 : w1.cell? ⟨P, 6, none⟩ = some _ := cell_of_row w1 _ 6 _ _ _ kP1
    have p7 : w1.cell? ⟨P, 7, none⟩ = some _ := cell_of_row w1 _ 7 _ _ _ kP1
    have p8 : w1.cell? ⟨P, 8, none⟩ = some _ := cell_of_row w1 _ 8 _ _ _ kP1
    have p9 : w1.cell? ⟨P, 9, none⟩ = some _ := cell_of_row w1 _ 9 _ _ _ kP1
    have p10 : w1.cell? ⟨P, 10, none⟩ = some _ := cell_of_row w1 _ 10 _ _ _ kP1
    go_wp2_with fail
    refine (HA1.out w1 _ _ bM1.out bD1.out).mono ?_
    rintro e w8 ⟨vA, rfl, rA8, h8⟩
    obtain ⟨mA, aA, qA, rfl⟩ := own_form4 rA8
    have uA := Lib.hid (u8s_of rA8)
    have bA := Lib.hid (bytV_of_row hA rA8).1
    have kP8 := (h8.block P (Array.getElem?_eq_some_iff.1 kP1).1).trans kP1
    clear HA1 p0 p1 p2 p3 p4 p5 p6 p7 p8 p9 p10 rA8
    have p0 : w8.cell? ⟨P, 0, none⟩ = some _ := cell_of_row w8 _ 0 _ _ _ kP8
    have p1 : w8.cell? ⟨P, 1, none⟩ = some _ := cell_of_row w8 _ 1 _ _ _ kP8
    have p2 : w8.cell? ⟨P, 2, none⟩ = some _ := cell_of_row w8 _ 2 _ _ _ kP8
    have p3 : w8.cell? ⟨P, 3, none⟩ = some _ := cell_of_row w8 _ 3 _ _ _ kP8
    have p4 : w8.cell? ⟨P, 4, none⟩ = some _ := cell_of_row w8 _ 4 _ _ _ kP8
    have p5 : w8.cell? ⟨P, 5, none⟩ = some _ := cell_of_row w8 _ 5 _ _ _ kP8
    have p6 : w8.cell? ⟨P, 6, none⟩ = some _ := cell_of_row w8 _ 6 _ _ _ kP8
    have p7 : w8.cell? ⟨P, 7, none⟩ = some _ := cell_of_row w8 _ 7 _ _ _ kP8
    have p8 : w8.cell? ⟨P, 8, none⟩ = some _ := cell_of_row w8 _ 8 _ _ _ kP8
    have p9 : w8.cell? ⟨P, 9, none⟩ = some _ := cell_of_row w8 _ 9 _ _ _ kP8
    have p10 : w8.cell? ⟨P, 10, none⟩ = some _ := cell_of_row w8 _ 10 _ _ _ kP8
    go_wp2_with fail
    refine (HA2.out w8 _ _ (bM1.out.later h8) (bD1.out.later h8)).mono ?_
    rintro e w9 ⟨vC, rfl, bC, h9⟩
    obtain ⟨mC, aC, qC, rfl⟩ := bytV_sl bC
    replace bC := Lib.hid bC
    replace uA := Lib.hid (uA.out.later h9)
    replace bA := Lib.hid (bA.out.later h9)
    have h79 := h8.trans h9
    clear HA2 p0 p1 p2 p3 p4 p5 p6 p7 p8 p9 p10 h8 h9 kP8
    go_wp2_with fail
    refine (HE1.out w9 _ (bO8.out.later h79)).mono ?_
    rintro e w10 ⟨vm, vd, rfl, rm10, rd10, h10⟩
    obtain ⟨mmM, amM, qmM, rfl⟩ := own_form4 rm10
    obtain ⟨md, ad', qd, rfl⟩ := own_form4 rd10
    replace rm10 := Lib.hid rm10
    replace rd10 := Lib.hid rd10
    go_upto_region 7 with fail
    obtain ⟨Xd, hXd⟩ : ∃ X, X = w10.alloc (.cells (mm.C (.slice amM mmM qmM) (.slice ad' md qd)) 88) := ⟨_, rfl⟩
    have hld : Later w10 Xd := by rw [hXd]; exact (Later.refl _).alloc _
    have kd : Xd.heap[w10.heap.size]? = some (.cells (mm.C (.slice amM mmM qmM) (.slice ad' md qd)) 88 (0, 0)) := by rw [hXd]; exact push_new w10 _ rfl
    have h7d := (h79.trans h10).trans hld
    replace uA := Lib.hid (uA.out.later (h10.trans hld))
    replace bA := Lib.hid (bA.out.later (h10.trans hld))
    replace bC := Lib.hid (bC.out.later (h10.trans hld))
    have ud' := Lib.hid ((u8s_of rd10.out).later hld)
    have bd := Lib.hid ((bytV_of_row hE rd10.out).1.later hld)
    have im := Lib.hid ((intsV_of_row rm10.out).later hld)
    have hb9 : w1.heap.size ≤ w9.heap.size := h79.size
    change Code.wp _ _ _ _ (w10.alloc (.cells (mm.C (.slice amM mmM qmM) (.slice ad' md qd)) 88))
    rw [← hXd]
    obtain ⟨d, hdd⟩ : ∃ d, Hid (w10.heap.size = d) := ⟨_, rfl⟩
    rw [hdd.out] at kd ⊢
    clear hXd rd10 rm10 h10 hld HE1 h79
    go_wp2_with fail
    refine (HE2.out Xd _ (bB1.out.later h7d)).mono ?_
    rintro e w11 ⟨vhm, vhd, rfl, rhm, rhd, h11⟩
    obtain ⟨xm, xam, xqm, rfl⟩ := own_form4 rhm
    obtain ⟨xd, xad, xqd, rfl⟩ := own_form4 rhd
    replace rhm := Lib.hid rhm
    replace rhd := Lib.hid rhd
    go_upto_region 8 with fail
    obtain ⟨Xh, hXh⟩ : ∃ X, X = w11.alloc (.cells (mm.C (.slice xam xm xqm) (.slice xad xd xqd)) 88) := ⟨_, rfl⟩
    have hlh : Later w11 Xh := by rw [hXh]; exact (Later.refl _).alloc _
    have kh : Xh.heap[w11.heap.size]? = some (.cells (mm.C (.slice xam xm xqm) (.slice xad xd xqd)) 88 (0, 0)) := by rw [hXh]; exact push_new w11 _ rfl
    have hdh := h11.trans hlh
    replace kd := (hdh.block d (Array.getElem?_eq_some_iff.1 kd).1).trans kd
    have h7 := h7d.trans hdh
    replace uA := Lib.hid (uA.out.later hdh)
    replace bA := Lib.hid (bA.out.later hdh)
    replace bC := Lib.hid (bC.out.later hdh)
    replace ud' := Lib.hid (ud'.out.later hdh)
    replace bd := Lib.hid (bd.out.later hdh)
    replace im := Lib.hid (im.out.later hdh)
    have bh := Lib.hid ((bytV_of_row hE rhd.out).1.later hlh)
    have ih := Lib.hid ((intsV_of_row rhm.out).later hlh)
    change Code.wp _ _ _ _ (w11.alloc (.cells (mm.C (.slice xam xm xqm) (.slice xad xd xqd)) 88))
    rw [← hXh]
    obtain ⟨hc, hhc⟩ : ∃ d, Hid (w11.heap.size = d) := ⟨_, rfl⟩
    rw [hhc.out] at kh ⊢
    clear hXh h11 hlh hdh HE2 h7d rhm rhd
    have s1 : (convert 23 9 (.slice aA mA qA)).run Try.prog Xh = .ok (.string (strOfNums A)) Xh := bytV_string bA.out
    have s2 : (convert 23 9 (.slice aC mC qC)).run Try.prog Xh = .ok (.string (strOfNums A)) Xh := bytV_string bC.out
    have p0 : Xh.cell? ⟨d, 0, none⟩ = some _ := cell_of_row Xh _ 0 _ _ _ kd
    have p1 : Xh.cell? ⟨d, 1, none⟩ = some _ := cell_of_row Xh _ 1 _ _ _ kd
    have p2 : Xh.cell? ⟨d, 2, none⟩ = some _ := cell_of_row Xh _ 2 _ _ _ kd
    have p3 : Xh.cell? ⟨d, 3, none⟩ = some _ := cell_of_row Xh _ 3 _ _ _ kd
    have p4 : Xh.cell? ⟨d, 4, none⟩ = some _ := cell_of_row Xh _ 4 _ _ _ kd
    have p5 : Xh.cell? ⟨d, 5, none⟩ = some _ := cell_of_row Xh _ 5 _ _ _ kd
    have p6 : Xh.cell? ⟨d, 6, none⟩ = some _ := cell_of_row Xh _ 6 _ _ _ kd
    have p7 : Xh.cell? ⟨d, 7, none⟩ = some _ := cell_of_row Xh _ 7 _ _ _ kd
    have p8 : Xh.cell? ⟨d, 8, none⟩ = some _ := cell_of_row Xh _ 8 _ _ _ kd
    have p9 : Xh.cell? ⟨d, 9, none⟩ = some _ := cell_of_row Xh _ 9 _ _ _ kd
    have p10 : Xh.cell? ⟨d, 10, none⟩ = some _ := cell_of_row Xh _ 10 _ _ _ kd
    have j0 : Xh.cell? ⟨hc, 0, none⟩ = some _ := cell_of_row Xh _ 0 _ _ _ kh
    have j1 : Xh.cell? ⟨hc, 1, none⟩ = some _ := cell_of_row Xh _ 1 _ _ _ kh
    have j2 : Xh.cell? ⟨hc, 2, none⟩ = some _ := cell_of_row Xh _ 2 _ _ _ kh
    have j3 : Xh.cell? ⟨hc, 3, none⟩ = some _ := cell_of_row Xh _ 3 _ _ _ kh
    have j4 : Xh.cell? ⟨hc, 4, none⟩ = some _ := cell_of_row Xh _ 4 _ _ _ kh
    have j5 : Xh.cell? ⟨hc, 5, none⟩ = some _ := cell_of_row Xh _ 5 _ _ _ kh
    have j6 : Xh.cell? ⟨hc, 6, none⟩ = some _ := cell_of_row Xh _ 6 _ _ _ kh
    have j7 : Xh.cell? ⟨hc, 7, none⟩ = some _ := cell_of_row Xh _ 7 _ _ _ kh
    have j8 : Xh.cell? ⟨hc, 8, none⟩ = some _ := cell_of_row Xh _ 8 _ _ _ kh
    have j9 : Xh.cell? ⟨hc, 9, none⟩ = some _ := cell_of_row Xh _ 9 _ _ _ kh
    have j10 : Xh.cell? ⟨hc, 10, none⟩ = some _ := cell_of_row Xh _ 10 _ _ _ kh
    go_wp2_with fail
    refine (same_yes _ _ _ _ _ _ _ _ _ _ _ _ _ mm.Ms mm.D Xh im.out ih.out bd.out bh.out hEm).mono ?_
    rintro e w14 ⟨rfl, h14⟩
    go_upto_region 10 with fail
    have em : md = mm.D.length := (bytV_cap bd.out).1
    have eA : mA = A.length := (bytV_cap bA.out).1
    have hmut : MutM w1 w14 (.slice ad' md qd) md (.slice aA mA qA) mA d (mm.C (.slice amM mmM qmM) (.slice ad' md qd)) :=
      ⟨h7.trans h14, by have h := (ud'.out.mono hb9).later h14; rw [← em] at h; exact h, by have h := uA.out.later h14; rw [← eA] at h; exact h, (h14.block d (Array.getElem?_eq_some_iff.1 kd).1).trans kd⟩
    have hmd : md ≤ 70000 := by omega
    have hmA : mA ≤ 71000 := by omega
    clear em eA h7 h14 ud' uA kd kh bd bA bC bh im ih s1 s2 p0 p1 p2 p3 p4 p5 p6 p7 p8 p9 p10 j0 j1 j2 j3 j4 j5 j6 j7 j8 j9 j10 rO bO8 bM1 bD1
    have e3 : w14.cell? ⟨d, 10, none⟩ = some (.slice ad' md qd) := cell_of_row _ _ 10 _ _ _ hmut.kd
    replace hmut := Lib.hid hmut
    go_upto_region 11 with fail
    clear e3
    go_loopg [14, 83] (md + 1) (fun g y14 y wr => MutM w1 wr (.slice ad' md qd) md (.slice aA mA qA) mA d (mm.C (.slice amM mmM qmM) (.slice ad' md qd)) ∧ ∃ i : Nat, g = md + 1 - i ∧ i ≤ md ∧ y = .int .i64 i)
    case atStart => exact ⟨hmut.out, 0, by omega, Nat.zero_le _, rfl⟩
    case round =>
      clear hmut
      obtain ⟨hm, i, rfl, him, rfl⟩ := hrel
      obtain ⟨wo, rfl⟩ : ∃ wo : World, wo = wr := ⟨_, rfl⟩
      by_cases hi : i < md
      · have hii : (i : Int) < (md : Int) := by omega
        obtain ⟨g, cap, x, he, hge, hc, hf, hblk⟩ := hm.ud.at_ hi
        injection he with he1 he2 he3
        subst he1 he3
        have hl2 : Later wo wo.drew := (Later.refl _).drew
        obtain ⟨w2, hw2⟩ : ∃ X, X = wo.drew := ⟨_, rfl⟩
        rw [← hw2] at hl2
        have hm2 := hm.step hl2
        have e3 : w2.cell? ⟨d, 10, none⟩ = some (.slice (some ⟨g, 0, none⟩) md qd) := cell_of_row _ _ 10 _ _ _ hm2.kd
        have c1 := hl2.cell hc
        have f1 := hl2.frozen hc hf
        have hb2 : ∃ c, w2.heap[g]? = some (.cells c 5 (0, 0)) := by obtain ⟨c, h⟩ := hblk; exact ⟨c, (hl2.block g (Array.getElem?_eq_some_iff.1 h).1).trans h⟩
        replace hm2 := Lib.hid hm2
        clear hm hl2 hc hf hblk
        go_upto_region 13 with fail
        refine wp_region_still_tail 10 (by kernel_rfl) (by kernel_rfl) ?_
        change wpStill _ _ wo.drew (fun a' => wpList _ _ _ _ a' wo.drew) _ _
        rw [← hw2]
        clear hw2
        simp only [List.take_succ_cons, List.take_zero, List.drop_succ_cons, List.drop_zero]
        repeat still_step
        refine wpStill_nil ?_
        go_wp2_with fail
        go_roundg (md - i)
        case measure => omega
        case rel => exact ⟨hm2.out.set hge hb2 _ _, i + 1, by omega, by omega, by go_num⟩
      · obtain rfl : md = i := by omega
        have hii : ¬ (md : Int) < (md : Int) := by omega
        have hmut := Lib.hid hm
        clear hm
        go_upto_region 16 with fail
        go_loopg [15, 99] (mA + 1) (fun g y15 y wr => MutM w1 wr (.slice ad' md qd) md (.slice aA mA qA) mA d (mm.C (.slice amM mmM qmM) (.slice ad' md qd)) ∧ ∃ i : Nat, g = mA + 1 - i ∧ i ≤ mA ∧ y = .int .i64 i)
        case atStart => exact ⟨hmut.out, 0, by omega, Nat.zero_le _, rfl⟩
        case round =>
          clear hmut
          obtain ⟨hm, i, rfl, him, rfl⟩ := hrel
          obtain ⟨wo, rfl⟩ : ∃ wo : World, wo = wr := ⟨_, rfl⟩
          by_cases hi : i < mA
          · have hii : (i : Int) < (mA : Int) := by omega
            obtain ⟨g, cap, x, he, hge, hc, hf, hblk⟩ := hm.uA.at_ hi
            injection he with he1 he2 he3
            subst he1 he3
            replace hm := Lib.hid hm
            go_wp2_with fail
            go_roundg (mA - i)
            case measure => omega
            case rel => exact ⟨hm.out.set hge hblk _ _, i + 1, by omega, by omega, by go_num⟩
          · obtain rfl : mA = i := by omega
            have hii : ¬ (mA : Int) < (mA : Int) := by omega
            have hL := hm.later
            have t1 : (convert 23 9 (.slice a1 m1 q1)).run Try.prog wo = .ok (.string (strOfNums (B ++ [7]))) wo := bytV_string (bO1.out.later hL)
            have t2 : (convert 23 9 (.slice aB nB cB)).run Try.prog wo = .ok (.string (strOfNums B)) wo := bytV_string (bB1.out.later hL)
            rw [strOf_snoc] at t1
            have z1 : ¬ 9223372036854775807 < (strOfNums B).size + 1 := by rw [strOfNums_size]; omega
            have hend := Lib.hid (hW1.trans hL)
            clear hm hL
            go_wp2_with fail
            go_ret
            exact ⟨rfl, hend.out⟩
end Go.Proofs.Ytjelfiljebamgaa
