/-
  Chapter 28's law NodeAgain: its examples.
-/
import Derived.Test.YtjelfiljebamgaaNdM
import Derived.Test.YtjelfiljebamgaaNdH
import Derived.Test.YtjelfiljebamgaaNdE
import Derived.Test.YtjelfiljebamgaaNdF
import Derived.Test.YtjelfiljebamgaaNdJ
import Derived.Laws.IdiomStrings
namespace Go.Proofs.Ytjelfiljebamgaa
open Go.RowKit Go.Shelf
set_option linter.unusedVariables false
set_option linter.unusedSimpArgs false
attribute [local go_sem] Oper.semAt_some

theorem cell_of_row' {w : World} {b : Nat} {c : Array Value} {t : TypeId} {fr : Nat × Nat} (h : w.heap[b]? = some (.cells c t fr)) (k : Nat) : w.cell? ⟨b, k, none⟩ = c[k]? := by
  simp [World.cell?, h]
theorem own_form4n {W : World} {base e k size : Nat} {v : Value} {xs : List Value} (h : W.ownsRow base e size v k xs) : ∃ m a q, v = .slice a m q := row_form h
theorem msg_write (m : Msg) (um ud : Value) (W : World) (hm : IntsV W um m.Ms) (hd : BytV W ud m.D) (hN : 0 ≤ m.eN ∧ m.eN ≤ 4294967295) (hM : m.May) (hml : m.Ms.length ≤ 1000000) (hdl : m.D.length ≤ 1000000) :
    Calls Try.prog 35 #[m.V um ud] W fun e w' => ∃ v, e = .returned (.tuple #[v, .int .i64 0]) ∧ w'.ownsRow W.heap.size 5 1 v m.W.length (encB m.W) ∧ Later W w' :=
  writeM_yes m.k m.eN m.eB um m.fr m.ro m.mf m.mt m.sf m.st ud m.Ms m.D W hm hd hml hdl hN hM
theorem msg_byt {m : Msg} (hM : m.May) (hN : 0 ≤ m.eN ∧ m.eN ≤ 4294967295) (hD : Byt m.D) : Byt m.W ∧ m.W.length ≤ 71000 := wrM_ok hM hN hD
theorem msg_same (m : Msg) (um ud vm vd : Value) (W : World) (hm : IntsV W um m.Ms) (hm' : IntsV W vm m.Ms) (hd : BytV W ud m.D) (hd' : BytV W vd m.D) (hml : m.Ms.length ≤ 1000000) :
    Calls Try.prog 39 #[m.V um ud, m.V vm vd] W fun e w' => e = .returned (.bool true) ∧ Later W w' :=
  same_yes m.k m.eN m.eB um vm m.fr m.ro m.mf m.mt m.sf m.st ud vd m.Ms m.D W hm hm' hd hd' hml
theorem bytes_of {L : List Int} (hb : Byt L) (w : World) : ∃ X v', (convert 9 23 (.string (strOfNums L))).run Try.prog w = .ok v' X ∧ Later w X ∧ BytV X v' L ∧ ∃ a m q, v' = .slice a m q := by
  have hc := run_bytes_of_string (P := Try.prog) w 9 23 5 (strOfNums L) Try.underlying9 Try.underlying23 Try.underlying5
  refine ⟨_, _, hc, ((Later.refl _).drew).alloc _, ⟨hb, _, _, by rw [strOfNums_size], ⟨by rw [← strOfNums_size]; exact grownCap_ge _ _ _ _, fun e => by cases e⟩, fun k hk => ⟨_, 0, rfl, ?_⟩⟩, _, _, _, rfl⟩
  rw [Nat.zero_add]
  have hh := heap_alloc_new w.drew (.cells (bytesRow (strOfNums L) (grownCap w (strOfNums L).size 0 5)) 5 ((bytesRow (strOfNums L) (grownCap w (strOfNums L).size 0 5)).size, (bytesRow (strOfNums L) (grownCap w (strOfNums L).size 0 5)).size + 1))
  refine (cell_of_row' hh k).trans ?_
  have hk2 : k < (strOfNums L).data.size := by rw [show (strOfNums L).data.size = L.length from by simp [strOfNums]]; exact hk
  rw [bytesRow_at _ _ _ hk2]
  have h2 : (strOfNums L).data[k] = UInt8.ofNat (L[k]).toNat := by simp [strOfNums]
  have h3 := hb (L[k]) (List.getElem_mem hk)
  have h4 : (UInt8.ofNat (L[k]).toNat).toNat = (L[k]).toNat := by rw [UInt8.toNat_ofNat']; exact Nat.mod_eq_of_lt (by omega)
  have h5 : L.getD k 0 = L[k] := by rw [List.getD_eq_getElem?_getD, List.getElem?_eq_getElem hk]; rfl
  rw [h2, h4, h5, Int.toNat_of_nonneg h3.1]
set_option maxRecDepth 100000 in
theorem told_any (m : Msg) (um ud : Value) (S : ByteArray) (W : World) (hm : IntsV W um m.Ms) (hd : BytV W ud m.D) (hN : 0 ≤ m.eN ∧ m.eN ≤ 4294967295) (hM : m.May) (hml : m.Ms.length ≤ 1000000) (hdl : m.D.length ≤ 1000000) (hS : strOfNums m.W = S) :
    Calls Try.prog 75 #[m.V um ud, .string S] W fun e w' => e = .returned (.bool true) ∧ Later W w' := by
  obtain ⟨am, cm, hume⟩ := intsV_form hm
  obtain ⟨ad, cd, hude⟩ := bytV_form hd
  obtain ⟨nM, hnM⟩ : ∃ n, Hid (m.Ms.length = n) := ⟨_, rfl⟩
  obtain ⟨nD, hnD⟩ : ∃ n, Hid (m.D.length = n) := ⟨_, rfl⟩
  rw [hnM.out] at hume
  rw [hnD.out] at hude
  subst hume hude
  have hWB := msg_byt hM hN hd.1
  have hRD := rd_wr hM hN
  obtain ⟨X0, hX0⟩ : ∃ X, X = W.alloc (.cells (m.C (.slice am nM cm) (.slice ad nD cd)) 88) := ⟨_, rfl⟩
  have hl0 : Later W X0 := by rw [hX0]; exact (Later.refl _).alloc _
  have k0 : X0.heap[W.heap.size]? = some (.cells (m.C (.slice am nM cm) (.slice ad nD cd)) 88 (0, 0)) := by rw [hX0]; exact push_new W _ rfl
  have hm0 := Lib.hid (hm.later hl0)
  have hd0 := Lib.hid (hd.later hl0)
  have HW := Lib.hid (msg_write m _ _ X0 hm0.out hd0.out hN hM hml hdl)
  clear hm hd
  go_enter Try.func75, Try.ntmps75
  go_upto_region 1 with fail
  change Code.wp _ _ _ _ (W.alloc (.cells (m.C (.slice am nM cm) (.slice ad nD cd)) 88))
  rw [← hX0]
  obtain ⟨P, hP⟩ : ∃ P, Hid (W.heap.size = P) := ⟨_, rfl⟩
  rw [hP.out] at k0 ⊢
  clear hX0
  have p0 : X0.cell? ⟨P, 0, none⟩ = some _ := cell_of_row X0 _ 0 _ _ _ k0
  have p1 : X0.cell? ⟨P, 1, none⟩ = some _ := cell_of_row X0 _ 1 _ _ _ k0
  have p2 : X0.cell? ⟨P, 2, none⟩ = some _ := cell_of_row X0 _ 2 _ _ _ k0
  have p3 : X0.cell? ⟨P, 3, none⟩ = some _ := cell_of_row X0 _ 3 _ _ _ k0
  have p4 : X0.cell? ⟨P, 4, none⟩ = some _ := cell_of_row X0 _ 4 _ _ _ k0
  have p5 : X0.cell? ⟨P, 5, none⟩ = some _ := cell_of_row X0 _ 5 _ _ _ k0
  have p6 : X0.cell? ⟨P, 6, none⟩ = some _ := cell_of_row X0 _ 6 _ _ _ k0
  have p7 : X0.cell? ⟨P, 7, none⟩ = some _ := cell_of_row X0 _ 7 _ _ _ k0
  have p8 : X0.cell? ⟨P, 8, none⟩ = some _ := cell_of_row X0 _ 8 _ _ _ k0
  have p9 : X0.cell? ⟨P, 9, none⟩ = some _ := cell_of_row X0 _ 9 _ _ _ k0
  have p10 : X0.cell? ⟨P, 10, none⟩ = some _ := cell_of_row X0 _ 10 _ _ _ k0
  go_wp2_with fail
  refine HW.out.mono ?_
  rintro e w1 ⟨v, rfl, hr, h1⟩
  obtain ⟨mv, av, qv, rfl⟩ := own_form4n hr
  have bv := Lib.hid (bytV_of_row hWB.1 hr).1
  obtain ⟨X2, v2, hcv, hl2, b2, m2, a2, q2, hv2⟩ := bytes_of hWB.1 w1
  rw [hS, hv2] at hcv
  rw [hv2] at b2
  have kP2 := ((h1.trans hl2).block P (Array.getElem?_eq_some_iff.1 k0).1).trans k0
  have HRd := readM_any _ m.W X2 b2 (Nat.le_trans hWB.2 (by omega))
  rw [hRD] at HRd
  replace HRd := Lib.hid HRd
  have hl02 := h1.trans hl2
  replace bv := Lib.hid (bv.out.later hl2)
  have hb2 := Lib.hid b2
  have hDb := Lib.hid hd0.out.1
  clear hr b2 hl2 h1 hv2 p0 p1 p2 p3 p4 p5 p6 p7 p8 p9 p10 HW hRD
  go_wp2_with fail
  refine HRd.out.mono ?_
  rintro e w4 ⟨⟨vm, vd, rfl, rm, rd⟩, h4⟩
  obtain ⟨xm, xam, xqm, rfl⟩ := own_form4n rm
  obtain ⟨xd, xad, xqd, rfl⟩ := own_form4n rd
  go_upto_region 3 with fail
  obtain ⟨X5, hX5⟩ : ∃ X, X = w4.alloc (.cells (m.C (.slice xam xm xqm) (.slice xad xd xqd)) 88) := ⟨_, rfl⟩
  have hl5 : Later w4 X5 := by rw [hX5]; exact (Later.refl _).alloc _
  have kd : X5.heap[w4.heap.size]? = some (.cells (m.C (.slice xam xm xqm) (.slice xad xd xqd)) 88 (0, 0)) := by rw [hX5]; exact push_new w4 _ rfl
  have hl45 := h4.trans hl5
  have HSm := Lib.hid (msg_same m _ _ _ _ X5 ((intsV_of_row rm).later hl5) (hm0.out.later (hl02.trans hl45)) ((bytV_of_row hDb.out rd).1.later hl5) (hd0.out.later (hl02.trans hl45)) hml)
  have kP5 := (hl45.block P (Array.getElem?_eq_some_iff.1 kP2).1).trans kP2
  have s1 : (convert 23 9 (.slice av mv qv)).run Try.prog X5 = .ok (.string S) X5 := by rw [← hS]; exact bytV_string (bv.out.later hl45)
  change Code.wp _ _ _ _ (w4.alloc (.cells (m.C (.slice xam xm xqm) (.slice xad xd xqd)) 88))
  rw [← hX5]
  obtain ⟨d, hdd⟩ : ∃ d, Hid (w4.heap.size = d) := ⟨_, rfl⟩
  rw [hdd.out] at kd ⊢
  have hend := Lib.hid (hl0.trans (hl02.trans hl45))
  clear hX5 hl5 h4 hl45 rm rd hl02 hl0
  have p0 : X5.cell? ⟨P, 0, none⟩ = some _ := cell_of_row X5 _ 0 _ _ _ kP5
  have p1 : X5.cell? ⟨P, 1, none⟩ = some _ := cell_of_row X5 _ 1 _ _ _ kP5
  have p2 : X5.cell? ⟨P, 2, none⟩ = some _ := cell_of_row X5 _ 2 _ _ _ kP5
  have p3 : X5.cell? ⟨P, 3, none⟩ = some _ := cell_of_row X5 _ 3 _ _ _ kP5
  have p4 : X5.cell? ⟨P, 4, none⟩ = some _ := cell_of_row X5 _ 4 _ _ _ kP5
  have p5 : X5.cell? ⟨P, 5, none⟩ = some _ := cell_of_row X5 _ 5 _ _ _ kP5
  have p6 : X5.cell? ⟨P, 6, none⟩ = some _ := cell_of_row X5 _ 6 _ _ _ kP5
  have p7 : X5.cell? ⟨P, 7, none⟩ = some _ := cell_of_row X5 _ 7 _ _ _ kP5
  have p8 : X5.cell? ⟨P, 8, none⟩ = some _ := cell_of_row X5 _ 8 _ _ _ kP5
  have p9 : X5.cell? ⟨P, 9, none⟩ = some _ := cell_of_row X5 _ 9 _ _ _ kP5
  have p10 : X5.cell? ⟨P, 10, none⟩ = some _ := cell_of_row X5 _ 10 _ _ _ kP5
  have j0 : X5.cell? ⟨d, 0, none⟩ = some _ := cell_of_row X5 _ 0 _ _ _ kd
  have j1 : X5.cell? ⟨d, 1, none⟩ = some _ := cell_of_row X5 _ 1 _ _ _ kd
  have j2 : X5.cell? ⟨d, 2, none⟩ = some _ := cell_of_row X5 _ 2 _ _ _ kd
  have j3 : X5.cell? ⟨d, 3, none⟩ = some _ := cell_of_row X5 _ 3 _ _ _ kd
  have j4 : X5.cell? ⟨d, 4, none⟩ = some _ := cell_of_row X5 _ 4 _ _ _ kd
  have j5 : X5.cell? ⟨d, 5, none⟩ = some _ := cell_of_row X5 _ 5 _ _ _ kd
  have j6 : X5.cell? ⟨d, 6, none⟩ = some _ := cell_of_row X5 _ 6 _ _ _ kd
  have j7 : X5.cell? ⟨d, 7, none⟩ = some _ := cell_of_row X5 _ 7 _ _ _ kd
  have j8 : X5.cell? ⟨d, 8, none⟩ = some _ := cell_of_row X5 _ 8 _ _ _ kd
  have j9 : X5.cell? ⟨d, 9, none⟩ = some _ := cell_of_row X5 _ 9 _ _ _ kd
  have j10 : X5.cell? ⟨d, 10, none⟩ = some _ := cell_of_row X5 _ 10 _ _ _ kd
  go_wp2_with fail
  refine HSm.out.mono ?_
  rintro e w9 ⟨rfl, h9⟩
  go_wp2_with fail
  go_ret
  exact ⟨rfl, hend.out.trans h9⟩
theorem zero_may {m : Msg} (h : m = Msg.zero) : ¬ m.May := by
  subst h
  intro hm
  obtain ⟨_, _, _, _, _, _, _, _, _, _, _, _, _, _, _, hk⟩ := hm
  dsimp only at hk
  omega
def mA : Msg := ⟨1, 300, 1, [1, 5], 0, 0, 0, 0, 0, 0, []⟩
def mB : Msg := ⟨6, 2, 0, [], 7, 0, 0, 0, 0, 0, []⟩
def mC : Msg := ⟨4, 1, 0, [], 3, 1, 0, 2, 4, 8, [97, 98]⟩
theorem mA_w : strOfNums mA.W = { data := #[1, 172, 2, 1, 2, 1, 5] } := by kernel_rfl
theorem mB_w : strOfNums mB.W = { data := #[6, 2, 0, 7] } := by kernel_rfl
theorem mC_w : strOfNums mC.W = { data := #[4, 1, 0, 3, 1, 0, 2, 4, 8, 2, 97, 98] } := by kernel_rfl
theorem mA_m : mA.May := by unfold Msg.May MayM mA; decide
theorem mB_m : mB.May := by unfold Msg.May MayM mB; decide
theorem mC_m : mC.May := by unfold Msg.May MayM mC; decide
end Go.Proofs.Ytjelfiljebamgaa
