/-
  Chapter 28: a message that may not be is not written; the document's writer.
-/
import Derived.Test.YtjelfiljebamgaaNdE
namespace Go.Proofs.Ytjelfiljebamgaa
open Go.RowKit Go.Shelf
set_option linter.unusedVariables false
set_option linter.unusedSimpArgs false
attribute [local go_sem] Oper.semAt_some

set_option maxRecDepth 100000 in
theorem writeM_no (k eN eB : Int) (um : Value) (fr ro mf mt sf st : Int) (ud : Value) (Ms D : List Int) (W : World) (hm : IntsV W um Ms) (hd : BytV W ud D) (hml : Ms.length ≤ 1000000) (hdl : D.length ≤ 1000000)
    (h : ¬ MayM k eB fr ro mf mt sf st Ms.length D.length (risen (-1) Ms).toNat) :
    Calls Try.prog 35 #[msV k eN eB um fr ro mf mt sf st ud] W fun e w' => e = .returned (.tuple #[.slice none 0 0, .int .i64 281]) ∧ Later W w' := by
  have hl0 : Later W (W.alloc (.cells (msC k eN eB um fr ro mf mt sf st ud) 88)) := (Later.refl _).alloc _
  have HF := Lib.hid (fineM_any k eN eB um fr ro mf mt sf st ud Ms D _ (hm.later hl0) (hd.later hl0) hml hdl)
  rw [decide_eq_false h] at HF
  clear hm hd h
  go_enter Try.func35, Try.ntmps35
  go_wp2_with fail
  refine HF.out.mono ?_
  rintro e w1 ⟨rfl, hl1⟩
  go_wp2_with fail
  go_ret2
  exact ⟨rfl, hl0.trans hl1⟩
set_option maxRecDepth 100000 in
theorem write28_no (k eN eB : Int) (um : Value) (fr ro mf mt sf st : Int) (ud : Value) (Ms D : List Int) (W : World) (hm : IntsV W um Ms) (hd : BytV W ud D) (hml : Ms.length ≤ 1000000) (hdl : D.length ≤ 1000000)
    (h : ¬ MayM k eB fr ro mf mt sf st Ms.length D.length (risen (-1) Ms).toNat) :
    Calls Try.prog 36 #[msV k eN eB um fr ro mf mt sf st ud] W fun e w' => e = .returned (.tuple #[.slice none 0 0, .int .i64 281]) ∧ Later W w' := by
  have hl0 : Later W (W.alloc (.cells (msC k eN eB um fr ro mf mt sf st ud) 88)) := (Later.refl _).alloc _
  have HF := Lib.hid (may28_any k eN eB um fr ro mf mt sf st ud Ms D _ (hm.later hl0) (hd.later hl0) hml hdl)
  rw [decide_eq_false h] at HF
  clear hm hd h
  go_enter Try.func36, Try.ntmps36
  go_wp2_with fail
  refine HF.out.mono ?_
  rintro e w1 ⟨rfl, hl1⟩
  go_wp2_with fail
  go_ret2
  exact ⟨rfl, hl0.trans hl1⟩
/-- The document's writer of a message, and what it lies among. -/
structure RX (W : World) (P p : Nat) (cs : Array Value) (um ud : Value) (Ms D L : List Int) (w : World) : Prop where
  wr : ∃ v, RwB w p v L
  kP : w.heap[P]? = some (.cells cs 88 (0, 0))
  vm : IntsV w um Ms
  vd : BytV w ud D
  im : In um (· < W.heap.size)
  id_ : In ud (· < W.heap.size)
  ls : Later W w
  o1 : W.heap.size ≤ P
  o2 : P < p
section
variable {W w w' : World} {P p : Nat} {cs : Array Value} {um ud : Value} {Ms D L L' : List Int}
theorem RX.step (h : RX W P p cs um ud Ms D L w) (hw : ∃ v, RwB w' p v L') (hg : w.grownBy w' (some p)) : RX W P p cs um ud Ms D L' w' := by
  have o1 := h.o1; have o2 := h.o2
  have hb : ∀ g, g < w.heap.size → g ≠ p → w'.heap[g]? = w.heap[g]? := fun g hl hne => hg.block g hl (fun e => hne (Option.some.inj e))
  exact ⟨hw, (hb P (Array.getElem?_eq_some_iff.1 h.kP).1 (by omega)).trans h.kP,
    h.vm.stay h.im (fun g hg hl => hb g hl (by have hg : g < W.heap.size := hg; omega)),
    h.vd.stay h.id_ (fun g hg hl => hb g hl (by have hg : g < W.heap.size := hg; omega)),
    h.im, h.id_, rw_step h.ls hg (by omega), h.o1, h.o2⟩
theorem RX.cell (h : RX W P p cs um ud Ms D L w) (k : Nat) : w.cell? ⟨P, k, none⟩ = cs[k]? := cell_of_row w P k _ _ _ h.kP
theorem RX.uint {x : Int} (h : RX W P p cs um ud Ms D L w) (hx : 0 ≤ x ∧ x ≤ 4294967295) (hL : L.length ≤ 900000) :
    Calls Try.prog 48 #[wp p, .int .u64 x] w fun e w' => e = .returned (.tuple #[]) ∧ RX W P p cs um ud Ms D (L ++ fm x.toNat) w' := by
  obtain ⟨v, hv⟩ := h.wr
  obtain ⟨n, rfl⟩ : ∃ n : Nat, x = n := ⟨x.toNat, by omega⟩
  refine (uint05_any p n v L w hv (by omega) hL).mono ?_
  rintro e w' ⟨rfl, hw, hg⟩
  exact ⟨rfl, h.step hw hg⟩
theorem RX.text (h : RX W P p cs um ud Ms D L w) (hn : D.length ≤ 70000) (hL : L.length ≤ 100000) :
    Calls Try.prog 49 #[wp p, ud, .int .i64 70000] w fun e w' => e = .returned (.tuple #[]) ∧ RX W P p cs um ud Ms D (L ++ fm D.length ++ D) w' := by
  obtain ⟨v, hv⟩ := h.wr
  refine (text05_any p 70000 v ud L D w hv h.vd hn hL (by omega)).mono ?_
  rintro e w' ⟨rfl, hw, hg⟩
  exact ⟨rfl, h.step hw hg⟩
end
set_option maxRecDepth 100000 in
set_option maxHeartbeats 1000000 in
theorem write28_yes (k eN eB : Int) (um : Value) (fr ro mf mt sf st : Int) (ud : Value) (Ms D : List Int) (W : World) (hm : IntsV W um Ms) (hd : BytV W ud D) (hml : Ms.length ≤ 1000000) (hdl : D.length ≤ 1000000)
    (hN : 0 ≤ eN ∧ eN ≤ 4294967295) (h : MayM k eB fr ro mf mt sf st Ms.length D.length (risen (-1) Ms).toNat) :
    Calls Try.prog 36 #[msV k eN eB um fr ro mf mt sf st ud] W fun e w' => ∃ v, e = .returned (.tuple #[v, .int .i64 0]) ∧ BytV w' v (wrM k eN eB Ms fr ro mf mt sf st D) ∧ Later W w' := by
  have hl0 : Later W (W.alloc (.cells (msC k eN eB um fr ro mf mt sf st ud) 88)) := (Later.refl _).alloc _
  have HF := Lib.hid (may28_any k eN eB um fr ro mf mt sf st ud Ms D _ (hm.later hl0) (hd.later hl0) hml hdl)
  rw [decide_eq_true h] at HF
  obtain ⟨am, cm, hume⟩ := intsV_form hm
  obtain ⟨ad, cd, hude⟩ := bytV_form hd
  obtain ⟨nm, hnm⟩ : ∃ n, Hid (Ms.length = n) := ⟨_, rfl⟩
  obtain ⟨nd, hnd⟩ : ∃ n, Hid (D.length = n) := ⟨_, rfl⟩
  obtain ⟨RR, hRR⟩ : ∃ R, Hid (risen (-1) Ms = R) := ⟨_, rfl⟩
  rw [hnm.out, hnd.out, hRR.out] at h
  rw [hnm.out] at hume hml
  rw [hnd.out] at hude hdl
  obtain ⟨hB1, hB2, hF1, hF2, hD1, ha1, ha2, hb1, hb2, hr1, hr2, hs1, hs2, hf1, hf2, hk⟩ := h
  have hk6 : 1 ≤ k ∧ k ≤ 6 := by omega
  have hall : Hid ((0 ≤ eB ∧ eB ≤ 63) ∧ (0 ≤ fr ∧ fr ≤ 1000) ∧ nd ≤ 70000 ∧ (0 ≤ mf ∧ mf ≤ 63) ∧ (0 ≤ mt ∧ mt ≤ 63) ∧ (0 ≤ ro ∧ ro ≤ 6) ∧ (0 ≤ st ∧ st ≤ 4096) ∧ (0 ≤ sf ∧ sf ≤ 4096) ∧ (1 ≤ k ∧ k ≤ 6) ∧ 0 ≤ eN ∧ eN ≤ 4294967295) := Lib.hid (by omega)
  replace hk := Lib.hid hk
  have hmW := hm
  have hdW := hd
  clear hm hd
  subst hume hude
  go_enter Try.func36, Try.ntmps36
  go_wp2_with fail
  refine HF.out.mono ?_
  rintro e w1 ⟨rfl, hl1⟩
  have kP1 := (hl1.block W.heap.size (by simp)).trans (heap_alloc_new W (.cells (msC k eN eB (.slice am nm cm) fr ro mf mt sf st (.slice ad nd cd)) 88))
  go_upto_region 5 with fail
  have hw := newWriter05 w1
  obtain ⟨X3, hX3⟩ : ∃ X, X = w1.alloc (.cells #[.slice none 0 0, .bool false] 106) := ⟨_, rfl⟩
  have hl3 : Later w1 X3 := by rw [hX3]; exact (Later.refl _).alloc _
  rw [← hX3] at hw ⊢
  have hPl := (Array.getElem?_eq_some_iff.1 kP1).1
  have hX : RX W W.heap.size w1.heap.size (msC k eN eB (.slice am nm cm) fr ro mf mt sf st (.slice ad nd cd)) (.slice am nm cm) (.slice ad nd cd) Ms D [] X3 :=
    ⟨⟨_, hw⟩, (hl3.block _ hPl).trans kP1, (hmW.later hl0).later (hl1.trans hl3), (hdW.later hl0).later (hl1.trans hl3), hmW.lt, hdW.lt, (hl0.trans hl1).trans hl3, Nat.le_refl _, hPl⟩
  obtain ⟨P, hP⟩ : ∃ P, Hid (W.heap.size = P) := ⟨_, rfl⟩
  obtain ⟨p, hp⟩ : ∃ p, Hid (w1.heap.size = p) := ⟨_, rfl⟩
  simp only [hP.out, hp.out] at hX ⊢
  clear hX3 hl3 hPl hw kP1 hl1 HF hl0 hmW hdW
  have m0 : X3.cell? ⟨P, 0, none⟩ = some _ := hX.cell 0
  have m1 : X3.cell? ⟨P, 1, none⟩ = some _ := hX.cell 1
  have m2 : X3.cell? ⟨P, 2, none⟩ = some _ := hX.cell 2
  have m3 : X3.cell? ⟨P, 3, none⟩ = some _ := hX.cell 3
  have m4 : X3.cell? ⟨P, 4, none⟩ = some _ := hX.cell 4
  have m5 : X3.cell? ⟨P, 5, none⟩ = some _ := hX.cell 5
  have m6 : X3.cell? ⟨P, 6, none⟩ = some _ := hX.cell 6
  have m7 : X3.cell? ⟨P, 7, none⟩ = some _ := hX.cell 7
  have m8 : X3.cell? ⟨P, 8, none⟩ = some _ := hX.cell 8
  have m9 : X3.cell? ⟨P, 9, none⟩ = some _ := hX.cell 9
  have m10 : X3.cell? ⟨P, 10, none⟩ = some _ := hX.cell 10
  have e1 := fm_len k.toNat
  have e2 := fm_len eN.toNat
  have e3 := fm_len eB.toNat
  go_wp2_with fail
  refine (hX.uint (x := k) (by have hh := hall.out; omega) (by simp only [List.length_append, List.length_nil, List.length_cons] at *; omega)).mono ?_
  rintro e w3 ⟨rfl, hX⟩
  clear m0 m1 m2 m3 m4 m5 m6 m7 m8 m9 m10
  have m0 : w3.cell? ⟨P, 0, none⟩ = some _ := hX.cell 0
  have m1 : w3.cell? ⟨P, 1, none⟩ = some _ := hX.cell 1
  have m2 : w3.cell? ⟨P, 2, none⟩ = some _ := hX.cell 2
  have m3 : w3.cell? ⟨P, 3, none⟩ = some _ := hX.cell 3
  have m4 : w3.cell? ⟨P, 4, none⟩ = some _ := hX.cell 4
  have m5 : w3.cell? ⟨P, 5, none⟩ = some _ := hX.cell 5
  have m6 : w3.cell? ⟨P, 6, none⟩ = some _ := hX.cell 6
  have m7 : w3.cell? ⟨P, 7, none⟩ = some _ := hX.cell 7
  have m8 : w3.cell? ⟨P, 8, none⟩ = some _ := hX.cell 8
  have m9 : w3.cell? ⟨P, 9, none⟩ = some _ := hX.cell 9
  have m10 : w3.cell? ⟨P, 10, none⟩ = some _ := hX.cell 10
  go_wp2_with fail
  refine (hX.uint (x := eN) (by have hh := hall.out; omega) (by simp only [List.length_append, List.length_nil, List.length_cons] at *; omega)).mono ?_
  rintro e w4 ⟨rfl, hX⟩
  clear m0 m1 m2 m3 m4 m5 m6 m7 m8 m9 m10
  have m0 : w4.cell? ⟨P, 0, none⟩ = some _ := hX.cell 0
  have m1 : w4.cell? ⟨P, 1, none⟩ = some _ := hX.cell 1
  have m2 : w4.cell? ⟨P, 2, none⟩ = some _ := hX.cell 2
  have m3 : w4.cell? ⟨P, 3, none⟩ = some _ := hX.cell 3
  have m4 : w4.cell? ⟨P, 4, none⟩ = some _ := hX.cell 4
  have m5 : w4.cell? ⟨P, 5, none⟩ = some _ := hX.cell 5
  have m6 : w4.cell? ⟨P, 6, none⟩ = some _ := hX.cell 6
  have m7 : w4.cell? ⟨P, 7, none⟩ = some _ := hX.cell 7
  have m8 : w4.cell? ⟨P, 8, none⟩ = some _ := hX.cell 8
  have m9 : w4.cell? ⟨P, 9, none⟩ = some _ := hX.cell 9
  have m10 : w4.cell? ⟨P, 10, none⟩ = some _ := hX.cell 10
  go_wp2_with fail
  refine (hX.uint (x := eB) (by have hh := hall.out; omega) (by simp only [List.length_append, List.length_nil, List.length_cons] at *; omega)).mono ?_
  rintro e w5 ⟨rfl, hX⟩
  clear m0 m1 m2 m3 m4 m5 m6 m7 m8 m9 m10
  have m0 : w5.cell? ⟨P, 0, none⟩ = some _ := hX.cell 0
  have m1 : w5.cell? ⟨P, 1, none⟩ = some _ := hX.cell 1
  have m2 : w5.cell? ⟨P, 2, none⟩ = some _ := hX.cell 2
  have m3 : w5.cell? ⟨P, 3, none⟩ = some _ := hX.cell 3
  have m4 : w5.cell? ⟨P, 4, none⟩ = some _ := hX.cell 4
  have m5 : w5.cell? ⟨P, 5, none⟩ = some _ := hX.cell 5
  have m6 : w5.cell? ⟨P, 6, none⟩ = some _ := hX.cell 6
  have m7 : w5.cell? ⟨P, 7, none⟩ = some _ := hX.cell 7
  have m8 : w5.cell? ⟨P, 8, none⟩ = some _ := hX.cell 8
  have m9 : w5.cell? ⟨P, 9, none⟩ = some _ := hX.cell 9
  have m10 : w5.cell? ⟨P, 10, none⟩ = some _ := hX.cell 10
  rcases hk.out with ⟨rfl, hr1, rfl, h0, rfl, rfl, rfl, rfl, rfl⟩ | ⟨h236, hm0, h0, rfl, rfl, rfl, rfl, rfl⟩ | ⟨rfl, hm0⟩ | ⟨rfl, hm0, rfl, rfl⟩
  · have hRt : risen (-1) Ms = true := by
      rw [hRR.out]; cases RR with
      | true => rfl
      | false => cases hr1
    have hmem := Lib.hid (risen_mem hRt)
    have hlen := risen_len hRt (by omega) (by omega)
    rw [hnm.out] at hlen
    have hfl := flat_le Ms
    rw [hnm.out] at hfl
    clear hRt hr1 hk hB1 hB2 hF1 hF2 hD1 ha1 ha2 hb1 hb2 hr2 hs1 hs2 hf1 hf2 hk6
    as_aux_lemma =>
      go_wp2_with fail
      refine (hX.uint (x := (nm : Int)) (by have hh := hall.out; omega) (by simp only [List.length_append, List.length_nil, List.length_cons] at *; omega)).mono ?_
      rintro e w6 ⟨rfl, hX⟩
      clear m0 m1 m2 m3 m4 m5 m6 m7 m8 m9 m10
      have m0 : w6.cell? ⟨P, 0, none⟩ = some _ := hX.cell 0
      have m1 : w6.cell? ⟨P, 1, none⟩ = some _ := hX.cell 1
      have m2 : w6.cell? ⟨P, 2, none⟩ = some _ := hX.cell 2
      have m3 : w6.cell? ⟨P, 3, none⟩ = some _ := hX.cell 3
      have m4 : w6.cell? ⟨P, 4, none⟩ = some _ := hX.cell 4
      have m5 : w6.cell? ⟨P, 5, none⟩ = some _ := hX.cell 5
      have m6 : w6.cell? ⟨P, 6, none⟩ = some _ := hX.cell 6
      have m7 : w6.cell? ⟨P, 7, none⟩ = some _ := hX.cell 7
      have m8 : w6.cell? ⟨P, 8, none⟩ = some _ := hX.cell 8
      have m9 : w6.cell? ⟨P, 9, none⟩ = some _ := hX.cell 9
      have m10 : w6.cell? ⟨P, 10, none⟩ = some _ := hX.cell 10
      rw [show ((nm : Int)).toNat = Ms.length from by rw [hnm.out]; exact Int.toNat_natCast _] at hX
      obtain ⟨L0, hL0⟩ : ∃ L, Hid (((([] ++ fm (1 : Int).toNat) ++ fm eN.toNat) ++ fm eB.toNat) ++ fm Ms.length = L) := ⟨_, Lib.hid rfl⟩
      have hL0l : L0.length ≤ 40 := by have e4 := fm_len Ms.length; rw [← hL0.out]; simp only [List.length_append, List.length_nil]; omega
      rw [hL0.out] at hX
      clear m0 m1 m2 m3 m4 m5 m6 m7 m8 m9 m10
      go_upto_region 11 with fail
      go_loopg [6] (nm + 1) (fun g y wr => ∃ i : Nat, g = nm + 1 - i ∧ i ≤ nm ∧ y = .int .i64 i ∧ RX W P p (msC 1 eN eB (.slice am nm cm) 0 0 0 0 0 0 (.slice ad nd cd)) (.slice am nm cm) (.slice ad nd cd) Ms D (L0 ++ flat (Ms.take i)) wr)
      case atStart => exact ⟨0, by omega, Nat.zero_le _, rfl, by simpa [flat] using hX⟩
      case round =>
        clear hX
        obtain ⟨i, rfl, hin, rfl, hX⟩ := hrel
        obtain ⟨wo, rfl⟩ : ∃ wo : World, wo = wr := ⟨_, rfl⟩
        by_cases hi : i < nm
        · have hii : (i : Int) < (nm : Int) := by omega
          obtain ⟨ao', cap', e, hv⟩ := hX.vm
          injection e with e1 e2 e3
          subst e1 e3
          clear e2
          obtain ⟨g, o, rfl, hc⟩ := hv i (by rw [hnm.out]; exact hi)
          have hlt : i < Ms.length := by rw [hnm.out]; exact hi
          have hx : Ms.getD i 0 = Ms[i] := by rw [List.getD_eq_getElem?_getD, List.getElem?_eq_getElem hlt]; rfl
          have htk : Ms.take (i + 1) = Ms.take i ++ [Ms[i]] := by rw [List.take_add_one, List.getElem?_eq_getElem hlt]; rfl
          have hb2 := hmem.out _ (List.getElem_mem hlt)
          rw [hx] at hc
          obtain ⟨x, hxx⟩ : ∃ x, Ms[i] = x := ⟨_, rfl⟩
          rw [hxx] at hc htk hb2
          replace htk := Lib.hid htk
          have hx1 : 0 ≤ x ∧ x ≤ 63 := by omega
          have hfl2 := flat_le (Ms.take i)
          have hHX := Lib.hid (hX.uint (x := x) (by omega) (by rw [List.length_take] at hfl2; rw [List.length_append]; omega))
          have m3 : wo.cell? ⟨P, 3, none⟩ = some _ := hX.cell 3
          clear hv hx hxx hX hlt hfl2
          go_wp2_with fail
          refine hHX.out.mono ?_
          rintro e w7 ⟨rfl, hX⟩
          go_wp2_with fail
          go_roundg (nm - i)
          case measure => omega
          case rel => exact ⟨i + 1, by omega, by omega, by go_num, by rw [htk.out, flat_snoc, ← List.append_assoc]; exact hX⟩
        · obtain rfl : nm = i := by omega
          have hii : ¬ (nm : Int) < (nm : Int) := by omega
          rw [List.take_of_length_le (by rw [hnm.out]; exact Nat.le_refl _)] at hX
          have m3 : wo.cell? ⟨P, 3, none⟩ = some _ := hX.cell 3
          rw [← hL0.out] at hX
          simp only [List.nil_append, List.append_assoc] at hX
          rw [← wrM_1 (D := D) (fr := 0) (ro := 0) (mf := 0) (mt := 0) (sf := 0) (st := 0)] at hX
          obtain ⟨vv, hvv⟩ := hX.wr
          have cB : wo.cell? ⟨p, 0, none⟩ = some vv := cell_of_row _ p 0 _ _ _ hvv.head
          have hbv := Lib.hid hvv.val
          have hls := hX.ls
          clear hvv hX
          go_wp2_with fail
          go_ret2
          exact ⟨vv, rfl, hbv.out, hls⟩
  · have hk1 : ¬ k = 1 := by omega
    have hk4 : ¬ k = 4 := by omega
    have hk5 : ¬ k = 5 := by omega
    clear hk
    as_aux_lemma =>
      go_wp2_with fail
      refine (hX.uint (x := fr) (by have hh := hall.out; omega) (by simp only [List.length_append, List.length_nil, List.length_cons] at *; omega)).mono ?_
      rintro e w6 ⟨rfl, hX⟩
      clear m0 m1 m2 m3 m4 m5 m6 m7 m8 m9 m10
      have m0 : w6.cell? ⟨P, 0, none⟩ = some _ := hX.cell 0
      have m1 : w6.cell? ⟨P, 1, none⟩ = some _ := hX.cell 1
      have m2 : w6.cell? ⟨P, 2, none⟩ = some _ := hX.cell 2
      have m3 : w6.cell? ⟨P, 3, none⟩ = some _ := hX.cell 3
      have m4 : w6.cell? ⟨P, 4, none⟩ = some _ := hX.cell 4
      have m5 : w6.cell? ⟨P, 5, none⟩ = some _ := hX.cell 5
      have m6 : w6.cell? ⟨P, 6, none⟩ = some _ := hX.cell 6
      have m7 : w6.cell? ⟨P, 7, none⟩ = some _ := hX.cell 7
      have m8 : w6.cell? ⟨P, 8, none⟩ = some _ := hX.cell 8
      have m9 : w6.cell? ⟨P, 9, none⟩ = some _ := hX.cell 9
      have m10 : w6.cell? ⟨P, 10, none⟩ = some _ := hX.cell 10
      simp only [List.nil_append, List.append_assoc] at hX
      rw [← wrM_o (Ms := Ms) (D := D) (ro := 0) (mf := 0) (mt := 0) (sf := 0) (st := 0) hk1 hk4 hk5] at hX
      obtain ⟨vv, hvv⟩ := hX.wr
      have cB : w6.cell? ⟨p, 0, none⟩ = some vv := cell_of_row _ p 0 _ _ _ hvv.head
      have hbv := Lib.hid hvv.val
      have hls := hX.ls
      clear hvv hX
      go_wp2_with fail
      go_ret2
      exact ⟨vv, rfl, hbv.out, hls⟩
  · clear hk
    have e4 := fm_len fr.toNat
    have e5 := fm_len ro.toNat
    have e6 := fm_len mf.toNat
    have e7 := fm_len mt.toNat
    have e8 := fm_len sf.toNat
    have e9 := fm_len st.toNat
    as_aux_lemma =>
      go_wp2_with fail
      refine (hX.uint (x := fr) (by have hh := hall.out; omega) (by simp only [List.length_append, List.length_nil, List.length_cons] at *; omega)).mono ?_
      rintro e w6 ⟨rfl, hX⟩
      clear m0 m1 m2 m3 m4 m5 m6 m7 m8 m9 m10
      have m0 : w6.cell? ⟨P, 0, none⟩ = some _ := hX.cell 0
      have m1 : w6.cell? ⟨P, 1, none⟩ = some _ := hX.cell 1
      have m2 : w6.cell? ⟨P, 2, none⟩ = some _ := hX.cell 2
      have m3 : w6.cell? ⟨P, 3, none⟩ = some _ := hX.cell 3
      have m4 : w6.cell? ⟨P, 4, none⟩ = some _ := hX.cell 4
      have m5 : w6.cell? ⟨P, 5, none⟩ = some _ := hX.cell 5
      have m6 : w6.cell? ⟨P, 6, none⟩ = some _ := hX.cell 6
      have m7 : w6.cell? ⟨P, 7, none⟩ = some _ := hX.cell 7
      have m8 : w6.cell? ⟨P, 8, none⟩ = some _ := hX.cell 8
      have m9 : w6.cell? ⟨P, 9, none⟩ = some _ := hX.cell 9
      have m10 : w6.cell? ⟨P, 10, none⟩ = some _ := hX.cell 10
      go_wp2_with fail
      refine (hX.uint (x := ro) (by have hh := hall.out; omega) (by simp only [List.length_append, List.length_nil, List.length_cons] at *; omega)).mono ?_
      rintro e w7 ⟨rfl, hX⟩
      clear m0 m1 m2 m3 m4 m5 m6 m7 m8 m9 m10
      have m0 : w7.cell? ⟨P, 0, none⟩ = some _ := hX.cell 0
      have m1 : w7.cell? ⟨P, 1, none⟩ = some _ := hX.cell 1
      have m2 : w7.cell? ⟨P, 2, none⟩ = some _ := hX.cell 2
      have m3 : w7.cell? ⟨P, 3, none⟩ = some _ := hX.cell 3
      have m4 : w7.cell? ⟨P, 4, none⟩ = some _ := hX.cell 4
      have m5 : w7.cell? ⟨P, 5, none⟩ = some _ := hX.cell 5
      have m6 : w7.cell? ⟨P, 6, none⟩ = some _ := hX.cell 6
      have m7 : w7.cell? ⟨P, 7, none⟩ = some _ := hX.cell 7
      have m8 : w7.cell? ⟨P, 8, none⟩ = some _ := hX.cell 8
      have m9 : w7.cell? ⟨P, 9, none⟩ = some _ := hX.cell 9
      have m10 : w7.cell? ⟨P, 10, none⟩ = some _ := hX.cell 10
      go_wp2_with fail
      refine (hX.uint (x := mf) (by have hh := hall.out; omega) (by simp only [List.length_append, List.length_nil, List.length_cons] at *; omega)).mono ?_
      rintro e w8 ⟨rfl, hX⟩
      clear m0 m1 m2 m3 m4 m5 m6 m7 m8 m9 m10
      have m0 : w8.cell? ⟨P, 0, none⟩ = some _ := hX.cell 0
      have m1 : w8.cell? ⟨P, 1, none⟩ = some _ := hX.cell 1
      have m2 : w8.cell? ⟨P, 2, none⟩ = some _ := hX.cell 2
      have m3 : w8.cell? ⟨P, 3, none⟩ = some _ := hX.cell 3
      have m4 : w8.cell? ⟨P, 4, none⟩ = some _ := hX.cell 4
      have m5 : w8.cell? ⟨P, 5, none⟩ = some _ := hX.cell 5
      have m6 : w8.cell? ⟨P, 6, none⟩ = some _ := hX.cell 6
      have m7 : w8.cell? ⟨P, 7, none⟩ = some _ := hX.cell 7
      have m8 : w8.cell? ⟨P, 8, none⟩ = some _ := hX.cell 8
      have m9 : w8.cell? ⟨P, 9, none⟩ = some _ := hX.cell 9
      have m10 : w8.cell? ⟨P, 10, none⟩ = some _ := hX.cell 10
      go_wp2_with fail
      refine (hX.uint (x := mt) (by have hh := hall.out; omega) (by simp only [List.length_append, List.length_nil, List.length_cons] at *; omega)).mono ?_
      rintro e w9 ⟨rfl, hX⟩
      clear m0 m1 m2 m3 m4 m5 m6 m7 m8 m9 m10
      have m0 : w9.cell? ⟨P, 0, none⟩ = some _ := hX.cell 0
      have m1 : w9.cell? ⟨P, 1, none⟩ = some _ := hX.cell 1
      have m2 : w9.cell? ⟨P, 2, none⟩ = some _ := hX.cell 2
      have m3 : w9.cell? ⟨P, 3, none⟩ = some _ := hX.cell 3
      have m4 : w9.cell? ⟨P, 4, none⟩ = some _ := hX.cell 4
      have m5 : w9.cell? ⟨P, 5, none⟩ = some _ := hX.cell 5
      have m6 : w9.cell? ⟨P, 6, none⟩ = some _ := hX.cell 6
      have m7 : w9.cell? ⟨P, 7, none⟩ = some _ := hX.cell 7
      have m8 : w9.cell? ⟨P, 8, none⟩ = some _ := hX.cell 8
      have m9 : w9.cell? ⟨P, 9, none⟩ = some _ := hX.cell 9
      have m10 : w9.cell? ⟨P, 10, none⟩ = some _ := hX.cell 10
      go_wp2_with fail
      refine (hX.uint (x := sf) (by have hh := hall.out; omega) (by simp only [List.length_append, List.length_nil, List.length_cons] at *; omega)).mono ?_
      rintro e w10 ⟨rfl, hX⟩
      clear m0 m1 m2 m3 m4 m5 m6 m7 m8 m9 m10
      have m0 : w10.cell? ⟨P, 0, none⟩ = some _ := hX.cell 0
      have m1 : w10.cell? ⟨P, 1, none⟩ = some _ := hX.cell 1
      have m2 : w10.cell? ⟨P, 2, none⟩ = some _ := hX.cell 2
      have m3 : w10.cell? ⟨P, 3, none⟩ = some _ := hX.cell 3
      have m4 : w10.cell? ⟨P, 4, none⟩ = some _ := hX.cell 4
      have m5 : w10.cell? ⟨P, 5, none⟩ = some _ := hX.cell 5
      have m6 : w10.cell? ⟨P, 6, none⟩ = some _ := hX.cell 6
      have m7 : w10.cell? ⟨P, 7, none⟩ = some _ := hX.cell 7
      have m8 : w10.cell? ⟨P, 8, none⟩ = some _ := hX.cell 8
      have m9 : w10.cell? ⟨P, 9, none⟩ = some _ := hX.cell 9
      have m10 : w10.cell? ⟨P, 10, none⟩ = some _ := hX.cell 10
      go_wp2_with fail
      refine (hX.uint (x := st) (by have hh := hall.out; omega) (by simp only [List.length_append, List.length_nil, List.length_cons] at *; omega)).mono ?_
      rintro e w11 ⟨rfl, hX⟩
      clear m0 m1 m2 m3 m4 m5 m6 m7 m8 m9 m10
      have m0 : w11.cell? ⟨P, 0, none⟩ = some _ := hX.cell 0
      have m1 : w11.cell? ⟨P, 1, none⟩ = some _ := hX.cell 1
      have m2 : w11.cell? ⟨P, 2, none⟩ = some _ := hX.cell 2
      have m3 : w11.cell? ⟨P, 3, none⟩ = some _ := hX.cell 3
      have m4 : w11.cell? ⟨P, 4, none⟩ = some _ := hX.cell 4
      have m5 : w11.cell? ⟨P, 5, none⟩ = some _ := hX.cell 5
      have m6 : w11.cell? ⟨P, 6, none⟩ = some _ := hX.cell 6
      have m7 : w11.cell? ⟨P, 7, none⟩ = some _ := hX.cell 7
      have m8 : w11.cell? ⟨P, 8, none⟩ = some _ := hX.cell 8
      have m9 : w11.cell? ⟨P, 9, none⟩ = some _ := hX.cell 9
      have m10 : w11.cell? ⟨P, 10, none⟩ = some _ := hX.cell 10
      go_wp2_with fail
      refine (hX.text (by rw [hnd.out]; exact hall.out.2.2.1) (by simp only [List.length_append, List.length_nil, List.length_cons] at *; omega)).mono ?_
      rintro e w12 ⟨rfl, hX⟩
      clear m0 m1 m2 m3 m4 m5 m6 m7 m8 m9 m10
      have m0 : w12.cell? ⟨P, 0, none⟩ = some _ := hX.cell 0
      have m1 : w12.cell? ⟨P, 1, none⟩ = some _ := hX.cell 1
      have m2 : w12.cell? ⟨P, 2, none⟩ = some _ := hX.cell 2
      have m3 : w12.cell? ⟨P, 3, none⟩ = some _ := hX.cell 3
      have m4 : w12.cell? ⟨P, 4, none⟩ = some _ := hX.cell 4
      have m5 : w12.cell? ⟨P, 5, none⟩ = some _ := hX.cell 5
      have m6 : w12.cell? ⟨P, 6, none⟩ = some _ := hX.cell 6
      have m7 : w12.cell? ⟨P, 7, none⟩ = some _ := hX.cell 7
      have m8 : w12.cell? ⟨P, 8, none⟩ = some _ := hX.cell 8
      have m9 : w12.cell? ⟨P, 9, none⟩ = some _ := hX.cell 9
      have m10 : w12.cell? ⟨P, 10, none⟩ = some _ := hX.cell 10
      simp only [List.nil_append, List.append_assoc] at hX
      rw [← wrM_4 (Ms := Ms)] at hX
      obtain ⟨vv, hvv⟩ := hX.wr
      have cB : w12.cell? ⟨p, 0, none⟩ = some vv := cell_of_row _ p 0 _ _ _ hvv.head
      have hbv := Lib.hid hvv.val
      have hls := hX.ls
      clear hvv hX
      go_wp2_with fail
      go_ret2
      exact ⟨vv, rfl, hbv.out, hls⟩
  · clear hk
    have e4 := fm_len fr.toNat
    have e6 := fm_len mf.toNat
    have e8 := fm_len sf.toNat
    have e9 := fm_len st.toNat
    as_aux_lemma =>
      go_wp2_with fail
      refine (hX.uint (x := fr) (by have hh := hall.out; omega) (by simp only [List.length_append, List.length_nil, List.length_cons] at *; omega)).mono ?_
      rintro e w6 ⟨rfl, hX⟩
      clear m0 m1 m2 m3 m4 m5 m6 m7 m8 m9 m10
      have m0 : w6.cell? ⟨P, 0, none⟩ = some _ := hX.cell 0
      have m1 : w6.cell? ⟨P, 1, none⟩ = some _ := hX.cell 1
      have m2 : w6.cell? ⟨P, 2, none⟩ = some _ := hX.cell 2
      have m3 : w6.cell? ⟨P, 3, none⟩ = some _ := hX.cell 3
      have m4 : w6.cell? ⟨P, 4, none⟩ = some _ := hX.cell 4
      have m5 : w6.cell? ⟨P, 5, none⟩ = some _ := hX.cell 5
      have m6 : w6.cell? ⟨P, 6, none⟩ = some _ := hX.cell 6
      have m7 : w6.cell? ⟨P, 7, none⟩ = some _ := hX.cell 7
      have m8 : w6.cell? ⟨P, 8, none⟩ = some _ := hX.cell 8
      have m9 : w6.cell? ⟨P, 9, none⟩ = some _ := hX.cell 9
      have m10 : w6.cell? ⟨P, 10, none⟩ = some _ := hX.cell 10
      go_wp2_with fail
      refine (hX.uint (x := mf) (by have hh := hall.out; omega) (by simp only [List.length_append, List.length_nil, List.length_cons] at *; omega)).mono ?_
      rintro e w8 ⟨rfl, hX⟩
      clear m0 m1 m2 m3 m4 m5 m6 m7 m8 m9 m10
      have m0 : w8.cell? ⟨P, 0, none⟩ = some _ := hX.cell 0
      have m1 : w8.cell? ⟨P, 1, none⟩ = some _ := hX.cell 1
      have m2 : w8.cell? ⟨P, 2, none⟩ = some _ := hX.cell 2
      have m3 : w8.cell? ⟨P, 3, none⟩ = some _ := hX.cell 3
      have m4 : w8.cell? ⟨P, 4, none⟩ = some _ := hX.cell 4
      have m5 : w8.cell? ⟨P, 5, none⟩ = some _ := hX.cell 5
      have m6 : w8.cell? ⟨P, 6, none⟩ = some _ := hX.cell 6
      have m7 : w8.cell? ⟨P, 7, none⟩ = some _ := hX.cell 7
      have m8 : w8.cell? ⟨P, 8, none⟩ = some _ := hX.cell 8
      have m9 : w8.cell? ⟨P, 9, none⟩ = some _ := hX.cell 9
      have m10 : w8.cell? ⟨P, 10, none⟩ = some _ := hX.cell 10
      go_wp2_with fail
      refine (hX.uint (x := sf) (by have hh := hall.out; omega) (by simp only [List.length_append, List.length_nil, List.length_cons] at *; omega)).mono ?_
      rintro e w10 ⟨rfl, hX⟩
      clear m0 m1 m2 m3 m4 m5 m6 m7 m8 m9 m10
      have m0 : w10.cell? ⟨P, 0, none⟩ = some _ := hX.cell 0
      have m1 : w10.cell? ⟨P, 1, none⟩ = some _ := hX.cell 1
      have m2 : w10.cell? ⟨P, 2, none⟩ = some _ := hX.cell 2
      have m3 : w10.cell? ⟨P, 3, none⟩ = some _ := hX.cell 3
      have m4 : w10.cell? ⟨P, 4, none⟩ = some _ := hX.cell 4
      have m5 : w10.cell? ⟨P, 5, none⟩ = some _ := hX.cell 5
      have m6 : w10.cell? ⟨P, 6, none⟩ = some _ := hX.cell 6
      have m7 : w10.cell? ⟨P, 7, none⟩ = some _ := hX.cell 7
      have m8 : w10.cell? ⟨P, 8, none⟩ = some _ := hX.cell 8
      have m9 : w10.cell? ⟨P, 9, none⟩ = some _ := hX.cell 9
      have m10 : w10.cell? ⟨P, 10, none⟩ = some _ := hX.cell 10
      go_wp2_with fail
      refine (hX.uint (x := st) (by have hh := hall.out; omega) (by simp only [List.length_append, List.length_nil, List.length_cons] at *; omega)).mono ?_
      rintro e w11 ⟨rfl, hX⟩
      clear m0 m1 m2 m3 m4 m5 m6 m7 m8 m9 m10
      have m0 : w11.cell? ⟨P, 0, none⟩ = some _ := hX.cell 0
      have m1 : w11.cell? ⟨P, 1, none⟩ = some _ := hX.cell 1
      have m2 : w11.cell? ⟨P, 2, none⟩ = some _ := hX.cell 2
      have m3 : w11.cell? ⟨P, 3, none⟩ = some _ := hX.cell 3
      have m4 : w11.cell? ⟨P, 4, none⟩ = some _ := hX.cell 4
      have m5 : w11.cell? ⟨P, 5, none⟩ = some _ := hX.cell 5
      have m6 : w11.cell? ⟨P, 6, none⟩ = some _ := hX.cell 6
      have m7 : w11.cell? ⟨P, 7, none⟩ = some _ := hX.cell 7
      have m8 : w11.cell? ⟨P, 8, none⟩ = some _ := hX.cell 8
      have m9 : w11.cell? ⟨P, 9, none⟩ = some _ := hX.cell 9
      have m10 : w11.cell? ⟨P, 10, none⟩ = some _ := hX.cell 10
      go_wp2_with fail
      refine (hX.text (by rw [hnd.out]; exact hall.out.2.2.1) (by simp only [List.length_append, List.length_nil, List.length_cons] at *; omega)).mono ?_
      rintro e w12 ⟨rfl, hX⟩
      clear m0 m1 m2 m3 m4 m5 m6 m7 m8 m9 m10
      have m0 : w12.cell? ⟨P, 0, none⟩ = some _ := hX.cell 0
      have m1 : w12.cell? ⟨P, 1, none⟩ = some _ := hX.cell 1
      have m2 : w12.cell? ⟨P, 2, none⟩ = some _ := hX.cell 2
      have m3 : w12.cell? ⟨P, 3, none⟩ = some _ := hX.cell 3
      have m4 : w12.cell? ⟨P, 4, none⟩ = some _ := hX.cell 4
      have m5 : w12.cell? ⟨P, 5, none⟩ = some _ := hX.cell 5
      have m6 : w12.cell? ⟨P, 6, none⟩ = some _ := hX.cell 6
      have m7 : w12.cell? ⟨P, 7, none⟩ = some _ := hX.cell 7
      have m8 : w12.cell? ⟨P, 8, none⟩ = some _ := hX.cell 8
      have m9 : w12.cell? ⟨P, 9, none⟩ = some _ := hX.cell 9
      have m10 : w12.cell? ⟨P, 10, none⟩ = some _ := hX.cell 10
      simp only [List.nil_append, List.append_assoc] at hX
      rw [← wrM_5 (Ms := Ms) (ro := 0) (mt := 0)] at hX
      obtain ⟨vv, hvv⟩ := hX.wr
      have cB : w12.cell? ⟨p, 0, none⟩ = some vv := cell_of_row _ p 0 _ _ _ hvv.head
      have hbv := Lib.hid hvv.val
      have hls := hX.ls
      clear hvv hX
      go_wp2_with fail
      go_ret2
      exact ⟨vv, rfl, hbv.out, hls⟩
end Go.Proofs.Ytjelfiljebamgaa
