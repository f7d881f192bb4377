/-
  Chapter 28: a message is read.
-/
import Derived.Test.YtjelfiljebamgaaNdG
namespace Go.Proofs.Ytjelfiljebamgaa
open Go.RowKit Go.Shelf
set_option linter.unusedVariables false
set_option linter.unusedSimpArgs false
attribute [local go_sem] Oper.semAt_some

/-- A message. -/
structure Msg where
  k : Int
  eN : Int
  eB : Int
  Ms : List Int
  fr : Int
  ro : Int
  mf : Int
  mt : Int
  sf : Int
  st : Int
  D : List Int
def Msg.May (m : Msg) : Prop := MayM m.k m.eB m.fr m.ro m.mf m.mt m.sf m.st m.Ms.length m.D.length (risen (-1) m.Ms).toNat
instance (m : Msg) : Decidable m.May := by unfold Msg.May; infer_instance
abbrev Msg.V (m : Msg) (um ud : Value) : Value := msV m.k m.eN m.eB um m.fr m.ro m.mf m.mt m.sf m.st ud
abbrev Msg.C (m : Msg) (um ud : Value) : Array Value := msC m.k m.eN m.eB um m.fr m.ro m.mf m.mt m.sf m.st ud
abbrev Msg.zero : Msg := ⟨0, 0, 0, [], 0, 0, 0, 0, 0, 0, []⟩
def fin (m : Msg) (L : List Int) (lost : Bool) : Option Msg := if rE L lost = 0 ∧ m.May then some m else none
theorem fin_yes {m : Msg} {L : List Int} {lost : Bool} (h : rE L lost = 0) (hm : m.May) : fin m L lost = some m := if_pos ⟨h, hm⟩
theorem fin_m {m : Msg} {L : List Int} {lost : Bool} (hm : ¬ m.May) : fin m L lost = none := if_neg fun h => hm h.2
theorem fin_e {m : Msg} {L : List Int} {lost : Bool} (h : ¬ rE L lost = 0) : fin m L lost = none := if_neg fun hh => h hh.1
theorem fine_msg (m : Msg) (um ud : Value) (W : World) (hm : IntsV W um m.Ms) (hd : BytV W ud m.D) (hml : m.Ms.length ≤ 1000000) (hdl : m.D.length ≤ 1000000) :
    Calls Try.prog 69 #[m.V um ud] W fun e w' => e = .returned (.bool (decide m.May)) ∧ Later W w' :=
  fineM_any m.k m.eN m.eB um m.fr m.ro m.mf m.mt m.sf m.st ud m.Ms m.D W hm hd hml hdl
def rdT (k : Int) (n y f r s t : Nat) (L : List Int) (lost : Bool) : Option Msg :=
  fin ⟨k, n, y, [], f, r, s, t, (rU 4096 L lost).1, (rU 4096 (rU 4096 L lost).2.1 (rU 4096 L lost).2.2).1, (rT 70000 (rU 4096 (rU 4096 L lost).2.1 (rU 4096 L lost).2.2).2.1 (rU 4096 (rU 4096 L lost).2.1 (rU 4096 L lost).2.2).2.2).1⟩
    (rT 70000 (rU 4096 (rU 4096 L lost).2.1 (rU 4096 L lost).2.2).2.1 (rU 4096 (rU 4096 L lost).2.1 (rU 4096 L lost).2.2).2.2).2.1 (rT 70000 (rU 4096 (rU 4096 L lost).2.1 (rU 4096 L lost).2.2).2.1 (rU 4096 (rU 4096 L lost).2.1 (rU 4096 L lost).2.2).2.2).2.2
def rd1M (n y : Nat) (L : List Int) (lost : Bool) : Option Msg :=
  fin ⟨1, n, y, (rL (rU 64 L lost).1 (rU 64 L lost).2.1 (rU 64 L lost).2.2).1, 0, 0, 0, 0, 0, 0, []⟩ (rL (rU 64 L lost).1 (rU 64 L lost).2.1 (rU 64 L lost).2.2).2.1 (rL (rU 64 L lost).1 (rU 64 L lost).2.1 (rU 64 L lost).2.2).2.2
def rd4M (n y f : Nat) (L : List Int) (lost : Bool) : Option Msg :=
  rdT 4 n y f (rU 6 L lost).1 (rU 63 (rU 6 L lost).2.1 (rU 6 L lost).2.2).1 (rU 63 (rU 63 (rU 6 L lost).2.1 (rU 6 L lost).2.2).2.1 (rU 63 (rU 6 L lost).2.1 (rU 6 L lost).2.2).2.2).1
    (rU 63 (rU 63 (rU 6 L lost).2.1 (rU 6 L lost).2.2).2.1 (rU 63 (rU 6 L lost).2.1 (rU 6 L lost).2.2).2.2).2.1 (rU 63 (rU 63 (rU 6 L lost).2.1 (rU 6 L lost).2.2).2.1 (rU 63 (rU 6 L lost).2.1 (rU 6 L lost).2.2).2.2).2.2
def rdFM (k n y f : Nat) (L : List Int) (lost : Bool) : Option Msg :=
  if k = 4 then rd4M n y f L lost else if k = 5 then rdT 5 n y f 0 (rU 63 L lost).1 0 (rU 63 L lost).2.1 (rU 63 L lost).2.2 else fin ⟨k, n, y, [], f, 0, 0, 0, 0, 0, []⟩ L lost
def rdBM (k n y : Nat) (L : List Int) (lost : Bool) : Option Msg :=
  if k = 1 then rd1M n y L lost else rdFM k n y (rU 1000 L lost).1 (rU 1000 L lost).2.1 (rU 1000 L lost).2.2
/-- A message's bytes, read. -/
def rdM (b : List Int) : Option Msg :=
  rdBM (rU 6 b false).1 (rU 4294967295 (rU 6 b false).2.1 (rU 6 b false).2.2).1 (rU 63 (rU 4294967295 (rU 6 b false).2.1 (rU 6 b false).2.2).2.1 (rU 4294967295 (rU 6 b false).2.1 (rU 6 b false).2.2).2.2).1
    (rU 63 (rU 4294967295 (rU 6 b false).2.1 (rU 6 b false).2.2).2.1 (rU 4294967295 (rU 6 b false).2.1 (rU 6 b false).2.2).2.2).2.1 (rU 63 (rU 4294967295 (rU 6 b false).2.1 (rU 6 b false).2.2).2.1 (rU 4294967295 (rU 6 b false).2.1 (rU 6 b false).2.2).2.2).2.2
/-- What a read message is. -/
def ReadPost (M : Option Msg) (W : World) (e : Ending) (w' : World) : Prop :=
  match M with
  | some m => ∃ um ud, e = .returned (.tuple #[m.V um ud, .int .i64 0]) ∧ w'.ownsRow W.heap.size 3 1 um m.Ms.length (encI m.Ms) ∧ w'.ownsRow W.heap.size 5 1 ud m.D.length (encB m.D)
  | none => e = .returned (.tuple #[Msg.zero.V (.slice none 0 0) (.slice none 0 0), .int .i64 281])
/-- A reader at work, and the message that is filled. -/
structure PX (W : World) (z q c : Nat) (cs : Array Value) (L : List Int) (lost : Bool) (w : World) : Prop where
  rd : ∃ v, RdB w q v L lost
  kz : w.heap[z]? = some (.cells (Msg.zero.C (.slice none 0 0) (.slice none 0 0)) 88 (0, 0))
  kc : w.heap[c]? = some (.cells cs 88 (0, 0))
  ls : Later W w
  hz : W.heap.size ≤ z
  hq : W.heap.size ≤ q
  hc : W.heap.size ≤ c
  zq : z ≠ q
  cq : c ≠ q
  zc : z ≠ c
  hL : L.length ≤ 1000000
  hb : Byt L
section
variable {W w w' : World} {z q c : Nat} {cs : Array Value} {L L' : List Int} {lost lost' : Bool}
theorem PX.took (h : PX W z q c cs L lost w) (hr : ∃ v, RdB w' q v L' lost') (hg : w.grownBy w' (some q)) (hL : L'.length ≤ L.length) : PX W z q c cs L' lost' w' := by
  obtain ⟨v, hr⟩ := hr
  exact ⟨⟨v, hr⟩, (hg.block z (Array.getElem?_eq_some_iff.1 h.kz).1 (fun e => h.zq (Option.some.inj e))).trans h.kz, (hg.block c (Array.getElem?_eq_some_iff.1 h.kc).1 (fun e => h.cq (Option.some.inj e))).trans h.kc,
    rw_step h.ls hg h.hq, h.hz, h.hq, h.hc, h.zq, h.cq, h.zc, Nat.le_trans hL h.hL, hr.val.1⟩
theorem PX.small {m x : Nat} (h : PX W z q c cs L lost w) (hm : m ≤ 1000000000000) (hR : rU m L lost = (x, L', lost')) :
    Calls Try.prog 52 #[wp q, .int .i64 m] w fun e w' => e = .returned (.int .i64 x) ∧ PX W z q c cs L' lost' w' := by
  obtain ⟨v, hv⟩ := h.rd
  have hl := rU_len m L lost
  have := rsmall_any q m v L lost w hv hm h.hL
  rw [hR] at this hl
  refine this.mono ?_
  rintro e w' ⟨rfl, hr, hg⟩
  exact ⟨rfl, h.took hr hg hl⟩
theorem PX.node {x : Nat} (h : PX W z q c cs L lost w) (hR : rU 63 L lost = (x, L', lost')) :
    Calls Try.prog 72 #[wp q] w fun e w' => e = .returned (.int .i64 x) ∧ PX W z q c cs L' lost' w' := by
  obtain ⟨v, hv⟩ := h.rd
  have hl := rU_len 63 L lost
  have := read1_any q v L lost w hv h.hL
  rw [hR] at this hl
  refine this.mono ?_
  rintro e w' ⟨rfl, hr, hg⟩
  exact ⟨rfl, h.took hr hg hl⟩
theorem rT_len (m : Nat) (L : List Int) (lost : Bool) : (rT m L lost).2.1.length ≤ L.length := by
  have h := rU_len m L false
  unfold rT
  split
  · exact Nat.le_refl _
  · split
    · exact Nat.le_refl _
    · show ((rU m L false).2.1.drop _).length ≤ _
      rw [List.length_drop]; omega
theorem rT_most (m : Nat) (L : List Int) (lost : Bool) : (rT m L lost).1.length ≤ m := by
  have h := rU_le m L false
  unfold rT
  split
  · simp
  · split
    · simp
    · show ((rU m L false).2.1.take _).length ≤ _
      rw [List.length_take]; omega
theorem PX.text {D : List Int} (h : PX W z q c cs L lost w) (hR : rT 70000 L lost = (D, L', lost')) :
    Calls Try.prog 53 #[wp q, .int .i64 70000] w fun e w' => ∃ u, e = .returned u ∧ PX W z q c cs L' lost' w' ∧ w'.ownsRow w.heap.size 5 1 u D.length (encB D) := by
  obtain ⟨v, hv⟩ := h.rd
  have hl := rT_len 70000 L lost
  have := rtext_any q 70000 v L lost w hv (by omega) h.hL
  rw [hR] at this hl
  refine this.mono ?_
  rintro e w' ⟨u, rfl, hr, hrow, hg⟩
  exact ⟨u, rfl, h.took hr hg hl, hrow⟩
theorem PX.many {S1 S2 Lf : List Int} {S3 : Bool} (h : PX W z q c cs L lost w) (hS : rL (rU 64 L lost).1 (rU 64 L lost).2.1 (rU 64 L lost).2.2 = (S1, S2, S3)) (hLf : (if S3 = true then [] else S1) = Lf) :
    Calls Try.prog 73 #[wp q, .int .i64 64, .func (.func 72) #[] #[]] w fun e w' => ∃ u, e = .returned u ∧ PX W z q c cs S2 S3 w' ∧ w'.ownsRow w.heap.size 3 1 u Lf.length (encI Lf) := by
  obtain ⟨v, hv⟩ := h.rd
  have hl := Nat.le_trans (rL_len (rU 64 L lost).1 (rU 64 L lost).2.1 (rU 64 L lost).2.2) (rU_len 64 L lost)
  rw [hS] at hl
  refine (many_any q v L lost w hv h.hL S1 S2 Lf S3 hS hLf).mono ?_
  rintro e w' ⟨u, rfl, hr, hg, hrow⟩
  exact ⟨u, rfl, h.took hr hg hl, hrow⟩
theorem row_form {W : World} {base e k size : Nat} {v : Value} {xs : List Value} (h : W.ownsRow base e size v k xs) : ∃ m a q, v = .slice a m q := by
  obtain ⟨a, c, h⟩ := own_form h
  exact ⟨_, a, c, h⟩
theorem rE_50 {L : List Int} {lost : Bool} (h : ¬ rE L lost = 0) : rE L lost = 50 := by
  unfold rE at h ⊢
  by_cases hc : lost = true ∨ 0 < L.length
  · rw [if_pos hc]
  · rw [if_neg hc] at h; exact absurd rfl h
theorem PX.lt (h : PX W z q c cs L lost w) : c < w.heap.size := (Array.getElem?_eq_some_iff.1 h.kc).1
theorem fin_lost {m m' : Msg} {L L' : List Int} : fin m L true = fin m' L' true := by
  unfold fin rE
  rw [if_neg (by intro h; simp at h), if_neg (by intro h; simp at h)]
theorem PX.set (h : PX W z q c cs L lost w) (k : Nat) (u : Value) : PX W z q c (cs.setIfInBounds k u) L lost (w.setCell ⟨c, k, none⟩ u) := by
  obtain ⟨v, hv⟩ := h.rd
  exact ⟨⟨v, hv.other h.kc (by decide) h.cq k u⟩, (Below.heap_setCell w ⟨c, k, none⟩ u z (by first | exact h.zc | exact h.zc.symm)).trans h.kz, heap_set4 h.kc k u, h.ls.setCell h.hc _, h.hz, h.hq, h.hc, h.zq, h.cq, h.zc, h.hL, h.hb⟩
theorem PX.cell (h : PX W z q c cs L lost w) (k : Nat) : w.cell? ⟨c, k, none⟩ = cs[k]? := cell_of_row w c k _ _ _ h.kc
theorem PX.fz (h : PX W z q c cs L lost w) (k : Nat) : w.frozen? ⟨c, k, none⟩ = false := frozen_row h.kc k
end
end Go.Proofs.Ytjelfiljebamgaa
