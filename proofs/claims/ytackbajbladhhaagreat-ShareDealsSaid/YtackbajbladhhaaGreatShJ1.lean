/-
  Chapter 8: lists of ints, their forms.
  Chapter 8's laws: a list of ints that comes in.
-/
import Derived.Test.YtackbajbladhhaaGreatShG1
import Derived.Test.YtackbajbladhhaaGreatScT
namespace Go.Proofs.YtackbajbladhhaaGreat
open Go.RowKit Go.Shelf
set_option linter.unusedVariables false

theorem may_both {s : Scn} {A B : List Int} : (mayQ s A && memB B) = (mayQ s B && memB A) := by
  unfold mayQ
  cases memB A <;> cases memB B <;> simp
theorem IntsO.form {W : World} {v : Value} {M : List Int} (h : IntsO W v M) : ∃ ao cap, v = .slice ao M.length cap := by
  obtain ⟨ao, cap, rfl, _⟩ := h; exact ⟨ao, cap, rfl⟩
theorem IntsO.at {W : World} {ao : Option Addr} {n cap : Nat} {M : List Int} (h : IntsO W (.slice ao n cap) M) {k : Nat} (hk : k < M.length) : ∃ g o, ao = some ⟨g, o, none⟩ ∧ W.cell? ⟨g, o + k, none⟩ = some (.int .i64 (M.getD k 0)) := by
  obtain ⟨ao', cap', e, hc⟩ := h
  injection e with e1 _ _
  subst e1
  exact hc k hk
theorem IntsV.at {W : World} {ao : Option Addr} {n cap : Nat} {M : List Int} (h : IntsV W (.slice ao n cap) M) {k : Nat} (hk : k < M.length) : ∃ g, ao = some ⟨g, 0, none⟩ ∧ W.cell? ⟨g, k, none⟩ = some (.int .i64 (M.getD k 0)) := by
  obtain ⟨ao', cap', e, hc⟩ := h
  injection e with e1 _ _
  subst e1
  exact hc k hk
theorem IntsV.form {W : World} {v : Value} {M : List Int} (h : IntsV W v M) : ∃ ao cap, v = .slice ao M.length cap := by
  obtain ⟨ao, cap, rfl, _⟩ := h; exact ⟨ao, cap, rfl⟩
end Go.Proofs.YtackbajbladhhaaGreat
namespace Go.Proofs.YtackbajbladhhaaGreat
open Go.RowKit Go.ChangeShapes Go.WideShapes
set_option linter.unusedVariables false
set_option linter.unusedSimpArgs false

theorem trodAll_five {H : Type} {enc : TypeId × Value → H} {P : Program} {w : World} {base : Nat} {spare : Nat → Bool} {held : Bool} {t1 t2 t3 t4 t5 : TypeId} {args : Array Value} {ds : List (DataW H)} {ps : List MemPlace} (h : DataW.TrodAll enc P w base spare held [t1, t2, t3, t4, t5] args.toList ds ps) :
    ∃ v1 v2 v3 v4 v5 d1 d2 d3 d4 d5 p1 p2 p3 p4 p5, args = #[v1, v2, v3, v4, v5] ∧ ds = [d1, d2, d3, d4, d5] ∧ DataW.Trod enc P w base spare held t1 v1 d1 p1 ∧ DataW.Trod enc P w base spare held t2 v2 d2 p2 ∧ DataW.Trod enc P w base spare held t3 v3 d3 p3 ∧ DataW.Trod enc P w base spare held t4 v4 d4 p4 ∧ DataW.Trod enc P w base spare held t5 v5 d5 p5 := by
  obtain ⟨v1, w1, d1, e1, p1, q1, hargs, rfl, rfl, h1, k1⟩ := trodAll_cons h
  obtain ⟨v2, w2, d2, e2, p2, q2, rfl, rfl, rfl, h2, k2⟩ := trodAll_cons k1
  obtain ⟨v3, w3, d3, e3, p3, q3, rfl, rfl, rfl, h3, k3⟩ := trodAll_cons k2
  obtain ⟨v4, w4, d4, e4, p4, q4, rfl, rfl, rfl, h4, k4⟩ := trodAll_cons k3
  obtain ⟨v5, w5, d5, e5, p5, q5, rfl, rfl, rfl, h5, k5⟩ := trodAll_cons k4
  obtain ⟨rfl, rfl, rfl⟩ := trodAll_nil k5
  exact ⟨v1, v2, v3, v4, v5, d1, d2, d3, d4, d5, p1, p2, p3, p4, p5, by cases args; simp_all, rfl, h1, h2, h3, h4, h5⟩
theorem addr_plain {w : World} {a : Addr} {v : Value} (h : w.cell? (a.add 0) = some v) : ∃ b o, a = ⟨b, o, none⟩ := by
  obtain ⟨b, o, s⟩ := a
  cases s with
  | none => exact ⟨b, o, rfl⟩
  | some s =>
    exfalso
    simp [Addr.add, World.cell?] at h
    split at h <;> simp_all
theorem cell_plain {w : World} {b o k : Nat} {v : Value} (h : w.cell? ((⟨b, o, none⟩ : Addr).add k) = some v) : w.cell? ⟨b, o + k, none⟩ = some v := by
  unfold Addr.add at h; split at h <;> simp_all
section
variable {H : Type} {enc : TypeId × Value → H} {w : World} {base : Nat} {spare : Nat → Bool} {held : Bool}
set_option maxRecDepth 100000 in
theorem open_ints1 {c : Value} {fuel : Nat} {x : DataW H × List MemPlace} (h : DataW.trod enc Tryz.prog w base spare held fuel 29 [c] = some x) : ∃ L, IntsO w c L := by
  rcases open_ints Tryz.underlying29 Tryz.underlying3 cells_i h with ⟨hcs, _⟩ | ⟨a, len, cap, zs, hcs, _, hlen, hcap, hm, _, hx, hw⟩
  · injection hcs with hcs _
    exact ⟨[], none, 0, hcs, fun k hk => by simp at hk⟩
  · injection hcs with hcs _
    have hml : len ≤ zs.length := by rw [hm]; split <;> omega
    have htl : (zs.take len).length = len := by rw [List.length_take]; omega
    refine ⟨zs.take len, some a, cap, by rw [hcs, htl], fun k hk => ?_⟩
    rw [htl] at hk
    obtain ⟨b, o, rfl⟩ := addr_plain (hx 0 (by omega))
    have c0 := cell_plain (hx k (by omega))
    have hg : (zs.take len).getD k 0 = zs.getD k 0 := by rw [List.getD_eq_getElem?_getD, List.getD_eq_getElem?_getD, List.getElem?_take_of_lt hk]
    rw [hg]
    exact ⟨b, o, rfl, c0⟩
set_option maxRecDepth 100000 in
theorem open_list {v : Value} {d : DataW H} {p : List MemPlace} (hv : Value.okWide Tryz.prog w .any base 29 v) (h : DataW.Trod enc Tryz.prog w 0 spare held 29 v d p) : ∃ L, IntsO w v L := by
  obtain ⟨ao, ln, cp, rfl⟩ : ∃ ao ln cp, v = .slice ao ln cp := okWide_slice Tryz.underlying29 hv
  obtain ⟨fuel, hf⟩ := h
  exact open_ints1 (by simpa [Value.cells] using hf)
end
end Go.Proofs.YtackbajbladhhaaGreat
