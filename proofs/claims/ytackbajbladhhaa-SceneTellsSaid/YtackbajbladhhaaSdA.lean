/-
  Chapter 6: the document's answer: is a scene more than statements go through?
-/
import Derived.Test.YtackbajbladhhaaScH
namespace Go.Proofs.Ytackbajbladhhaa
open Go.RowKit Go.Shelf
set_option linter.unusedVariables false
set_option linter.unusedSimpArgs false
attribute [local go_sem] Oper.semAt_some

def SmallO (x : SObj) : Prop := x.vs.length ≤ 80 ∧ x.ts.length ≤ 80
def SmallS (s : Scn) : Prop := s.os.length ≤ 20 ∧ ∀ x ∈ s.os, SmallO x
set_option maxRecDepth 100000 in
set_option maxHeartbeats 2000000 in
theorem great_any (s : Scn) (W : World) (hs : s.Ok W) :
    Calls Try.prog 15 #[s.V] W fun e w' => (∃ n : Int, e = .returned (.int .i64 n) ∧ (n = 1 ∨ (n = 0 ∧ SmallS s))) ∧ Later W w' := by
  obtain ⟨X, hX⟩ : ∃ X, X = W.alloc (.cells s.row.toArray 28) := ⟨_, rfl⟩
  have hlX : Later W X := by rw [hX]; exact (Later.refl W).alloc _
  have kS : ScnB X W.heap.size s := by rw [hX]; exact heap_alloc_new _ _
  obtain ⟨ao, cap, hu⟩ := hs.1.form
  rw [List.length_map] at hu
  obtain ⟨n, hn⟩ : ∃ n, Hid (s.os.length = n) := ⟨_, rfl⟩
  have so := kS.uo
  rw [hu] at so
  rw [hn.out] at so hu
  have hu := Lib.hid hu
  go_enter Try.func15, Try.ntmps15
  go_upto_region 1 with fail
  rw [← hX]
  clear hX kS
  by_cases hb : 20 < n
  · have hbi : (20 : Int) < n := by omega
    go_wp2_with fail
    go_ret
    exact ⟨⟨1, rfl, Or.inl rfl⟩, hlX⟩
  · have hbi : ¬ (20 : Int) < n := by omega
    go_wp2_with fail
    go_loopw [3] (fun y wr => ∃ k : Nat, k ≤ n ∧ y = .int .i64 k ∧ Hid (∀ j x, j < k → s.os[j]? = some x → SmallO x) ∧ wr = X) (fun y _ => (300 - intOf y).toNat)
    case atStart => exact ⟨0, by omega, rfl, Lib.hid (fun j x hj => by omega), rfl⟩
    case round =>
      obtain ⟨k, hk, rfl, hsm, rfl⟩ := hrel
      obtain ⟨wi, rfl⟩ : ∃ wo : World, wo = wr := ⟨_, rfl⟩
      by_cases hkN : k < n
      · have hkL : k < s.os.length := by rw [hn.out]; exact hkN
        obtain ⟨x, hx⟩ : ∃ x, Hid (s.os[k]? = some x) := ⟨_, Lib.hid (List.getElem?_eq_getElem hkL)⟩
        have hOk := hs.later hlX
        have hrv := hOk.1
        rw [hu.out] at hrv
        obtain ⟨g, o, rfl, hrg⟩ := hrv.at (k := k) (x := x.row) (by rw [List.getElem?_map, hx.out]; rfl)
        have hxo := hOk.2 x (List.mem_of_getElem? hx.out)
        obtain ⟨av, cv, hxv⟩ := hxo.1.form
        obtain ⟨at', ct, hxt⟩ := hxo.2.form
        rw [List.length_map] at hxv hxt
        obtain ⟨nv, hnv⟩ : ∃ n, Hid (x.vs.length = n) := ⟨_, rfl⟩
        obtain ⟨nt, hnt⟩ : ∃ n, Hid (x.ts.length = n) := ⟨_, rfl⟩
        have c17 : wi.cell? ⟨g, o + k * 19 + 17, none⟩ = some (.slice av nv cv) := by rw [← hnv.out, ← hxv]; exact hrg 17 _ rfl
        have c18 : wi.cell? ⟨g, o + k * 19 + 18, none⟩ = some (.slice at' nt ct) := by rw [← hnt.out, ← hxt]; exact hrg 18 _ rfl
        have hki : (k : Int) < n := by omega
        clear hrg hOk hrv hxo hxv hxt
        by_cases h1 : 80 < nv
        · have h1i : (80 : Int) < nv := by omega
          go_wp2_with fail
          go_ret
          exact ⟨⟨1, rfl, Or.inl rfl⟩, hlX⟩
        · have h1i : ¬ (80 : Int) < nv := by omega
          by_cases h2 : 80 < nt
          · have h2i : (80 : Int) < nt := by omega
            go_wp2_with fail
            go_ret
            exact ⟨⟨1, rfl, Or.inl rfl⟩, hlX⟩
          · have h2i : ¬ (80 : Int) < nt := by omega
            have hsm2 : Hid (∀ j x, j < k + 1 → s.os[j]? = some x → SmallO x) := Lib.hid (fun j y hj hy => by
              by_cases e : j = k
              · rw [e, hx.out] at hy
                obtain rfl := Option.some.inj hy
                exact ⟨by rw [hnv.out]; omega, by rw [hnt.out]; omega⟩
              · exact hsm.out j y (by omega) hy)
            go_wp2_with fail
            go_roundw
            case rel => exact ⟨k + 1, by omega, by go_num, hsm2, by first | trivial | rfl⟩
            case measure => simp [intOf]; omega
      · obtain rfl : k = n := by omega
        have hfin : Hid (SmallS s) := Lib.hid ⟨by rw [hn.out]; omega, fun x hx => by
          obtain ⟨j, hj, rfl⟩ := List.getElem_of_mem hx
          exact hsm.out j _ (by rw [← hn.out]; exact hj) (List.getElem?_eq_getElem hj)⟩
        clear hsm
        go_wp2_with fail
        go_ret
        exact ⟨⟨0, rfl, Or.inr ⟨rfl, hfin.out⟩⟩, hlX⟩
end Go.Proofs.Ytackbajbladhhaa
