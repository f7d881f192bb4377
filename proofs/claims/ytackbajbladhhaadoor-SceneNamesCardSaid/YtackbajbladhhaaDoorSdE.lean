/-
  Chapter 6: the rules' names: what the package's variable holds, and both answers.
-/
import Derived.Test.YtackbajbladhhaaDoorLawKit
import Derived.Test.YtackbajbladhhaaDoorScA
import Derived.LaidMore
import Derived.Stop.Joined
namespace Go.Proofs.YtackbajbladhhaaDoor
open Go.RowKit Go.Shelf Go.ChangeShapes Go.WideShapes Go.ChangeAt
set_option linter.unusedVariables false
set_option linter.unusedSimpArgs false
attribute [local go_sem] Oper.semAt_some

def nmB : List (List UInt8) := [[], [115, 105, 122, 101], [99, 97, 109, 101, 114, 97], [111, 98, 106, 101, 99, 116, 115], [105, 100, 115], [109, 97, 116, 114, 105, 120], [98, 111, 116, 104], [118, 101, 114, 116, 105, 99, 101, 115], [116, 114, 105, 97, 110, 103, 108, 101, 115]]
def NamesAt (W : World) : Prop := ∀ k bs, nmB[k]? = some bs → W.cell? ⟨0, k, none⟩ = some (.string ⟨bs.toArray⟩)
theorem NamesAt.later {W W' : World} (h : NamesAt W) (hl : Later W W') : NamesAt W' := fun k bs hk => hl.cell (h k bs hk)
theorem gNames : Tryd.prog.globalNamed "mullion/scene.names" = some 0 := by kernel_rfl
theorem tNames : (Tryd.prog.globals[0]?).map (·.type) = some 59 := by kernel_rfl
theorem uNames : Tryd.prog.underlying 59 = some (.array 9 9) := by kernel_rfl
theorem uStr : Tryd.prog.underlying 9 = some .string := by kernel_rfl
theorem cStr : Tryd.prog.cellsOf 9 = 1 := by kernel_rfl
theorem strD_inj {a b : List UInt8} (h : (DataW.lit (.string a) : DataW Unit) = .lit (.string b)) : a = b := by
  simpa using h
theorem names_at {W : World} (h : laidMetH Tryd.prog [("mullion/scene.names", Rows.laid_mullion_scene_names)] W) : NamesAt W := by
  rw [MakeChecks.laidMetH_plain _ _ _ (by kernel_rfl)] at h
  obtain ⟨ps, ⟨g0, t0, cs0, f0, p0, q0, hg0, ht0, hv0, hd0, _, _⟩, _, _⟩ := h
  obtain rfl := Option.some.inj (gNames.symm.trans hg0)
  obtain rfl := Option.some.inj (tNames.symm.trans ht0)
  obtain ⟨xs, m1, rfl, hx1, hlen, hn, hel⟩ := DataW.trod_array uNames hd0
  intro k bs hk
  have hk9 : k < 9 := by have := (List.getElem?_eq_some_iff.1 hk).1; simpa [nmB] using this
  have hmap : xs.map (·.1) = nmB.map fun b => DataW.lit (.string b) := by
    simp only [Prod.mk.injEq] at hx1
    have e := hx1.1
    unfold Rows.laid_mullion_scene_names at e
    simp only [DataW.agg.injEq] at e
    first | exact e.symm | (rw [← e]; rfl)
  have hxk : (xs.map (·.1))[k]? = some (.lit (.string bs)) := by rw [hmap, List.getElem?_map, hk]; rfl
  rw [List.getElem?_map] at hxk
  obtain ⟨y, hy, hy1⟩ := Option.map_eq_some_iff.1 hxk
  have h0 := hel k hk9
  rw [hy, cStr, Nat.mul_one] at h0
  obtain ⟨s, hc, hys, _⟩ := DataW.trod_string uStr h0
  have hs : s = ⟨bs.toArray⟩ := by
    rw [hys] at hy1
    have e : s.data.toList = bs := strD_inj hy1
    rw [← e]
  have hcell := World.var?_cell hg0 hv0 k
  rw [hcell, ← hs]
  have e2 : (cs0.toList.drop k)[0]? = some (.string s) := by
    have : ((cs0.toList.drop k).take 1)[0]? = some (.string s) := by rw [hc]; rfl
    rwa [List.getElem?_take_of_lt (by omega)] at this
  rw [List.getElem?_drop, Nat.add_zero] at e2
  simpa using e2
def nameV (n : Int) : Value := if n < 0 ∨ 8 < n then .string ⟨#[]⟩ else .string ⟨(nmB.getD n.toNat []).toArray⟩
theorem nameV_in (k : Nat) (hk : k < 9) : nameV (k : Int) = .string ⟨(nmB.getD k []).toArray⟩ := by
  unfold nameV
  rw [if_neg (by omega), Int.toNat_natCast]
theorem nameV_out {n : Int} (h : n < 0 ∨ 8 < n) : nameV n = .string ⟨#[]⟩ := by unfold nameV; rw [if_pos h]
theorem nameV_str (n : Int) : ∃ S, nameV n = .string S := by
  unfold nameV
  split
  · exact ⟨_, rfl⟩
  · exact ⟨_, rfl⟩
set_option maxRecDepth 100000 in
theorem name_any (n : Int) (W : World) (hW : NamesAt W) : Calls Tryd.prog 10 #[.int .i64 n] W fun e w' => e = .returned (nameV n) ∧ Later W w' := by
  by_cases h1 : n < 0
  · rw [nameV_out (Or.inl h1)]
    go_enter Tryd.func10, Tryd.ntmps10
    go_wp2_with fail
    go_ret
    exact ⟨rfl, Later.refl _⟩
  · by_cases h2 : 9 ≤ n
    · rw [nameV_out (Or.inr (by omega))]
      go_enter Tryd.func10, Tryd.ntmps10
      go_wp2_with fail
      go_ret
      exact ⟨rfl, Later.refl _⟩
    · obtain ⟨k, rfl⟩ : ∃ k : Nat, n = k := ⟨n.toNat, by omega⟩
      have hk : k < 9 := by omega
      rw [nameV_in k hk]
      have hki : ¬ (k : Int) < 0 := by omega
      have hk9 : ¬ (9 : Int) ≤ k := by omega
      have hk3 : (k : Int) < 9 := by omega
      have hc : W.cell? ⟨0, k, none⟩ = some (.string ⟨(nmB.getD k []).toArray⟩) := by
        obtain ⟨bs, hbs⟩ : ∃ bs, nmB[k]? = some bs := ⟨_, List.getElem?_eq_getElem (by simpa [nmB] using hk)⟩
        rw [hW k bs hbs, List.getD_eq_getElem?_getD, hbs]; rfl
      obtain ⟨v, hv⟩ : ∃ v, Hid (Value.string ⟨(nmB.getD k []).toArray⟩ = v) := ⟨_, rfl⟩
      rw [hv.out] at hc ⊢
      clear h1 h2
      go_enter Tryd.func10, Tryd.ntmps10
      go_wp2_with fail
      go_ret
      exact ⟨rfl, Later.refl _⟩
set_option maxRecDepth 100000 in
theorem rname_any (n : Int) (W : World) : Calls Tryd.prog 11 #[.int .i64 n] W fun e w' => e = .returned (nameV n) ∧ Later W w' := by
  by_cases h1 : n < 1
  · have hn : nameV n = .string ⟨#[]⟩ := by
      by_cases h0 : n < 0
      · exact nameV_out (Or.inl h0)
      · obtain rfl : n = 0 := by omega
        rfl
    rw [hn]
    go_enter Tryd.func11, Tryd.ntmps11
    go_wp2_with fail
    go_ret
    exact ⟨rfl, Later.refl _⟩
  · by_cases h2 : 8 < n
    · rw [nameV_out (Or.inr h2)]
      go_enter Tryd.func11, Tryd.ntmps11
      go_wp2_with fail
      go_ret
      exact ⟨rfl, Later.refl _⟩
    · rcases (show n = 1 ∨ n = 2 ∨ n = 3 ∨ n = 4 ∨ n = 5 ∨ n = 6 ∨ n = 7 ∨ n = 8 by omega) with rfl | rfl | rfl | rfl | rfl | rfl | rfl | rfl
      all_goals
        clear h1 h2
        go_enter Tryd.func11, Tryd.ntmps11
        go_wp2_with fail
        go_ret
        exact ⟨rfl, (Later.refl _).alloc _⟩
end Go.Proofs.YtackbajbladhhaaDoor
