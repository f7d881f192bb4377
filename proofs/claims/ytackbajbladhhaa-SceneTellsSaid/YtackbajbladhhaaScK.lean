/-
  Chapter 6: Check, Find, Both.
-/
import Derived.Test.YtackbajbladhhaaScJ
namespace Go.Proofs.Ytackbajbladhhaa
open Go.RowKit Go.Shelf
set_option linter.unusedVariables false
set_option linter.unusedSimpArgs false
attribute [local go_sem] Oper.semAt_some

set_option maxRecDepth 100000 in
theorem check_scene (s : Scn) (W : World) (hs : s.Ok W) :
    Calls Try.prog 10 #[s.V] W fun e w' => e = .returned (.int .i64 (if (wrongQ s).1 = 0 then 0 else 60)) ∧ Later W w' := by
  obtain ⟨X, hX⟩ : ∃ X, X = W.alloc (.cells s.row.toArray 28) := ⟨_, rfl⟩
  have hlX : Later W X := by rw [hX]; exact (Later.refl W).alloc _
  have kS : ScnB X W.heap.size s := by rw [hX]; exact heap_alloc_new _ _
  have hW := Lib.hid (wrong_any s X (hs.later hlX))
  have hss : (Try.prog.info? 28).map (·.size) = some s.row.toArray.size := by rw [List.size_toArray]; exact size_scn s
  obtain ⟨r, hr⟩ : ∃ r, Hid ((wrongQ s).1 = r) := ⟨_, rfl⟩
  obtain ⟨a, ha⟩ : ∃ r, Hid ((wrongQ s).2 = r) := ⟨_, rfl⟩
  rw [hr.out, ha.out] at hW
  rw [hr.out]
  by_cases h0 : r = 0
  all_goals
    first
      | rw [if_pos h0]
      | rw [if_neg h0]
    first
      | subst h0
      | (have h1 : (r == 0) = false := by simpa using h0)
    go_enter Try.func10, Try.ntmps10
    go_upto_region 1 with fail
    rw [← hX]
    clear hX
    go_wp2_with (refine wpList_load_row rfl _ _ rfl W.heap.size rfl _ _ (0, 0) _ kS Try.underlying28 rfl hss ?_)
    refine hW.out.mono ?_
    rintro e w2 ⟨rfl, hl2⟩
    go_wp2_with fail
    go_ret
    exact ⟨rfl, hlX.trans hl2⟩
/-- Where an object is. -/
def findQ (s : Scn) (i : Int) : Int := fst (fun k => ((s.os[k]?).map (·.id)).getD 0 == i) s.os.length 0
end Go.Proofs.Ytackbajbladhhaa
