/-
  Chapter 6: Check, Find, Both.
-/
import Derived.Test.YtackbajbladhhaaDoorScJ
namespace Go.Proofs.YtackbajbladhhaaDoor
open Go.RowKit Go.Shelf
set_option linter.unusedVariables false
set_option linter.unusedSimpArgs false
attribute [local go_sem] Oper.semAt_some

set_option maxRecDepth 100000 in
theorem check_scene (s : Scn) (W : World) (hs : s.Ok W) :
    Calls Tryd.prog 8 #[s.V] W fun e w' => e = .returned (.int .i64 (if (wrongQ s).1 = 0 then 0 else 60)) ∧ Later W w' := by
  obtain ⟨X, hX⟩ : ∃ X, X = W.alloc (.cells s.row.toArray 28) := ⟨_, rfl⟩
  have hlX : Later W X := by rw [hX]; exact (Later.refl W).alloc _
  have kS : ScnB X W.heap.size s := by rw [hX]; exact heap_alloc_new _ _
  have hW := Lib.hid (wrong_any s X (hs.later hlX))
  have hss : (Tryd.prog.info? 28).map (·.size) = some s.row.toArray.size := by rw [List.size_toArray]; exact size_scn s
  obtain ⟨r, hr⟩ : ∃ r, Hid ((wrongQ s).1 = r) := ⟨_, rfl⟩
  obtain ⟨a, ha⟩ : ∃ r, Hid ((wrongQ s).2 = r) := ⟨_, rfl⟩
  rw [hr.out, ha.out] at hW
  rw [hr.out]
  by_cases h0 : r = 0
  all_goals
    first
      | rw [if_pos h0]
      | rw [if_neg h0]
    first
      | subst h0
      | (have h1 : (r == 0) = false := by simpa using h0)
    go_enter Tryd.func8, Tryd.ntmps8
    go_upto_region 1 with fail
    rw [← hX]
    clear hX
    go_wp2_with (refine wpList_load_row rfl _ _ rfl W.heap.size rfl _ _ (0, 0) _ kS Tryd.underlying28 rfl hss ?_)
    refine hW.out.mono ?_
    rintro e w2 ⟨rfl, hl2⟩
    go_wp2_with fail
    go_ret
    exact ⟨rfl, hlX.trans hl2⟩
/-- Where an object is. -/
def findQ (s : Scn) (i : Int) : Int := fst (fun k => ((s.os[k]?).map (·.id)).getD 0 == i) s.os.length 0
set_option maxRecDepth 100000 in
theorem find_any (s : Scn) (i : Int) (W : World) (hs : s.Ok W) (hlen : s.os.length ≤ 1000000) :
    Calls Tryd.prog 16 #[s.V, .int .i64 i] W fun e w' => e = .returned (.tuple #[.int .i64 (max 0 (findQ s i)), .bool (decide (0 ≤ findQ s i))]) ∧ Later W w' := by
  obtain ⟨X, hX⟩ : ∃ X, X = (W.alloc (.cells s.row.toArray 28)).alloc (.cells #[.int .i64 i] 3) := ⟨_, rfl⟩
  have hlX : Later W X := by rw [hX]; exact ((Later.refl W).alloc _).alloc _
  have kS : ScnB X W.heap.size s := by rw [hX]; exact push_one (heap_alloc_new _ _) _
  have cI : X.cell? ⟨W.heap.size + 1, 0, none⟩ = some (.int .i64 i) := by rw [hX]; go_simp
  obtain ⟨ao, cap, hu⟩ := hs.1.form
  rw [List.length_map] at hu
  have so := kS.uo
  rw [hu] at so
  have hv := (hs.later hlX).1
  rw [hu] at hv
  have hI := Lib.hid (ixf_find (W.heap.size + 1) (s.os.map SObj.row) (.slice ao s.os.length cap) (fun k => ((s.os[k]?).map (·.id)).getD 0 == i) X hv (by rw [List.length_map]; exact hlen) (by intro r hr; obtain ⟨z, _, rfl⟩ := List.mem_map.1 hr; exact SObj.row_length z)
    (fun j r Z hr hZ => by
      rw [List.getElem?_map] at hr
      obtain ⟨z, hz, rfl⟩ := Option.map_eq_some_iff.1 hr
      have := find1_any z.row z.id i (W.heap.size + 1) Z (SObj.row_length z) rfl (hZ.cell cI)
      rw [hz]
      exact this))
  rw [List.length_map] at hI
  obtain ⟨r, hr⟩ : ∃ r, Hid (findQ s i = r) := ⟨_, rfl⟩
  rw [show fst (fun k => ((s.os[k]?).map (·.id)).getD 0 == i) s.os.length 0 = r from hr.out] at hI
  rw [hr.out]
  have hmax : ∀ ts t W, (Builtin.max_ ts t #[.int .i64 0, .int .i64 r]).run Tryd.prog W = .ok (.int .i64 (max 0 r)) W := fun ts t W => by
    rw [run_max_int2]
    congr 2
    by_cases h : r > 0
    · rw [if_pos h]; omega
    · rw [if_neg h]; omega
  obtain ⟨n, hn⟩ : ∃ n, Hid (s.os.length = n) := ⟨_, rfl⟩
  rw [hn.out] at so hI
  clear hs hv hu kS
  go_enter Tryd.func16, Tryd.ntmps16
  go_upto_region 1 with fail
  rw [← hX]
  clear hX
  go_wp2_with fail
  refine hI.out.mono ?_
  rintro e w2 ⟨rfl, hl2⟩
  go_wp2_with fail
  go_ret2
  exact ⟨rfl, hlX.trans hl2⟩
end Go.Proofs.YtackbajbladhhaaDoor
