/-
  Chapter 3: the identity.
-/
import Derived.Test.YtackbajbladhhaaDoorScL
namespace Go.Proofs.YtackbajbladhhaaDoor
open Go.RowKit Go.Shelf
set_option linter.unusedVariables false
set_option linter.unusedSimpArgs false
attribute [local go_sem] Oper.semAt_some

/-- A scaling. -/
def scaQ (x y z : Int) (k : Nat) : Int := if k = 0 then x else if k = 5 then y else if k = 10 then z else if k = 15 then 65536 else 0
abbrev idQ : Nat → Int := scaQ 65536 65536 65536
theorem sca_lit (x y z : Int) : rowV 16 (scaQ x y z) = #[.int .i64 x, .int .i64 0, .int .i64 0, .int .i64 0, .int .i64 0, .int .i64 y, .int .i64 0, .int .i64 0, .int .i64 0, .int .i64 0, .int .i64 z, .int .i64 0, .int .i64 0, .int .i64 0, .int .i64 0, .int .i64 65536] := rfl
set_option maxRecDepth 100000 in
set_option maxHeartbeats 2000000 in
theorem scale_any (x y z : Int) (W : World) :
    Calls Tryd.prog 13 #[.int .i64 x, .int .i64 y, .int .i64 z] W fun e w' => e = .returned (matV (scaQ x y z)) ∧ Later W w' := by
  go_enter Tryd.func13, Tryd.ntmps13
  go_wp2_with fail
  refine bodyPost_ret (v := matV (scaQ x y z)) ?_ rfl ⟨rfl, ?_⟩
  · rw [show matV (scaQ x y z) = .agg _ from congrArg Value.agg (sca_lit x y z)]
    simp only [results]; go_simp
  · exact ((Later.refl W).alloc _).alloc _
set_option maxRecDepth 100000 in
set_option maxHeartbeats 2000000 in
theorem identity_any (W : World) :
    Calls Tryd.prog 24 #[] W fun e w' => e = .returned (matV idQ) ∧ Later W w' := by
  have hS := Lib.hid (fun W => scale_any 65536 65536 65536 W)
  have hnew := heap_alloc_new W (.cells #[.int .i64 0, .int .i64 0, .int .i64 0, .int .i64 0, .int .i64 0, .int .i64 0, .int .i64 0, .int .i64 0, .int .i64 0, .int .i64 0, .int .i64 0, .int .i64 0, .int .i64 0, .int .i64 0, .int .i64 0, .int .i64 0] 25)
  have hz2 : (#[.int .i64 0, .int .i64 0, .int .i64 0, .int .i64 0, .int .i64 0, .int .i64 0, .int .i64 0, .int .i64 0, .int .i64 0, .int .i64 0, .int .i64 0, .int .i64 0, .int .i64 0, .int .i64 0, .int .i64 0, .int .i64 0] : Array Value).size = (rowV 16 idQ).size := by rw [rowV_size]; rfl
  go_enter Tryd.func24, Tryd.ntmps24
  go_wp2_with fail
  refine (hS.out _).mono ?_
  rintro e w2 ⟨rfl, hl2⟩
  have hR := hl2.row hnew
  go_wp2_with (refine wpList_store_row rfl 25 _ _ rfl W.heap.size (rowV 16 idQ) rfl rfl 25 #[.int .i64 0, .int .i64 0, .int .i64 0, .int .i64 0, .int .i64 0, .int .i64 0, .int .i64 0, .int .i64 0, .int .i64 0, .int .i64 0, .int .i64 0, .int .i64 0, .int .i64 0, .int .i64 0, .int .i64 0, .int .i64 0] hR (size_mat _) hz2 (rowV_one 16 _) ?_)
  have kZ : matB _ W.heap.size idQ := setRow_heap _ _ _ (rowV 16 idQ) _ _ hR
  have hload := load_mat kZ
  exact bodyPost_ret (v := matV idQ) (results_cell1 (a := 0) (t := 25) (by kernel_rfl) _ rfl hload) rfl ⟨rfl, (((Later.refl W).alloc _).trans hl2).setRow (Nat.le_refl _) _⟩
end Go.Proofs.YtackbajbladhhaaDoor
