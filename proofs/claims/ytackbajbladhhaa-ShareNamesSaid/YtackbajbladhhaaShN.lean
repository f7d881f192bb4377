/-
  Chapter 8: how many the one has that has most; the chapter's examples.
-/
import Derived.Test.YtackbajbladhhaaShM
namespace Go.Proofs.Ytackbajbladhhaa
open Go.RowKit Go.Shelf
set_option linter.unusedVariables false
set_option linter.unusedSimpArgs false
attribute [local go_sem] Oper.semAt_some

/-- The greatest number of objects among the first lists. -/
def mxK (LL : List (List Int)) : Nat → Int
  | 0 => 0
  | k + 1 => max (mxK LL k) ((LL.getD k []).length : Nat)
theorem RowsI.at {w : World} {ao : Option Addr} {n cap : Nat} {LL : List (List Int)} (h : RowsI w (.slice ao n cap) LL) {k : Nat} (hk : k < LL.length) :
    ∃ g uo uc, ao = some ⟨g, 0, none⟩ ∧ w.cell? ⟨g, k, none⟩ = some (.slice uo (LL.getD k []).length uc) ∧ IntsV w (.slice uo (LL.getD k []).length uc) (LL.getD k []) := by
  obtain ⟨ao', cap', e, hc⟩ := h
  injection e with e1 _ _
  subst e1
  obtain ⟨g, x, e, hx, hxv⟩ := hc k hk
  obtain ⟨uo, uc, rfl⟩ := hxv.form
  exact ⟨g, uo, uc, e, hx, hxv⟩
theorem RowsI.form {w : World} {u : Value} {LL : List (List Int)} (h : RowsI w u LL) : ∃ ao cap, u = .slice ao LL.length cap := by
  obtain ⟨ao, cap, rfl, _⟩ := h; exact ⟨ao, cap, rfl⟩
set_option maxRecDepth 100000 in
set_option maxHeartbeats 1000000 in
theorem most_yes (s : Scn) (M : List Int) (v : Value) (W : World) (hs : s.Ok W) (hv : IntsO W v M) (hmay : mayQ s M = true) :
    Calls Try.prog 31 #[s.V, v] W fun e w' => e = .returned (.int .i64 (mxK (M.map (ofQ (srt (idL s)) M)) M.length)) ∧ Later W w' := by
  obtain ⟨X, hX⟩ : ∃ X, X = W.alloc (.cells s.row.toArray 28) := ⟨_, rfl⟩
  have hlX : Later W X := by rw [hX]; exact (Later.refl W).alloc _
  have kS : ScnB X W.heap.size s := by rw [hX]; exact heap_alloc_new _ _
  have hS2 : (Try.prog.info? 28).map (·.size) = some s.row.toArray.size := by rw [List.size_toArray]; exact size_scn s
  have hAll := Lib.hid (all_yes s M v X (hs.later hlX) (hv.later hlX) hmay)
  have hml := mem_length (may_parts hmay).1
  obtain ⟨LL, hLL⟩ : ∃ LL, Hid (M.map (ofQ (srt (idL s)) M) = LL) := ⟨_, rfl⟩
  have hln : M.length = LL.length := by rw [← hLL.out, List.length_map]
  rw [hLL.out] at hAll ⊢
  obtain ⟨ao, mc, rfl⟩ := (show ∃ ao cap, v = .slice ao M.length cap by obtain ⟨ao, cap, rfl, _⟩ := hv; exact ⟨ao, cap, rfl⟩)
  rw [hln] at hAll hml ⊢
  obtain ⟨m, hm⟩ : ∃ m, Hid (LL.length = m) := ⟨_, rfl⟩
  obtain ⟨mx, hmx⟩ : ∃ x, Hid (mxK LL LL.length = x) := ⟨_, rfl⟩
  rw [hmx.out]
  rw [hm.out] at hAll hml hmx ⊢
  clear hmay hv hln
  go_enter Try.func31, Try.ntmps31
  go_upto_region 1 with fail
  rw [← hX]
  clear hX
  go_wp2_with (refine wpList_load_row rfl _ _ rfl W.heap.size rfl _ _ (0, 0) _ kS Try.underlying28 rfl hS2 ?_)
  refine hAll.out.mono ?_
  rintro e w1 ⟨u, rfl, hu, h1⟩
  obtain ⟨uo, uc, rfl⟩ := hu.form
  rw [hm.out] at hu ⊢
  clear hAll kS
  go_wp2_with fail
  go_loopw [18, 7] (fun y z wr => ∃ k : Nat, k ≤ m ∧ y = .int .i64 k ∧ z = .int .i64 (mxK LL k) ∧ wr = w1) (fun y _ _ => (1000 - intOf y).toNat)
  case atStart => exact ⟨0, by omega, rfl, rfl, rfl⟩
  case round =>
    obtain ⟨k, hk, rfl, rfl, rfl⟩ := hrel
    by_cases hkm : k < m
    · obtain ⟨g, xo, xc, huo, cx, -⟩ := hu.at (k := k) (by rw [hm.out]; exact hkm)
      obtain ⟨ln, hl⟩ : ∃ n, Hid ((LL.getD k []).length = n) := ⟨_, rfl⟩
      rw [hl.out] at cx
      obtain ⟨b, hb⟩ : ∃ b, Hid (mxK LL (k + 1) = b) := ⟨_, rfl⟩
      obtain ⟨a, ha⟩ : ∃ a, Hid (mxK LL k = a) := ⟨_, rfl⟩
      have hmax : ∀ ts t W, (Builtin.max_ ts t #[.int .i64 a, .int .i64 (ln : Int)]).run Try.prog W = .ok (.int .i64 b) W := fun ts t W => by
        rw [run_max_int2]
        congr 2
        have : b = max a (ln : Int) := by rw [← hb.out, ← ha.out, ← hl.out]; rfl
        rw [this]
        by_cases h : (ln : Int) > a
        · rw [if_pos h]; omega
        · rw [if_neg h]; omega
      rw [ha.out]
      have hki : (k : Int) < m := by omega
      subst huo
      clear ha hu
      go_wp2_with fail
      go_roundw
      case rel => exact ⟨k + 1, by omega, by go_num, by rw [hb.out], by first | trivial | rfl⟩
      case measure => simp [intOf]; omega
    · obtain rfl : k = m := by omega
      rw [hmx.out]
      go_wp2_with fail
      go_ret
      exact ⟨rfl, hlX.trans h1⟩
end Go.Proofs.Ytackbajbladhhaa
