/-
  Chapter 5: the bytes of a number, as the program tells them one by one (an iterator that turns its own captured number).
-/
import Derived.Test.YtjelfiljebamgaaPkR
import Derived.Test.YtjelfiljebamgaaPkA
import Derived.Test.YtjelfiljebamgaaRow
import Derived.Shelf.RegionOpen
import Derived.Deep.LoopGhost
namespace Go.Proofs.Ytjelfiljebamgaa
open Go.RowKit Go.Shelf
set_option linter.unusedVariables false
set_option linter.unusedSimpArgs false
attribute [local go_sem] Oper.semAt_some

abbrev wp (b : Nat) : Value := .pointer (some ⟨b, 0, none⟩)
theorem heap_set1 (W : World) (b : Nat) (v : Value) (t : TypeId) (u : Value) (h : W.heap[b]? = some (.cells #[v] t (0, 0))) : (W.setCell ⟨b, 0, none⟩ u).heap[b]? = some (.cells #[u] t (0, 0)) := by
  obtain ⟨hlt, hb⟩ := Array.getElem?_eq_some_iff.1 h
  show (W.heap.modify b _)[b]? = _
  rw [Array.getElem?_eq_getElem (by rw [Array.size_modify]; exact hlt), Array.getElem_modify_self, hb]
  rfl
/-- The iterator's number. -/
def NumB (W : World) (q n : Nat) : Prop := W.heap[q]? = some (.cells #[.int .u64 n] 22 (0, 0))
theorem form_any (n : Nat) (W : World) :
    Calls Try.prog 78 #[.int .u64 n] W fun e w' => e = .returned (.func (.func 98) #[] #[wp W.heap.size]) ∧ w' = W.alloc (.cells #[.int .u64 n] 22) := by
  go_enter Try.func78, Try.ntmps78
  go_wp2
  go_ret
  exact ⟨rfl, rfl⟩

theorem or_128 (n : Nat) : bits BinOp.or IntKind.u8 ((n : Int) % 256) 128 = ((128 + n % 128 : Nat) : Int) := by
  have h : ∀ r : Fin 256, bits BinOp.or IntKind.u8 ((r.val : Nat) : Int) 128 = ((128 + r.val % 128 : Nat) : Int) := by decide +kernel
  have := h ⟨n % 256, by omega⟩
  dsimp only at this
  rw [show ((n : Int) % 256) = ((n % 256 : Nat) : Int) by omega, this, show n % 256 % 128 = n % 128 by omega]
set_option maxRecDepth 100000 in
set_option maxHeartbeats 2000000 in
theorem form1_in (l q n : Nat) (J Jx : List Int → World → Prop) (W : World) (hn : n < 18446744073709551616)
    (hJ : AbidesQ W.heap.size q J)
    (hY : ∀ pre x W1, J pre W1 → pre.length < 10 → YieldAt Fence.wide 2 Try.prog l #[.int .u8 x] W1 fun e W' =>
      (e = .returned (.bool true) ∧ J (pre ++ [x]) W' ∧ W'.heap[q]? = W1.heap[q]?) ∨ (e = .returned (.bool false) ∧ Jx (pre ++ [x]) W'))
    (hw : NumB W q n) (h0 : J [] W) :
    CallsIn Fence.wide 3 Try.prog 98 #[.func (.yield l) #[] #[], wp q] W fun e W' =>
      (∃ v, e = .returned v) ∧ ((∃ xs, xs = fm n ∧ J xs W') ∨ (∃ pre, True ∧ Jx pre W')) := by
  refine callsIn_of_wp Try.func98 rfl trivial ?_ rfl
  simp only [Try.ntmps98, List.size_toArray, List.length_cons, List.length_nil, Nat.reduceAdd, Nat.reduceSub, Array.replicate_succ, Array.replicate_zero, List.push_toArray, List.append_toArray, List.nil_append, List.cons_append]
  refine wpIn_wide.2 ?_

  go_wp2_with fail
  go_loopg [] n (fun k wr => ∃ (m : Nat) (pre : List Int), k = m ∧ m ≤ n ∧ pre ++ fm m = fm n ∧ J pre wr ∧ NumB wr q m)
  case atStart => exact ⟨n, [], rfl, Nat.le_refl _, rfl, h0, hw⟩
  case round =>
    obtain ⟨m, pre, rfl, hmn, hpre, hJp, hm⟩ := hrel
    obtain ⟨wo, rfl⟩ : ∃ wo : World, wo = wr := ⟨_, rfl⟩
    have hcell : wo.cell? ⟨q, 0, none⟩ = some (.int .u64 gk) := cell_of_row wo q 0 _ _ _ hm
    have hfz : wo.frozen? ⟨q, 0, none⟩ = false := by simp [World.frozen?, show wo.heap[q]? = _ from hm]
    have hfm := fm_eq (n := gk) (by omega)
    have hpl : pre.length < 10 := by
      have h1 := congrArg List.length hpre
      rw [List.length_append] at h1
      have := fm_len gk; have := fm_len n; omega
    have hro : ∀ (x : Int), (∃ bb : Bool, True) := fun _ => ⟨true, trivial⟩
    by_cases h128 : gk < 128
    · have hlt : ¬ (128 : Int) ≤ (gk : Int) := by omega
      have hmod : (gk : Int) % 256 = gk := by omega
      obtain ⟨fn, tmps, assign, body, hy, hR⟩ := hY pre (gk : Int) wo hJp hpl
      rw [if_pos h128] at hfm
      rw [hfm] at hpre
      have hR2 := hR.mono (R' := fun e W' => ∃ bb : Bool, e = .returned (.bool bb) ∧ (bb = true → J (pre ++ [(gk : Int)]) W') ∧ (bb = false → Jx (pre ++ [(gk : Int)]) W')) (by
        rintro e' W3 (⟨rfl, hJ3, hk3⟩ | ⟨rfl, hJx3⟩)
        · exact ⟨true, rfl, fun _ => hJ3, fun h => absurd h (by simp)⟩
        · exact ⟨false, rfl, fun h => absurd h (by simp), fun _ => hJx3⟩)
      clear hR hY hro hfm
      go_upto_region 3 with fail
      refine (wpIn_wide (n := 3)).1 ?_
      gi_wp2_with (refine hR2.mono ?_; rintro e' W3 ⟨bb, rfl, hA, hB⟩)
      clear hy hR2
      go_end0
      cases bb
      · exact ⟨⟨_, rfl⟩, .inr ⟨_, trivial, hB rfl⟩⟩
      · exact ⟨⟨_, rfl⟩, .inl ⟨_, hpre, hA rfl⟩⟩
    · have hlt : (128 : Int) ≤ (gk : Int) := by omega
      have hor := or_128 gk
      obtain ⟨fn, tmps, assign, body, hy, hR⟩ := hY pre ((128 + gk % 128 : Nat) : Int) wo hJp hpl
      rw [if_neg h128] at hfm
      rw [hfm] at hpre
      obtain ⟨x, hx⟩ : ∃ x : Int, Hid (((128 + gk % 128 : Nat) : Int) = x) := ⟨_, rfl⟩
      rw [hx.out] at hor hy hR hpre
      have hR2 := hR.mono (R' := fun e W' => ∃ bb : Bool, e = .returned (.bool bb) ∧ (bb = true → J (pre ++ [x]) W' ∧ W'.heap[q]? = wo.heap[q]?) ∧ (bb = false → Jx (pre ++ [x]) W')) (by
        rintro e' W3 (⟨rfl, hJ3, hk3⟩ | ⟨rfl, hJx3⟩)
        · exact ⟨true, rfl, fun _ => ⟨hJ3, hk3⟩, fun h => absurd h (by simp)⟩
        · exact ⟨false, rfl, fun h => absurd h (by simp), fun _ => hJx3⟩)
      clear hR hY hro hfm
      go_upto_region 2 with fail
      refine (wpIn_wide (n := 3)).1 ?_
      gi_wp2_with (refine hR2.mono ?_; rintro e' W3 ⟨bb, rfl, hA, hB⟩)
      clear hy hR2
      cases bb
      · have hBf := hB rfl
        clear hA hB
        gi_wp2
        go_wp2_with fail
        refine bodyPost_ret (results_none rfl _ _ _) rfl ?_
        exact ⟨⟨_, rfl⟩, .inr ⟨_, trivial, hBf⟩⟩
      · obtain ⟨hJ3, hk3⟩ := hA rfl
        clear hA hB
        have hm3 : NumB W3 q gk := hk3.trans hm
        have hcell3 : W3.cell? ⟨q, 0, none⟩ = some (.int .u64 gk) := cell_of_row W3 q 0 _ _ _ hm3
        have hfz3 : W3.frozen? ⟨q, 0, none⟩ = false := by simp [World.frozen?, show W3.heap[q]? = _ from hm3]
        clear hcell hfz hm hk3
        gi_wp2
        go_wp2_with fail
        go_roundg (gk / 128)
        case measure => omega
        case rel =>
          refine ⟨gk / 128, pre ++ [x], rfl, by omega, by rw [List.append_assoc]; exact hpre, hJ.2 _ _ _ hJ3, ?_⟩
          have := heap_set1 W3 q _ _ (.int .u64 ((gk : Int) / 128)) hm3
          rw [show ((gk : Int) / 128) = ((gk / 128 : Nat) : Int) by omega] at this ⊢
          exact this
/-- The program's iterator over the bytes of a number: its contract. -/
theorem form_seq (q n : Nat) (w0 : World) (hn : n < 18446744073709551616) (hw : NumB w0 q n) :
    SeqQ Fence.wide 3 Try.prog 98 #[wp q] (fun x : Int => #[.int .u8 x]) q (fun A B => B.heap[q]? = A.heap[q]?) (fun ys => ys = fm n) (fun _ => True) 10 w0 := fun l J Jx W hW hJ hJx hY h0 =>
  form1_in l q n J Jx W hn hJ hY ((hW.block q (Array.getElem?_eq_some_iff.1 hw).1).trans hw) h0
end Go.Proofs.Ytjelfiljebamgaa
