/-
  Chapter 21: Held; Open of a box in which nothing is; calls on none.
-/
import Derived.Test.YtjelfiljebamgaaBxK
namespace Go.Proofs.Ytjelfiljebamgaa
open Go.RowKit Go.Shelf Go.Maps
set_option linter.unusedVariables false
set_option linter.unusedSimpArgs false
attribute [local go_sem] Oper.semAt_some

/-- The step of a range over a box's map. -/
theorem wpList_next_box (w : World) {ops : Array Oper} {rest : List Oper} {o : Oper} {a : Act} {Q : Exit → Act → World → Prop} (hg : o.guard = none) (it : Operand) (hop : o.op = Op.next it false) (B rr n m : Nat) (D : DataW Unit) (f : Nat → Option Nat) (left : Lit → Bool) (cnt : Nat) (hok : MapOk D f m)
    (hit : a.eval it = .pointer (some ⟨rr, 0, none⟩)) (h : w.ranges Try.prog 22 ptrElem B rr n D left cnt)
    (hDone : cnt = 0 → (∀ kl, left kl = false) → wpList Try.prog ops Q rest (a.put o.dst (.tuple #[.bool false])) w)
    (hMore : ∀ (i p : Nat) (w' : World) (cnt' : Nat), f i = some p → left (.int .u64 i) = true → i < 18446744073709551616 → w'.ranges Try.prog 22 ptrElem B rr n D (fun z => left z && !z.sameKey (.int .u64 i)) cnt' → cnt' < cnt → w.grownBy w' (some rr) → w'.heap.size = w.heap.size →
      (Instr.entry (.pointer (some ⟨rr, 0, none⟩))).run Try.prog w' = .ok (.tuple #[.int .u64 i, wp p]) w' → wpList Try.prog ops Q rest (a.put o.dst (.tuple #[.bool true, .int .u64 i, wp p])) w') :
    wpList Try.prog ops Q (o :: rest) a w := by
  refine wpList_plain hg fun K' hK' => ?_
  unfold Oper.wp
  rcases h.next lawM o.type with ⟨h0, hl, hrun⟩ | ⟨key, v, kl, y, w', cnt', hkey, hlk, hv, hat, hrun, hrg, hlt, hgr, hsz, hen⟩
  · simp [execOp, hop, hit, hrun, Result.andThen]
    exact hK' _ _ (hDone h0 hl)
  · obtain ⟨z, rfl, rfl, hwf⟩ := Maps.keyOf_int_inv Try.underlying22 hkey
    have hb : 0 ≤ z ∧ z ≤ 18446744073709551615 := by
      simp only [Lit.wf, Bool.and_eq_true, decide_eq_true_eq] at hwf
      exact hwf
    obtain ⟨i, rfl⟩ : ∃ i : Nat, z = i := ⟨z.toNat, by omega⟩
    obtain ⟨p, hfp, rfl⟩ := look_at hok hv hat (Maps.has_true_of_atKey hat)
    simp [execOp, hop, hit, hrun, Result.andThen]
    exact hK' _ _ (hMore i p w' cnt' hfp hlk (by omega) hrg hlt hgr hsz hen)
def byM (M : Bx) (i : Nat) : Nat := ((M i).map (·.by')).getD 0
def sumM (M : Bx) (ks : List Nat) : Nat := (ks.map (byM M)).sum
theorem sumM_snoc (M : Bx) (ks : List Nat) (i : Nat) : sumM M (ks ++ [i]) = sumM M ks + byM M i := by simp [sumM]
theorem sumM_le {M : Bx} (h : ∀ i, byM M i ≤ 131072) : ∀ ks : List Nat, sumM M ks ≤ 131072 * ks.length
  | [] => Nat.le_refl _
  | i :: ks => by
    have h1 := sumM_le h ks
    have h2 := h i
    simp only [sumM, List.map_cons, List.sum_cons, List.length_cons] at h1 ⊢
    omega
set_option maxRecDepth 100000 in
theorem held_any (x : Nat) (r : Int) (M : Bx) (S T : Nat → Prop) (W : World) (h : BoxB W x r M S T) :
    Calls Try.prog 26 #[wp x] W fun e w' => ∃ ks : List Nat, ks.Nodup ∧ (∀ i, i ∈ ks ↔ (M i).isSome = true) ∧ e = .returned (.int .i64 (sumM M ks : Nat)) ∧ Later W w' := by
  obtain ⟨B, D, f, G, n, h⟩ := h
  obtain ⟨x0, x1⟩ := h.cells
  have hr := h.room.1
  have hmap := Lib.hid h.map
  have hok := Lib.hid h.ok
  have hn : n ≤ 64 := by have := h.full; have := h.room.2; omega
  have hfM : Hid (∀ i, (f i).isSome = true ↔ (M i).isSome = true) := Lib.hid (fun i => by
    cases hf : f i with
    | none => rw [h.none' i hf]; simp
    | some p => obtain ⟨m, hm, _⟩ := h.some' i p hf; rw [hm]; simp)
  have hby : Hid (∀ i p, f i = some p → ∃ q, W.cell? ⟨p, 2, none⟩ = some (.int .i64 (q : Nat)) ∧ byM M i = q) := Lib.hid (fun i p hf => by
    obtain ⟨m, hm, ⟨cap, vs, h1, -, -⟩, -⟩ := h.some' i p hf
    exact ⟨m.by', cell_of_row _ _ 2 _ _ _ h1, by unfold byM; rw [hm]; rfl⟩)
  have hle : Hid (∀ ks : List Nat, ks.length ≤ 64 → sumM M ks ≤ 8388608) := Lib.hid (fun ks hk => by
    refine Nat.le_trans (sumM_le (fun i => ?_) ks) (by omega)
    unfold byM
    cases hf : f i with
    | none => rw [h.none' i hf]; exact Nat.zero_le _
    | some p => obtain ⟨m, hm, hMB⟩ := h.some' i p hf; rw [hm]; exact hMB.byl)
  have hsz0 : Maps.size D = n := h.ok.size'
  clear h
  go_enter Try.func26, Try.ntmps26
  go_wp2_with fail
  refine (none_no x r W x0 hr).mono ?_
  rintro e w0 ⟨rfl, hw0⟩
  obtain rfl : W = w0 := hw0.symm
  go_wp2_with (at_range; refine wpList_range_own _ rfl _ 76 rfl 22 125 lawM Try.underlying76 _ B n D rfl hmap.out ?_; intro w1 hrg1 hg1 hs1)
  go_frame
  obtain ⟨rr, hrr⟩ : ∃ q, Hid (W.heap.size = q) := ⟨_, Lib.hid rfl⟩
  rw [hrr.out] at hrg1 ⊢
  have hl1 : Hid (Later W w1) := Lib.hid ⟨hg1.os, hg1.tape, hg1.output, hg1.size, fun k hk => hg1.block k hk (by simp)⟩
  replace hrg1 := Lib.hid hrg1
  clear hg1 hs1
  go_loopg [3] (n + 1) (fun gg s wr => ∃ (left : Lit → Bool) (cnt q : Nat) (ks : List Nat), gg = cnt + 1 ∧ s = .int .i64 (q : Nat) ∧ Hid (wr.ranges Try.prog 22 ptrElem B rr n D left cnt) ∧ Hid (MetOk f left ks) ∧ Hid (sumM M ks = q) ∧ ks.length + cnt ≤ n ∧ Hid (Later W wr))
  case atStart => exact ⟨_, _, 0, [], by rw [hsz0], rfl, hrg1, Lib.hid (MetOk.start hok.out), Lib.hid rfl, by rw [hsz0]; simp, hl1⟩
  case round =>
    obtain ⟨left, cnt, q, ks, rfl, rfl, hrg, hmet, hq, hlen, hlw⟩ := hrel
    go_wp2_with (at_next; refine wpList_next_box _ rfl _ rfl B rr n n D f left cnt hok.out rfl hrg.out ?_ ?_)
    · intro hc0 hl0
      go_wp2_with fail
      go_ret
      refine ⟨ks, hmet.out.nd, fun i => ?_, by rw [hq.out]; rfl, hlw.out⟩
      rw [hmet.out.mem, ← hfM.out i]
      exact ⟨fun h => h.1, fun h => ⟨h, hl0 _⟩⟩
    · intro i p w2 cnt2 hfi hlk hi64 hrg2 hlt hg2 hs2 hen
      obtain ⟨z, hz, hbz⟩ := hby.out i p hfi
      have hl2 : Later W w2 := by
        refine ⟨hg2.os.trans hlw.out.os, hg2.tape.trans hlw.out.tape, hg2.output.trans hlw.out.output, Nat.le_trans hlw.out.size hg2.size, fun k hk => (hg2.block k (Nat.lt_of_lt_of_le hk hlw.out.size) (fun e => ?_)).trans (hlw.out.block k hk)⟩
        have e2 := Option.some.inj e
        have := hrr.out
        omega
      have c2 := hl2.cell hz
      have hb1 := hle.out ks (by omega)
      have hb2 := hle.out (ks ++ [i]) (by rw [List.length_append, List.length_singleton]; omega)
      rw [sumM_snoc, hbz, hq.out] at hb2
      rw [hq.out] at hb1
      have hsn := Lib.hid (sumM_snoc M ks i)
      replace hl2 := Lib.hid hl2
      replace hrg2 := Lib.hid hrg2
      have hmet2 := Lib.hid (hmet.out.step (i := i) (by rw [hfi]; rfl) hlk)
      replace hbz := Lib.hid hbz
      clear hz hs2 hg2 hi64 hlk hfi
      go_wp2_with fail
      go_roundg (cnt2 + 1)
      case measure => omega
      case rel => exact ⟨_, cnt2, q + z, ks ++ [i], rfl, by go_num, hrg2, hmet2, Lib.hid (by rw [hsn.out, hbz.out, hq.out]), by rw [List.length_append, List.length_singleton]; omega, hl2⟩
end Go.Proofs.Ytjelfiljebamgaa
