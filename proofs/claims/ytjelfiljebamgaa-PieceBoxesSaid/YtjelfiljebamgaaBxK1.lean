/-
  Chapter 21: Missing, Held, Open of a box in which nothing is; calls on none.
  Chapter 21: Held; Open of a box in which nothing is; calls on none.
  Chapter 21: Open of a box in which nothing is; calls on none.
  Chapter 21: a box among other blocks that stay.
-/
import Derived.Maps.RangeWalk
import Derived.Test.YtjelfiljebamgaaBxJ
namespace Go.Proofs.Ytjelfiljebamgaa
open Go.RowKit Go.Shelf Go.Maps
set_option linter.unusedVariables false
set_option linter.unusedSimpArgs false
attribute [local go_sem] Oper.semAt_some

def encN (L : List Nat) : List Value := L.map fun k => Value.int .i64 (k : Nat)
theorem info_int : (Try.prog.info? 3).map (fun i => (i.zero, i.size, i.bytes)) = some (some (.int .i64 0), 1, 8) := by kernel_rfl
def missK (l : List (Option (List Int))) (i : Nat) : List Nat := (List.range i).filter fun k => (l.getD k none).isNone
theorem missK_some {l : List (Option (List Int))} {i : Nat} (h : (l.getD i none).isSome = true) : missK l (i + 1) = missK l i := by
  unfold missK
  rw [List.range_succ, List.filter_append, List.filter_cons_of_neg (by cases hc : l.getD i none <;> rw [hc] at h <;> simp at h ⊢)]
  simp
theorem missK_none {l : List (Option (List Int))} {i : Nat} (h : (l.getD i none).isSome = false) : missK l (i + 1) = missK l i ++ [i] := by
  unfold missK
  rw [List.range_succ, List.filter_append, List.filter_cons_of_pos (by cases hc : l.getD i none <;> rw [hc] at h <;> simp at h ⊢)]
  simp
theorem missK_le (l : List (Option (List Int))) (i : Nat) : (missK l i).length ≤ i := by
  unfold missK
  refine Nat.le_trans (List.length_filter_le _ _) ?_
  simp
theorem pmiss_K (m : Msg) : missK m.l m.l.length = pmiss m := rfl
/-- The missing places of a message, or of none. -/
def missB (M : Bx) (i : Nat) : List Nat := match M i with | some m => pmiss m | none => []
set_option maxRecDepth 100000 in
theorem missing_any (i : Nat) (x : Nat) (r : Int) (M : Bx) (S T : Nat → Prop) (W : World) (h : BoxB W x r M S T) (hi : i < 18446744073709551616) :
    Calls Try.prog 28 #[wp x, .int .u64 i] W fun e w' => ∃ v, e = .returned v ∧ w'.ownsRow W.heap.size 3 1 v (missB M i).length (encN (missB M i)) ∧ Later W w' := by
  obtain ⟨B, D, f, G, n, h⟩ := h
  obtain ⟨x0, x1⟩ := h.cells
  have hr := h.room.1
  have hlk := MapOk.look (P := Try.prog) (w := W) h.ok h.map lawM Try.underlying76 (zeroM _) (keyM hi)
  obtain ⟨I, hI⟩ : ∃ I : Int, Hid ((i : Int) = I) := ⟨_, Lib.hid rfl⟩
  clear hi
  cases hf : f i with
  | none =>
    have e : ptrF f i = .pointer none := by unfold ptrF; rw [hf]
    rw [e, hI.out] at hlk
    have hM : missB M i = [] := by unfold missB; rw [h.none' i hf]
    rw [hI.out, hM]
    clear h hf hM
    go_enter Try.func28, Try.ntmps28
    go_wp2_with fail
    go_step3
    go_wp2_with fail
    refine (none_no x r W x0 hr).mono ?_
    rintro e w0 ⟨rfl, hw0⟩
    obtain rfl : W = w0 := hw0.symm
    go_wp2_with fail
    rw [Exit.noGoto_ret]
    go_ret
    exact ⟨_, rfl, World.ownsRow_nil _ _ _ _, Later.refl _⟩
  | some p =>
    have e : ptrF f i = wp p := by unfold ptrF; rw [hf]
    obtain ⟨m, hMi, hMB⟩ := h.some' i p hf
    obtain ⟨⟨cap, vs, hm, hrw, hp⟩, sp, sg, q1, q2, q3, q4⟩ := hMB
    have hM : missB M i = missK m.l m.l.length := by unfold missB; rw [hMi]; rfl
    rw [e, hI.out] at hlk
    rw [hI.out, hM]
    obtain ⟨n0, hn0⟩ : ∃ k, Hid (m.l.length = k) := ⟨_, Lib.hid rfl⟩
    rw [hn0.out] at hm hrw q1 ⊢
    have c0 : W.cell? ⟨p, 0, none⟩ = some (.slice (some ⟨G i, 0, none⟩) n0 cap) := cell_of_row _ _ 0 _ _ _ hm
    obtain ⟨g, hg⟩ : ∃ g, Hid (G i = g) := ⟨_, Lib.hid rfl⟩
    rw [hg.out] at c0 hrw
    replace hrw := Lib.hid hrw
    have hp2 : Hid (∀ k, k < n0 → ∃ v, vs[k]? = some v ∧ PlV W T v (m.l.getD k none)) := Lib.hid (by rw [← hn0.out]; exact hp.2)
    obtain ⟨l, hl⟩ : ∃ l, Hid (m.l = l) := ⟨_, Lib.hid rfl⟩
    rw [hl.out] at hp2 ⊢
    clear h hf hM hm hMi hp q4
    go_enter Try.func28, Try.ntmps28
    go_wp2_with fail
    go_step3
    go_wp2_with fail
    refine (none_no x r W x0 hr).mono ?_
    rintro e w0 ⟨rfl, hw0⟩
    obtain rfl : W = w0 := hw0.symm
    obtain ⟨i0, hi0, hz0, hz1, hz2⟩ := info_parts info_int
    go_wp2_with fail
    go_step3
    go_wp2_with fail
    go_loopg [5, 29] (n0 + 1) (fun gg v y wr => ∃ (k : Nat), gg = n0 + 1 - k ∧ k ≤ n0 ∧ y = .int .i64 k ∧ Hid (wr.ownsRow W.heap.size 3 1 v (missK l k).length (encN (missK l k))) ∧ Hid (Later W wr))
    case atStart => exact ⟨0, by omega, Nat.zero_le _, rfl, Lib.hid (World.ownsRow_nil _ _ _ _), Lib.hid (Later.refl _)⟩
    case round =>
      obtain ⟨k, rfl, hkn, rfl, hrow, hlw⟩ := hrel
      by_cases hk : k < n0
      · have hii : (k : Int) < (n0 : Int) := by omega
        obtain ⟨v, h1, h2⟩ := hp2.out k hk
        have hcell : wr.cell? ⟨g, k, none⟩ = some v := hlw.out.cell (by rw [← h1]; exact hrw.out.cellAt k (by omega))
        have hne := fun Q => h2.neq Q
        obtain ⟨ao, mm, c, rfl⟩ := h2.form
        obtain ⟨b, hb⟩ : ∃ b, Hid ((l.getD k none).isSome = b) := ⟨_, Lib.hid rfl⟩
        rw [hb.out] at hne
        clear h1 h2
        cases b with
        | true =>
          go_wp2_with fail
          go_roundg (n0 - k)
          case measure => omega
          case rel => exact ⟨k + 1, by omega, by omega, by go_num, by rw [missK_some hb.out]; exact hrow, hlw⟩
        | false =>
          have hml := missK_le l k
          obtain ⟨ov, oc, rfl⟩ := own_form hrow.out
          have hsz := hlw.out.size
          have hmL : (missK l k).length + 1 ≤ maxLen := Nat.le_trans (by omega : _ ≤ 5000) (by decide)
          have q1' := hrow.out.alloc (.cells #[.int .i64 k] 3)
          go_wp2_with (at_builtin; refine wpList_append_lies _ rfl _ _ 60 rfl W.heap.size 3 i0 (.int .i64 0) 1 8 Try.underlying60 hi0 hz0 hz1 hz2 rfl (by decide) _ _ _ rfl q1' ⟨wr.heap.size, 0, none⟩ 1 1 [.int .i64 k] rfl rfl (World.news_of_block (heap_alloc_new _ _)) (fun u hu => by rw [List.mem_singleton] at hu; rw [hu]; rfl) (by omega) hmL (by omega) (by simp; omega) _ rfl ?_; intro ga ca w3 hr3 hg3 _ _)
          go_roundg (n0 - k)
          case measure => omega
          case rel =>
            refine ⟨k + 1, by omega, by omega, by go_num, ?_, ?_⟩
            · rw [missK_none hb.out, List.length_append]
              refine Lib.hid ?_
              have e : encN (missK l k ++ [k]) = encN (missK l k) ++ [.int .i64 k] := by unfold encN; rw [List.map_append]; rfl
              rw [e]
              exact hr3
            · exact Lib.hid (later_own (hlw.out.alloc _) q1' (Nat.le_refl _) hg3)
      · obtain rfl : n0 = k := by omega
        have hii : ¬ (n0 : Int) < (n0 : Int) := by omega
        go_wp2_with fail
        (try rw [Exit.noGoto_ret])
        go_ret
        exact ⟨_, rfl, hrow.out, hlw.out⟩
/-! How many bytes are held. -/
def sumN (l : List Nat) : Nat := l.sum
theorem look_at {D : DataW Unit} {f : Nat → Option Nat} {n : Nat} (h : MapOk D f n) {i : Nat} {y : DataW Unit × List MemPlace} {v : Value} (hv : ptrElem v = some y) (hat : ∀ zd, D.atKey (.int .u64 i) zd = y.1) (hhas : Maps.has D (.int .u64 i) = true) : ∃ p, f i = some p ∧ v = wp p := by
  have h1 := h.has' i
  rw [hhas] at h1
  obtain ⟨p, hp⟩ := Option.isSome_iff_exists.1 h1.symm
  have h2 := h.at' i
  rw [hat, atF, hp] at h2
  rcases ptrElem_inv hv with ⟨rfl, rfl⟩ | ⟨b, rfl, rfl⟩
  · cases h2
  · refine ⟨p, hp, ?_⟩
    simp at h2
    have : b = p := by omega
    rw [this]
/-- What was met so far on a way through a map. -/
structure MetOk (f : Nat → Option Nat) (left : Lit → Bool) (ks : List Nat) : Prop where
  nd : ks.Nodup
  mem : ∀ i : Nat, i ∈ ks ↔ ((f i).isSome = true ∧ left (.int .u64 i) = false)
theorem MetOk.start {D : DataW Unit} {f : Nat → Option Nat} {n : Nat} (h : MapOk D f n) : MetOk f (Maps.has D) [] :=
  ⟨List.nodup_nil, fun i => by rw [h.has']; cases (f i).isSome <;> simp⟩
theorem MetOk.step {f : Nat → Option Nat} {left : Lit → Bool} {ks : List Nat} (h : MetOk f left ks) {i : Nat} (hi : (f i).isSome = true) (hl : left (.int .u64 i) = true) : MetOk f (fun z => left z && !z.sameKey (.int .u64 i)) (ks ++ [i]) := by
  have hni : i ∉ ks := fun hm => by have := ((h.mem i).1 hm).2; rw [hl] at this; cases this
  refine ⟨by rw [List.nodup_append]; exact ⟨h.nd, by simp, fun a ha b hb => by rw [List.mem_singleton] at hb; rw [hb]; exact fun e => hni (e ▸ ha)⟩, fun j => ?_⟩
  rw [List.mem_append, List.mem_singleton, h.mem]
  by_cases e : j = i
  · subst e
    have : (Lit.int IntKind.u64 (j : Int)).sameKey (.int .u64 j) = true := WideAt.sameKey_self (by first | trivial | simp [WideAt.IsKeyLit])
    simp [hi, this]
  · have : (Lit.int IntKind.u64 (j : Int)).sameKey (.int .u64 i) = false := by
      cases hs : (Lit.int IntKind.u64 (j : Int)).sameKey (.int .u64 i)
      · rfl
      · exact absurd (WideAt.sameKey_eq hs) (u64_ne e)
    simp [e, this]
end Go.Proofs.Ytjelfiljebamgaa
namespace Go.Proofs.Ytjelfiljebamgaa
open Go.RowKit Go.Shelf Go.Maps
set_option linter.unusedVariables false
set_option linter.unusedSimpArgs false
attribute [local go_sem] Oper.semAt_some

/-- The step of a range over a box's map. -/
theorem wpList_next_box (w : World) {ops : Array Oper} {rest : List Oper} {o : Oper} {a : Act} {Q : Exit → Act → World → Prop} (hg : o.guard = none) (it : Operand) (hop : o.op = Op.next it false) (B rr n m : Nat) (D : DataW Unit) (f : Nat → Option Nat) (left : Lit → Bool) (cnt : Nat) (hok : MapOk D f m)
    (hit : a.eval it = .pointer (some ⟨rr, 0, none⟩)) (h : w.ranges Try.prog 22 ptrElem B rr n D left cnt)
    (hDone : cnt = 0 → (∀ kl, left kl = false) → wpList Try.prog ops Q rest (a.put o.dst (.tuple #[.bool false])) w)
    (hMore : ∀ (i p : Nat) (w' : World) (cnt' : Nat), f i = some p → left (.int .u64 i) = true → i < 18446744073709551616 → w'.ranges Try.prog 22 ptrElem B rr n D (fun z => left z && !z.sameKey (.int .u64 i)) cnt' → cnt' < cnt → w.grownBy w' (some rr) → w'.heap.size = w.heap.size →
      (Instr.entry (.pointer (some ⟨rr, 0, none⟩))).run Try.prog w' = .ok (.tuple #[.int .u64 i, wp p]) w' → wpList Try.prog ops Q rest (a.put o.dst (.tuple #[.bool true, .int .u64 i, wp p])) w') :
    wpList Try.prog ops Q (o :: rest) a w := by
  refine wpList_plain hg fun K' hK' => ?_
  unfold Oper.wp
  rcases h.next lawM o.type with ⟨h0, hl, hrun⟩ | ⟨key, v, kl, y, w', cnt', hkey, hlk, hv, hat, hrun, hrg, hlt, hgr, hsz, hen⟩
  · simp [execOp, hop, hit, hrun, Result.andThen]
    exact hK' _ _ (hDone h0 hl)
  · obtain ⟨z, rfl, rfl, hwf⟩ := Maps.keyOf_int_inv Try.underlying22 hkey
    have hb : 0 ≤ z ∧ z ≤ 18446744073709551615 := by
      simp only [Lit.wf, Bool.and_eq_true, decide_eq_true_eq] at hwf
      exact hwf
    obtain ⟨i, rfl⟩ : ∃ i : Nat, z = i := ⟨z.toNat, by omega⟩
    obtain ⟨p, hfp, rfl⟩ := look_at hok hv hat (Maps.has_true_of_atKey hat)
    simp [execOp, hop, hit, hrun, Result.andThen]
    exact hK' _ _ (hMore i p w' cnt' hfp hlk (by omega) hrg hlt hgr hsz hen)
def byM (M : Bx) (i : Nat) : Nat := ((M i).map (·.by')).getD 0
def sumM (M : Bx) (ks : List Nat) : Nat := (ks.map (byM M)).sum
theorem sumM_snoc (M : Bx) (ks : List Nat) (i : Nat) : sumM M (ks ++ [i]) = sumM M ks + byM M i := by simp [sumM]
theorem sumM_le {M : Bx} (h : ∀ i, byM M i ≤ 131072) : ∀ ks : List Nat, sumM M ks ≤ 131072 * ks.length
  | [] => Nat.le_refl _
  | i :: ks => by
    have h1 := sumM_le h ks
    have h2 := h i
    simp only [sumM, List.map_cons, List.sum_cons, List.length_cons] at h1 ⊢
    omega
set_option maxRecDepth 100000 in
theorem held_any (x : Nat) (r : Int) (M : Bx) (S T : Nat → Prop) (W : World) (h : BoxB W x r M S T) :
    Calls Try.prog 26 #[wp x] W fun e w' => ∃ ks : List Nat, ks.Nodup ∧ (∀ i, i ∈ ks ↔ (M i).isSome = true) ∧ e = .returned (.int .i64 (sumM M ks : Nat)) ∧ Later W w' := by
  obtain ⟨B, D, f, G, n, h⟩ := h
  obtain ⟨x0, x1⟩ := h.cells
  have hr := h.room.1
  have hmap := Lib.hid h.map
  have hok := Lib.hid h.ok
  have hn : n ≤ 64 := by have := h.full; have := h.room.2; omega
  have hfM : Hid (∀ i, (f i).isSome = true ↔ (M i).isSome = true) := Lib.hid (fun i => by
    cases hf : f i with
    | none => rw [h.none' i hf]; simp
    | some p => obtain ⟨m, hm, _⟩ := h.some' i p hf; rw [hm]; simp)
  have hby : Hid (∀ i p, f i = some p → ∃ q, W.cell? ⟨p, 2, none⟩ = some (.int .i64 (q : Nat)) ∧ byM M i = q) := Lib.hid (fun i p hf => by
    obtain ⟨m, hm, ⟨cap, vs, h1, -, -⟩, -⟩ := h.some' i p hf
    exact ⟨m.by', cell_of_row _ _ 2 _ _ _ h1, by unfold byM; rw [hm]; rfl⟩)
  have hle : Hid (∀ ks : List Nat, ks.length ≤ 64 → sumM M ks ≤ 8388608) := Lib.hid (fun ks hk => by
    refine Nat.le_trans (sumM_le (fun i => ?_) ks) (by omega)
    unfold byM
    cases hf : f i with
    | none => rw [h.none' i hf]; exact Nat.zero_le _
    | some p => obtain ⟨m, hm, hMB⟩ := h.some' i p hf; rw [hm]; exact hMB.byl)
  have hsz0 : Maps.size D = n := h.ok.size'
  clear h
  go_enter Try.func26, Try.ntmps26
  go_wp2_with fail
  refine (none_no x r W x0 hr).mono ?_
  rintro e w0 ⟨rfl, hw0⟩
  obtain rfl : W = w0 := hw0.symm
  go_wp2_with (at_range; refine wpList_range_own _ rfl _ 76 rfl 22 125 lawM Try.underlying76 _ B n D rfl hmap.out ?_; intro w1 hrg1 hg1 hs1)
  go_frame
  obtain ⟨rr, hrr⟩ : ∃ q, Hid (W.heap.size = q) := ⟨_, Lib.hid rfl⟩
  rw [hrr.out] at hrg1 ⊢
  have hl1 : Hid (Later W w1) := Lib.hid ⟨hg1.os, hg1.tape, hg1.output, hg1.size, fun k hk => hg1.block k hk (by simp)⟩
  replace hrg1 := Lib.hid hrg1
  clear hg1 hs1
  go_loopg [3] (n + 1) (fun gg s wr => ∃ (left : Lit → Bool) (cnt q : Nat) (ks : List Nat), gg = cnt + 1 ∧ s = .int .i64 (q : Nat) ∧ Hid (wr.ranges Try.prog 22 ptrElem B rr n D left cnt) ∧ Hid (MetOk f left ks) ∧ Hid (sumM M ks = q) ∧ ks.length + cnt ≤ n ∧ Hid (Later W wr))
  case atStart => exact ⟨_, _, 0, [], by rw [hsz0], rfl, hrg1, Lib.hid (MetOk.start hok.out), Lib.hid rfl, by rw [hsz0]; simp, hl1⟩
  case round =>
    obtain ⟨left, cnt, q, ks, rfl, rfl, hrg, hmet, hq, hlen, hlw⟩ := hrel
    go_wp2_with (at_next; refine wpList_next_box _ rfl _ rfl B rr n n D f left cnt hok.out rfl hrg.out ?_ ?_)
    · intro hc0 hl0
      go_wp2_with fail
      go_ret
      refine ⟨ks, hmet.out.nd, fun i => ?_, by rw [hq.out]; rfl, hlw.out⟩
      rw [hmet.out.mem, ← hfM.out i]
      exact ⟨fun h => h.1, fun h => ⟨h, hl0 _⟩⟩
    · intro i p w2 cnt2 hfi hlk hi64 hrg2 hlt hg2 hs2 hen
      obtain ⟨z, hz, hbz⟩ := hby.out i p hfi
      have hl2 : Later W w2 := by
        refine ⟨hg2.os.trans hlw.out.os, hg2.tape.trans hlw.out.tape, hg2.output.trans hlw.out.output, Nat.le_trans hlw.out.size hg2.size, fun k hk => (hg2.block k (Nat.lt_of_lt_of_le hk hlw.out.size) (fun e => ?_)).trans (hlw.out.block k hk)⟩
        have e2 := Option.some.inj e
        have := hrr.out
        omega
      have c2 := hl2.cell hz
      have hb1 := hle.out ks (by omega)
      have hb2 := hle.out (ks ++ [i]) (by rw [List.length_append, List.length_singleton]; omega)
      rw [sumM_snoc, hbz, hq.out] at hb2
      rw [hq.out] at hb1
      have hsn := Lib.hid (sumM_snoc M ks i)
      replace hl2 := Lib.hid hl2
      replace hrg2 := Lib.hid hrg2
      have hmet2 := Lib.hid (hmet.out.step (i := i) (by rw [hfi]; rfl) hlk)
      replace hbz := Lib.hid hbz
      clear hz hs2 hg2 hi64 hlk hfi
      go_wp2_with fail
      go_roundg (cnt2 + 1)
      case measure => omega
      case rel => exact ⟨_, cnt2, q + z, ks ++ [i], rfl, by go_num, hrg2, hmet2, Lib.hid (by rw [hsn.out, hbz.out, hq.out]), by rw [List.length_append, List.length_singleton]; omega, hl2⟩
end Go.Proofs.Ytjelfiljebamgaa
namespace Go.Proofs.Ytjelfiljebamgaa
open Go.RowKit Go.Shelf Go.Maps
set_option linter.unusedVariables false
set_option linter.unusedSimpArgs false
attribute [local go_sem] Oper.semAt_some

theorem ins_nil (p : Option Addr) (cap : Nat) (w : World) :
    Calls Try.prog 101 #[.slice p 0 cap, .int .i64 0, .int .i64 0] w fun e w' => e = .returned (.tuple #[]) ∧ w' = w := by
  go_enter Try.func101, Try.ntmps101
  go_wp2
  refine wp_loop_rounds 1 ?_
  rw [rounds_succ]
  go_wp2
  go_end0
  exact ⟨rfl, rfl⟩
set_option maxRecDepth 100000 in
theorem pdq_nil (p : Option Addr) (cap : Nat) (t : Int) (w : World) :
    Calls Try.prog 90 #[.slice p 0 cap, .int .i64 0, .int .i64 0, .int .i64 t] w fun e w' => e = .returned (.tuple #[]) ∧ w' = w := by
  go_enter Try.func90, Try.ntmps90
  go_wp2
  refine wp_loop_rounds 1 ?_
  rw [rounds_succ]
  go_wp2_with (first | (go_at_call 101; refine (ins_nil p cap _).mono ?_; rintro e w' ⟨rfl, rfl⟩))
  refine bodyPost_ret (results_none rfl _ _ _) rfl ?_
  exact ⟨rfl, rfl⟩
theorem len_zero (w : World) : Calls Try.prog 91 #[.int .u64 0] w fun e w' => ∃ t : Int, e = .returned (.int .i64 t) ∧ w' = w := by
  have h := len64_any 0 w (by decide)
  go_enter Try.func91, Try.ntmps91
  go_wp2_with fail
  refine h.mono ?_
  rintro e w2 ⟨t, rfl, -, -, rfl⟩
  go_wp2_with fail
  go_ret
  exact ⟨t, rfl, rfl⟩
set_option maxRecDepth 100000 in
theorem sort_nil (p : Option Addr) (cap : Nat) (w : World) :
    Calls Try.prog 63 #[.slice p 0 cap] w fun e w' => e = .returned (.tuple #[]) ∧ w' = w := by
  go_enter Try.func63, Try.ntmps63
  go_wp2_with fail
  refine (len_zero _).mono ?_
  rintro e w2 ⟨t, rfl, rfl⟩
  go_wp2_with fail
  refine (pdq_nil p cap t _).mono ?_
  rintro e w3 ⟨rfl, rfl⟩
  go_wp2_with fail
  go_end0
  exact ⟨rfl, rfl⟩
set_option maxRecDepth 100000 in
theorem open_empty (x : Nat) (r : Int) (M : Bx) (S T : Nat → Prop) (W : World) (h : BoxB W x r M S T) (hM : ∀ i, M i = none) :
    Calls Try.prog 23 #[wp x] W fun e w' => e = .returned (.slice none 0 0) ∧ Later W w' := by
  obtain ⟨B, D, f, G, n, h⟩ := h
  obtain ⟨x0, x1⟩ := h.cells
  have hr := h.room.1
  have hmap := Lib.hid h.map
  have hok := Lib.hid h.ok
  have hf : Hid (∀ i p, f i = some p → False) := Lib.hid (fun i p hf => by
    obtain ⟨m, hm, _⟩ := h.some' i p hf
    rw [hM i] at hm; cases hm)
  clear h hM
  go_enter Try.func23, Try.ntmps23
  go_wp2_with fail
  refine (none_no x r W x0 hr).mono ?_
  rintro e w0 ⟨rfl, hw0⟩
  obtain rfl : W = w0 := hw0.symm
  go_wp2_with (at_range; refine wpList_range_own _ rfl _ 76 rfl 22 125 lawM Try.underlying76 _ B n D rfl hmap.out ?_; intro w1 hrg1 hg1 hs1)
  go_frame
  have hl1 : Hid (Later W w1) := Lib.hid ⟨hg1.os, hg1.tape, hg1.output, hg1.size, fun k hk => hg1.block k hk (by simp)⟩
  replace hrg1 := Lib.hid hrg1
  clear hg1 hs1
  refine wp_loop_rounds 1 ?_
  rw [rounds_succ]
  go_wp2_with (at_next; refine wpList_next_box _ rfl _ rfl B _ n n D f _ _ hok.out rfl hrg1.out ?_ ?_)
  · intro hc0 hl0
    go_wp2_with fail
    refine (sort_nil none 0 _).mono ?_
    rintro e w2 ⟨rfl, rfl⟩
    go_wp2_with fail
    go_ret
    exact ⟨rfl, hl1.out⟩
  · intro i p w2 cnt2 hfi
    exfalso
    exact hf.out i p hfi
/-! Calls on none. -/
set_option maxRecDepth 100000 in
theorem put_none (u : Value) (w : World) : Calls Try.prog 32 #[.pointer none, u] w fun e w' => e = .returned (.tuple #[.slice none 0 0, .bool false, .int .i64 1]) ∧ w' = w := by
  go_enter Try.func32, Try.ntmps32
  go_wp2_with fail
  refine (none_nil w).mono ?_
  rintro e w0 ⟨rfl, hw0⟩
  obtain rfl : w = w0 := hw0.symm
  go_wp2_with fail
  go_ret3
  exact ⟨rfl, rfl⟩
theorem open_none (w : World) : Calls Try.prog 23 #[.pointer none] w fun e w' => e = .returned (.slice none 0 0) ∧ w' = w := by
  go_enter Try.func23, Try.ntmps23
  go_wp2_with fail
  refine (none_nil w).mono ?_
  rintro e w0 ⟨rfl, hw0⟩
  obtain rfl : w = w0 := hw0.symm
  go_wp2_with fail
  go_ret
  exact ⟨rfl, rfl⟩
theorem held_none (w : World) : Calls Try.prog 26 #[.pointer none] w fun e w' => e = .returned (.int .i64 0) ∧ w' = w := by
  go_enter Try.func26, Try.ntmps26
  go_wp2_with fail
  refine (none_nil w).mono ?_
  rintro e w0 ⟨rfl, hw0⟩
  obtain rfl : w = w0 := hw0.symm
  go_wp2_with fail
  go_ret
  exact ⟨rfl, rfl⟩
theorem drop_zero (x : Nat) (i : Int) (w : World) (h : w.cell? ⟨x, 0, none⟩ = some (.int .i64 0)) : Calls Try.prog 31 #[wp x, .int .u64 i] w fun e w' => e = .returned (.int .i64 1) ∧ w' = w := by
  go_enter Try.func31, Try.ntmps31
  go_wp2_with fail
  refine (none_zero x w h).mono ?_
  rintro e w0 ⟨rfl, hw0⟩
  obtain rfl : w = w0 := hw0.symm
  go_wp2_with fail
  go_ret
  exact ⟨rfl, rfl⟩
theorem missing_zero (x : Nat) (i : Int) (w : World) (h : w.cell? ⟨x, 0, none⟩ = some (.int .i64 0)) : Calls Try.prog 28 #[wp x, .int .u64 i] w fun e w' => e = .returned (.slice none 0 0) ∧ w' = w := by
  go_enter Try.func28, Try.ntmps28
  go_wp2_with fail
  go_step3
  go_wp2_with fail
  refine (none_zero x w h).mono ?_
  rintro e w0 ⟨rfl, hw0⟩
  obtain rfl : w = w0 := hw0.symm
  go_wp2_with fail
  rw [Exit.noGoto_ret]
  go_ret
  exact ⟨rfl, rfl⟩
theorem copy_zero (x : Nat) (w : World) (h : w.cell? ⟨x, 0, none⟩ = some (.int .i64 0)) : Calls Try.prog 34 #[wp x] w fun e w' => e = .returned (.pointer none) ∧ w' = w := by
  go_enter Try.func34, Try.ntmps34
  go_wp2_with fail
  refine (none_zero x w h).mono ?_
  rintro e w0 ⟨rfl, hw0⟩
  obtain rfl : w = w0 := hw0.symm
  go_wp2_with fail
  go_ret
  exact ⟨rfl, rfl⟩
end Go.Proofs.Ytjelfiljebamgaa
namespace Go.Proofs.Ytjelfiljebamgaa
open Go.RowKit Go.Shelf Go.Maps
set_option linter.unusedVariables false
set_option linter.unusedSimpArgs false

/-- A box; Q's blocks are none of those that it writes. -/
def BxSt (w : World) (Q : Nat → Prop) (x : Nat) (r : Int) (M : Bx) : Prop := ∃ S T, BoxB w x r M S T ∧ ∀ k, Q k → ¬ S k ∧ k < w.heap.size ∧ ¬ T k
abbrev Hold (Q : Nat → Prop) (w w' : World) : Prop := Keep (fun k => ¬ Q k) w w'
theorem Hold.at_ {Q : Nat → Prop} {w w' : World} (h : Hold Q w w') {k : Nat} {o : Obj} (hk : w.heap[k]? = some o) (hq : Q k) : w'.heap[k]? = some o := Keep.at_ h hk (fun hn => hn hq)
theorem Hold.bytV {Q : Nat → Prop} {w w' : World} (h : Hold Q w w') {v : Value} {L : List Int} (hv : BytV w v L) (hi : In v Q) : BytV w' v L := Keep.bytV h hv (hi.mono (fun g hg hn => hn hg))
theorem Hold.below {Q : Nat → Prop} {w w' X : World} (h : Hold Q w w') (hl : Later X w) (hq : ∀ k, k < X.heap.size → Q k) : Later X w' :=
  h.later hl (fun k hk => Nat.not_lt.1 (fun hlt => hk (hq k hlt)))
theorem Hold.row {Q : Nat → Prop} {w w' : World} (h : Hold Q w w') {base e k : Nat} {v : Value} {xs : List Value} (hr : w.ownsRow base e 1 v k xs) (hq : ∀ g, v.ownBlock = some g → Q g) : w'.ownsRow base e 1 v k xs := by
  refine row_at hr (fun g hg => ?_)
  rcases hr.2 with ⟨rfl, _⟩ | ⟨g', c', cur, rfl, _, hb, _⟩
  · cases hg
  · obtain rfl : g' = g := by simpa [Value.ownBlock] using hg
    exact (h.at_ hb (hq _ hg)).trans hb.symm
theorem Hold.mono {Q Q' : Nat → Prop} {w w' : World} (h : Hold Q w w') (hq : ∀ k, Q' k → Q k) : Hold Q' w w' := Keep.mono h (fun k _ hn hk => hn (hq k hk))
theorem BxSt.later {w w' : World} {Q : Nat → Prop} {x : Nat} {r : Int} {M : Bx} (h : BxSt w Q x r M) (hl : Later w w') : BxSt w' (fun k => Q k ∨ (w.heap.size ≤ k ∧ k < w'.heap.size)) x r M := by
  obtain ⟨S, T, hb, hq⟩ := h
  refine ⟨S, T, hb.later hl, fun k hk => ?_⟩
  rcases hk with hk | ⟨h1, h2⟩
  · exact ⟨(hq k hk).1, Nat.lt_of_lt_of_le (hq k hk).2.1 hl.size, (hq k hk).2.2⟩
  · exact ⟨fun hs => by have := hb.lt (.inl hs); omega, h2, fun hs => by have := hb.lt (.inr hs); omega⟩
theorem BxSt.mono {w : World} {Q Q' : Nat → Prop} {x : Nat} {r : Int} {M : Bx} (h : BxSt w Q x r M) (hq : ∀ k, Q' k → Q k) : BxSt w Q' x r M := by
  obtain ⟨S, T, hb, h2⟩ := h
  exact ⟨S, T, hb, fun k hk => h2 k (hq k hk)⟩
theorem BxSt.cnt {w : World} {Q : Nat → Prop} {x : Nat} {r : Int} {M : Bx} (h : BxSt w Q x r M) : ∃ n, Cnt M n ∧ (n : Int) ≤ r := by
  obtain ⟨S, T, ⟨B, D, f, G, n, hb⟩, _⟩ := h
  exact ⟨n, hb.count, hb.full⟩
/-- Blocks are written, none of the box's. -/
theorem BxSt.other {w w' : World} {Q : Nat → Prop} {x : Nat} {r : Int} {M : Bx} {A : Nat → Prop} (h : BxSt w Q x r M) (hk : Keep A w w') (hA : ∀ k, k < w.heap.size → A k → Q k) : BxSt w' Q x r M := by
  obtain ⟨S, T, hb, hq⟩ := h
  exact ⟨S, T, hb.keep hk (fun k hs hAk => by
    have h1 := hq k (hA k (hb.lt hs) hAk)
    exact hs.elim h1.1 h1.2.2), fun k hq' => ⟨(hq k hq').1, Nat.lt_of_lt_of_le (hq k hq').2.1 hk.size, (hq k hq').2.2⟩⟩
theorem new_st (r : Int) (W : World) (hr : 1 ≤ r ∧ r ≤ 64) :
    Calls Try.prog 20 #[.int .i64 r] W fun e w' => ∃ x, e = .returned (.tuple #[wp x, .int .i64 0]) ∧ BxSt w' (fun k => k < W.heap.size) x r (fun _ => none) ∧ Later W w' :=
  (new_yes r W hr).mono (fun e w' ⟨x, S, he, hb, hs, hl⟩ => ⟨x, he, ⟨S, _, hb, fun k hk => ⟨fun h => by have := hs k h; omega, Nat.lt_of_lt_of_le hk hl.size, fun h => h⟩⟩, hl⟩)
theorem put_st {w : World} {Q : Nat → Prop} {x : Nat} {r : Int} {M M' : Bx} {u : Value} {b out : List Int} {is : Bool} {er : Int} {n : Nat} {pc : Pc} (h : BxSt w Q x r M) (hu : BytV w u b) (hb : b.length ≤ 1000000) (hok : RdOk b) (hpc : pcOf b = pc) (hn : Cnt M n) (hv : pput M n r pc = (out, is, er, M')) :
    Calls Try.prog 32 #[wp x, u] w fun e w' => ∃ v, e = .returned (.tuple #[v, .bool is, .int .i64 er]) ∧ BxSt w' (fun k => Q k ∨ v.ownBlock = some k) x r M' ∧ Hold Q w w' ∧ w'.ownsRow w.heap.size 5 1 v out.length (encB out) := by
  obtain ⟨S, T, hbx, hq⟩ := h
  refine (put_any u b x r M S T w hbx hu hb).mono ?_
  rintro e w' ⟨h1, -⟩
  obtain ⟨n', hn', v, is', er', out', M2, rfl, hp, hL⟩ := h1 hok
  rw [hn'.unique hn, hpc, hv] at hp
  obtain ⟨rfl, rfl, rfl, rfl⟩ : out = out' ∧ is = is' ∧ er = er' ∧ M' = M2 := by
    have e1 := congrArg Prod.fst hp
    have e2 := congrArg (fun z => z.2.1) hp
    have e3 := congrArg (fun z => z.2.2.1) hp
    have e4 := congrArg (fun z => z.2.2.2) hp
    exact ⟨e1, e2, e3, e4⟩
  obtain ⟨S', T', hb', hS', hT', hv'⟩ := hL.box
  refine ⟨v, rfl, ⟨S', T', hb', fun k hk => ?_⟩, hL.keep.mono (fun k hk hs hQ => (hq k hQ).1 hs), hL.row⟩
  rcases hk with hk | hk
  · refine ⟨fun hs => ?_, Nat.lt_of_lt_of_le (hq k hk).2.1 hL.keep.size, fun hs => ?_⟩
    · rcases hS' k hs with h2 | h2
      · exact (hq k hk).1 h2
      · have := (hq k hk).2.1; omega
    · rcases hT' k hs with h2 | h2
      · exact (hq k hk).2.2 h2
      · have := (hq k hk).2.1; omega
  · refine ⟨(hv' k hk).1, ?_, (hv' k hk).2⟩
    rcases hL.row.2 with ⟨rfl, _⟩ | ⟨g', c', cur, rfl, _, hg, _⟩
    · cases hk
    · obtain rfl : g' = k := by simpa [Value.ownBlock] using hk
      exact (Array.getElem?_eq_some_iff.1 hg).1
theorem missing_st {w : World} {Q : Nat → Prop} {x : Nat} {r : Int} {M : Bx} (i : Nat) (hi : i < 18446744073709551616) (h : BxSt w Q x r M) :
    Calls Try.prog 28 #[wp x, .int .u64 i] w fun e w' => ∃ v, e = .returned v ∧ w'.ownsRow w.heap.size 3 1 v (missB M i).length (encN (missB M i)) ∧ Later w w' := by
  obtain ⟨S, T, hbx, hq⟩ := h
  exact missing_any i x r M S T w hbx hi
theorem held_st {w : World} {Q : Nat → Prop} {x : Nat} {r : Int} {M : Bx} (h : BxSt w Q x r M) {ks : List Nat} (hn : ks.Nodup) (hk : ∀ i, i ∈ ks ↔ (M i).isSome = true) :
    Calls Try.prog 26 #[wp x] w fun e w' => e = .returned (.int .i64 (sumM M ks : Nat)) ∧ Later w w' := by
  obtain ⟨S, T, hbx, hq⟩ := h
  refine (held_any x r M S T w hbx).mono ?_
  rintro e w' ⟨ls, h1, h2, rfl, hl⟩
  have : sumM M ls = sumM M ks := by
    unfold sumM
    exact (((List.perm_ext_iff_of_nodup h1 hn).2 (fun i => by rw [h2, hk])).map (byM M)).sum_nat
  exact ⟨by rw [this], hl⟩
theorem open_st {w : World} {Q : Nat → Prop} {x : Nat} {r : Int} {M : Bx} (h : BxSt w Q x r M) (hM : ∀ i, M i = none) :
    Calls Try.prog 23 #[wp x] w fun e w' => e = .returned (.slice none 0 0) ∧ Later w w' := by
  obtain ⟨S, T, hbx, hq⟩ := h
  exact open_empty x r M S T w hbx hM
/-- A piece's bytes are read as it. -/
theorem pc_of_wr {id at_ of : Int} {D : List Int} (h : May id at_ of D.length) (hid : 0 ≤ id) : RdOk (wrL id at_ of D) ∧ pcOf (wrL id at_ of D) = ⟨id.toNat, at_.toNat, of.toNat, D⟩ := by
  obtain ⟨h1, h2, h3, h4, h5⟩ := read_write h hid
  refine ⟨h1, ?_⟩
  unfold pcOf
  obtain ⟨m1, m2, m3, m4, m5, m6⟩ := h
  have e1 : (rd1 (wrL id at_ of D)).1 = id.toNat := by omega
  have e2 : (rd3 (wrL id at_ of D)).1 = at_.toNat := by omega
  have e3 : (rd2 (wrL id at_ of D)).1 + 1 = of.toNat := by omega
  rw [e1, e2, e3, h5]
end Go.Proofs.Ytjelfiljebamgaa
