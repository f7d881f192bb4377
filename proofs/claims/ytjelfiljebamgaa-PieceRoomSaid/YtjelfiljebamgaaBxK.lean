/-
  Chapter 21: Missing, Held, Open of a box in which nothing is; calls on none.
-/
import Derived.Maps.RangeWalk
import Derived.Test.YtjelfiljebamgaaBxJ
namespace Go.Proofs.Ytjelfiljebamgaa
open Go.RowKit Go.Shelf Go.Maps
set_option linter.unusedVariables false
set_option linter.unusedSimpArgs false
attribute [local go_sem] Oper.semAt_some

def encN (L : List Nat) : List Value := L.map fun k => Value.int .i64 (k : Nat)
theorem info_int : (Try.prog.info? 3).map (fun i => (i.zero, i.size, i.bytes)) = some (some (.int .i64 0), 1, 8) := by kernel_rfl
def missK (l : List (Option (List Int))) (i : Nat) : List Nat := (List.range i).filter fun k => (l.getD k none).isNone
theorem missK_some {l : List (Option (List Int))} {i : Nat} (h : (l.getD i none).isSome = true) : missK l (i + 1) = missK l i := by
  unfold missK
  rw [List.range_succ, List.filter_append, List.filter_cons_of_neg (by cases hc : l.getD i none <;> rw [hc] at h <;> simp at h ⊢)]
  simp
theorem missK_none {l : List (Option (List Int))} {i : Nat} (h : (l.getD i none).isSome = false) : missK l (i + 1) = missK l i ++ [i] := by
  unfold missK
  rw [List.range_succ, List.filter_append, List.filter_cons_of_pos (by cases hc : l.getD i none <;> rw [hc] at h <;> simp at h ⊢)]
  simp
theorem missK_le (l : List (Option (List Int))) (i : Nat) : (missK l i).length ≤ i := by
  unfold missK
  refine Nat.le_trans (List.length_filter_le _ _) ?_
  simp
theorem pmiss_K (m : Msg) : missK m.l m.l.length = pmiss m := rfl
/-- The missing places of a message, or of none. -/
def missB (M : Bx) (i : Nat) : List Nat := match M i with | some m => pmiss m | none => []
set_option maxRecDepth 100000 in
theorem missing_any (i : Nat) (x : Nat) (r : Int) (M : Bx) (S T : Nat → Prop) (W : World) (h : BoxB W x r M S T) (hi : i < 18446744073709551616) :
    Calls Try.prog 28 #[wp x, .int .u64 i] W fun e w' => ∃ v, e = .returned v ∧ w'.ownsRow W.heap.size 3 1 v (missB M i).length (encN (missB M i)) ∧ Later W w' := by
  obtain ⟨B, D, f, G, n, h⟩ := h
  obtain ⟨x0, x1⟩ := h.cells
  have hr := h.room.1
  have hlk := MapOk.look (P := Try.prog) (w := W) h.ok h.map lawM Try.underlying76 (zeroM _) (keyM hi)
  obtain ⟨I, hI⟩ : ∃ I : Int, Hid ((i : Int) = I) := ⟨_, Lib.hid rfl⟩
  clear hi
  cases hf : f i with
  | none =>
    have e : ptrF f i = .pointer none := by unfold ptrF; rw [hf]
    rw [e, hI.out] at hlk
    have hM : missB M i = [] := by unfold missB; rw [h.none' i hf]
    rw [hI.out, hM]
    clear h hf hM
    go_enter Try.func28, Try.ntmps28
    go_wp2_with fail
    go_step3
    go_wp2_with fail
    refine (none_no x r W x0 hr).mono ?_
    rintro e w0 ⟨rfl, hw0⟩
    obtain rfl : W = w0 := hw0.symm
    go_wp2_with fail
    rw [Exit.noGoto_ret]
    go_ret
    exact ⟨_, rfl, World.ownsRow_nil _ _ _ _, Later.refl _⟩
  | some p =>
    have e : ptrF f i = wp p := by unfold ptrF; rw [hf]
    obtain ⟨m, hMi, hMB⟩ := h.some' i p hf
    obtain ⟨⟨cap, vs, hm, hrw, hp⟩, sp, sg, q1, q2, q3, q4⟩ := hMB
    have hM : missB M i = missK m.l m.l.length := by unfold missB; rw [hMi]; rfl
    rw [e, hI.out] at hlk
    rw [hI.out, hM]
    obtain ⟨n0, hn0⟩ : ∃ k, Hid (m.l.length = k) := ⟨_, Lib.hid rfl⟩
    rw [hn0.out] at hm hrw q1 ⊢
    have c0 : W.cell? ⟨p, 0, none⟩ = some (.slice (some ⟨G i, 0, none⟩) n0 cap) := cell_of_row _ _ 0 _ _ _ hm
    obtain ⟨g, hg⟩ : ∃ g, Hid (G i = g) := ⟨_, Lib.hid rfl⟩
    rw [hg.out] at c0 hrw
    replace hrw := Lib.hid hrw
    have hp2 : Hid (∀ k, k < n0 → ∃ v, vs[k]? = some v ∧ PlV W T v (m.l.getD k none)) := Lib.hid (by rw [← hn0.out]; exact hp.2)
    obtain ⟨l, hl⟩ : ∃ l, Hid (m.l = l) := ⟨_, Lib.hid rfl⟩
    rw [hl.out] at hp2 ⊢
    clear h hf hM hm hMi hp q4
    go_enter Try.func28, Try.ntmps28
    go_wp2_with fail
    go_step3
    go_wp2_with fail
    refine (none_no x r W x0 hr).mono ?_
    rintro e w0 ⟨rfl, hw0⟩
    obtain rfl : W = w0 := hw0.symm
    obtain ⟨i0, hi0, hz0, hz1, hz2⟩ := info_parts info_int
    go_wp2_with fail
    go_step3
    go_wp2_with fail
    go_loopg [5, 29] (n0 + 1) (fun gg v y wr => ∃ (k : Nat), gg = n0 + 1 - k ∧ k ≤ n0 ∧ y = .int .i64 k ∧ Hid (wr.ownsRow W.heap.size 3 1 v (missK l k).length (encN (missK l k))) ∧ Hid (Later W wr))
    case atStart => exact ⟨0, by omega, Nat.zero_le _, rfl, Lib.hid (World.ownsRow_nil _ _ _ _), Lib.hid (Later.refl _)⟩
    case round =>
      obtain ⟨k, rfl, hkn, rfl, hrow, hlw⟩ := hrel
      by_cases hk : k < n0
      · have hii : (k : Int) < (n0 : Int) := by omega
        obtain ⟨v, h1, h2⟩ := hp2.out k hk
        have hcell : wr.cell? ⟨g, k, none⟩ = some v := hlw.out.cell (by rw [← h1]; exact hrw.out.cellAt k (by omega))
        have hne := fun Q => h2.neq Q
        obtain ⟨ao, mm, c, rfl⟩ := h2.form
        obtain ⟨b, hb⟩ : ∃ b, Hid ((l.getD k none).isSome = b) := ⟨_, Lib.hid rfl⟩
        rw [hb.out] at hne
        clear h1 h2
        cases b with
        | true =>
          go_wp2_with fail
          go_roundg (n0 - k)
          case measure => omega
          case rel => exact ⟨k + 1, by omega, by omega, by go_num, by rw [missK_some hb.out]; exact hrow, hlw⟩
        | false =>
          have hml := missK_le l k
          obtain ⟨ov, oc, rfl⟩ := own_form hrow.out
          have hsz := hlw.out.size
          have hmL : (missK l k).length + 1 ≤ maxLen := Nat.le_trans (by omega : _ ≤ 5000) (by decide)
          have q1' := hrow.out.alloc (.cells #[.int .i64 k] 3)
          go_wp2_with (at_builtin; refine wpList_append_lies _ rfl _ _ 60 rfl W.heap.size 3 i0 (.int .i64 0) 1 8 Try.underlying60 hi0 hz0 hz1 hz2 rfl (by decide) _ _ _ rfl q1' ⟨wr.heap.size, 0, none⟩ 1 1 [.int .i64 k] rfl rfl (World.news_of_block (heap_alloc_new _ _)) (fun u hu => by rw [List.mem_singleton] at hu; rw [hu]; rfl) (by omega) hmL (by omega) (by simp; omega) _ rfl ?_; intro ga ca w3 hr3 hg3 _ _)
          go_roundg (n0 - k)
          case measure => omega
          case rel =>
            refine ⟨k + 1, by omega, by omega, by go_num, ?_, ?_⟩
            · rw [missK_none hb.out, List.length_append]
              refine Lib.hid ?_
              have e : encN (missK l k ++ [k]) = encN (missK l k) ++ [.int .i64 k] := by unfold encN; rw [List.map_append]; rfl
              rw [e]
              exact hr3
            · exact Lib.hid (later_own (hlw.out.alloc _) q1' (Nat.le_refl _) hg3)
      · obtain rfl : n0 = k := by omega
        have hii : ¬ (n0 : Int) < (n0 : Int) := by omega
        go_wp2_with fail
        (try rw [Exit.noGoto_ret])
        go_ret
        exact ⟨_, rfl, hrow.out, hlw.out⟩
/-! How many bytes are held. -/
def sumN (l : List Nat) : Nat := l.sum
theorem look_at {D : DataW Unit} {f : Nat → Option Nat} {n : Nat} (h : MapOk D f n) {i : Nat} {y : DataW Unit × List MemPlace} {v : Value} (hv : ptrElem v = some y) (hat : ∀ zd, D.atKey (.int .u64 i) zd = y.1) (hhas : Maps.has D (.int .u64 i) = true) : ∃ p, f i = some p ∧ v = wp p := by
  have h1 := h.has' i
  rw [hhas] at h1
  obtain ⟨p, hp⟩ := Option.isSome_iff_exists.1 h1.symm
  have h2 := h.at' i
  rw [hat, atF, hp] at h2
  rcases ptrElem_inv hv with ⟨rfl, rfl⟩ | ⟨b, rfl, rfl⟩
  · cases h2
  · refine ⟨p, hp, ?_⟩
    simp at h2
    have : b = p := by omega
    rw [this]
/-- What was met so far on a way through a map. -/
structure MetOk (f : Nat → Option Nat) (left : Lit → Bool) (ks : List Nat) : Prop where
  nd : ks.Nodup
  mem : ∀ i : Nat, i ∈ ks ↔ ((f i).isSome = true ∧ left (.int .u64 i) = false)
theorem MetOk.start {D : DataW Unit} {f : Nat → Option Nat} {n : Nat} (h : MapOk D f n) : MetOk f (Maps.has D) [] :=
  ⟨List.nodup_nil, fun i => by rw [h.has']; cases (f i).isSome <;> simp⟩
theorem MetOk.step {f : Nat → Option Nat} {left : Lit → Bool} {ks : List Nat} (h : MetOk f left ks) {i : Nat} (hi : (f i).isSome = true) (hl : left (.int .u64 i) = true) : MetOk f (fun z => left z && !z.sameKey (.int .u64 i)) (ks ++ [i]) := by
  have hni : i ∉ ks := fun hm => by have := ((h.mem i).1 hm).2; rw [hl] at this; cases this
  refine ⟨by rw [List.nodup_append]; exact ⟨h.nd, by simp, fun a ha b hb => by rw [List.mem_singleton] at hb; rw [hb]; exact fun e => hni (e ▸ ha)⟩, fun j => ?_⟩
  rw [List.mem_append, List.mem_singleton, h.mem]
  by_cases e : j = i
  · subst e
    have : (Lit.int IntKind.u64 (j : Int)).sameKey (.int .u64 j) = true := WideAt.sameKey_self (by first | trivial | simp [WideAt.IsKeyLit])
    simp [hi, this]
  · have : (Lit.int IntKind.u64 (j : Int)).sameKey (.int .u64 i) = false := by
      cases hs : (Lit.int IntKind.u64 (j : Int)).sameKey (.int .u64 i)
      · rfl
      · exact absurd (WideAt.sameKey_eq hs) (u64_ne e)
    simp [e, this]
end Go.Proofs.Ytjelfiljebamgaa
