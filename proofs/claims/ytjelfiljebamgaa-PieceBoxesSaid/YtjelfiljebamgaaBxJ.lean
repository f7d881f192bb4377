/-
  Chapter 21: Put of any bytes; New; Drop.
-/
import Derived.Test.YtjelfiljebamgaaBxI
namespace Go.Proofs.Ytjelfiljebamgaa
open Go.RowKit Go.Shelf Go.Maps
set_option linter.unusedVariables false
set_option linter.unusedSimpArgs false
attribute [local go_sem] Oper.semAt_some

theorem put_bad (u : Value) (b : List Int) (x : Nat) (r : Int) (W : World) (hx : W.cell? ⟨x, 0, none⟩ = some (.int .i64 r)) (hr : 1 ≤ r) (hu : BytV W u b) (hb : b.length ≤ 1000000) (hok : ¬ RdOk b) :
    Calls Try.prog 32 #[wp x, u] W fun e w' => e = .returned (.tuple #[.slice none 0 0, .bool false, .int .i64 210]) ∧ Later W w' := by
  have HR := Lib.hid (read_no u b W hu hb hok)
  clear hok hb hu
  go_enter Try.func32, Try.ntmps32
  go_wp2_with fail
  refine (none_no x r W hx hr).mono ?_
  rintro e w0 ⟨rfl, hw0⟩
  obtain rfl : W = w0 := hw0.symm
  go_wp2_with fail
  refine HR.out.mono ?_
  rintro e w1 ⟨rfl, hl1⟩
  go_wp2_with fail
  go_ret3
  exact ⟨rfl, hl1.alloc _⟩
/-- Put, of any bytes. -/
def PutAny (W : World) (x : Nat) (r : Int) (M : Bx) (S T : Nat → Prop) (b : List Int) (e : Ending) (w' : World) : Prop :=
  (RdOk b → ∃ n, Cnt M n ∧ PutPost W x r M n S T b e w') ∧ (¬ RdOk b → e = .returned (.tuple #[.slice none 0 0, .bool false, .int .i64 210]) ∧ Later W w')
theorem put_any (u : Value) (b : List Int) (x : Nat) (r : Int) (M : Bx) (S T : Nat → Prop) (W : World) (h : BoxB W x r M S T) (hu : BytV W u b) (hb : b.length ≤ 1000000) :
    Calls Try.prog 32 #[wp x, u] W (PutAny W x r M S T b) := by
  obtain ⟨B, D, f, G, n, h⟩ := h
  by_cases hok : RdOk b
  · cases hf : f (rd1 b).1 with
    | some p => exact (put_found u b x B n p r D f G M S T W h hu hb hok hf).mono (fun e w' hp => ⟨fun _ => ⟨n, h.count, hp⟩, fun hn => absurd hok hn⟩)
    | none => exact (put_fresh u b x B n r D f G M S T W h hu hb hok hf).mono (fun e w' hp => ⟨fun _ => ⟨n, h.count, hp⟩, fun hn => absurd hok hn⟩)
  · exact (put_bad u b x r W h.cells.1 h.room.1 hu hb hok).mono (fun e w' hp => ⟨fun hk => absurd hk hok, fun _ => hp⟩)
theorem new_no (r : Int) (W : World) (hr : ¬ (1 ≤ r ∧ r ≤ 64)) :
    Calls Try.prog 20 #[.int .i64 r] W fun e w' => e = .returned (.tuple #[.pointer none, .int .i64 210]) ∧ Later W w' := by
  go_enter Try.func20, Try.ntmps20
  go_wp2_with fail
  all_goals first
    | (exfalso; omega)
    | (go_ret2; first | exact ⟨rfl, Later.refl _⟩ | (exfalso; omega))
theorem new_yes (r : Int) (W : World) (hr : 1 ≤ r ∧ r ≤ 64) :
    Calls Try.prog 20 #[.int .i64 r] W fun e w' => ∃ x S, e = .returned (.tuple #[wp x, .int .i64 0]) ∧ BoxB w' x r (fun _ => none) S (fun _ => False) ∧ (∀ k, S k → W.heap.size ≤ k) ∧ Later W w' := by
  have hmm := @run_makeMap Try.prog
  have hown := World.ownsMap_made (H := Unit) W Try.prog 22 ptrElem
  have hl : Later W ((W.alloc (.map #[] 0)).alloc (.cells #[.int .i64 r, .map (some W.heap.size)] 78)) := ((Later.refl _).alloc _).alloc _
  have hbox : BoxB ((W.alloc (.map #[] 0)).alloc (.cells #[.int .i64 r, .map (some W.heap.size)] 78)) (W.heap.size + 1) r (fun _ => none) (fun k => k = W.heap.size ∨ k = W.heap.size + 1) (fun _ => False) := by
    refine ⟨W.heap.size, .map [], fun _ => none, fun _ => 0, 0, push_new _ _ (World.size_alloc _ _), hown.alloc _, MapOk.nil, fun _ _ => rfl, fun i p h => (by cases h), fun i j p h => (by cases h), fun i j h => (by cases h), .inr rfl, .inl rfl, fun k hk => ?_, fun k h => h.elim, hr, by omega⟩
    rw [World.size_alloc, World.size_alloc]
    rcases hk with (rfl | rfl) | h
    · omega
    · omega
    · exact h.elim
  replace hbox := Lib.hid hbox
  replace hl := Lib.hid hl
  clear hown
  obtain ⟨h1, h2⟩ := hr
  go_enter Try.func20, Try.ntmps20
  go_wp2_with fail
  all_goals
    go_ret2
    exact ⟨W.heap.size + 1, _, rfl, hbox.out, fun k hk => by rcases hk with rfl | rfl <;> omega, hl.out⟩
set_option maxRecDepth 100000 in
theorem drop_any (i : Nat) (x : Nat) (r : Int) (M : Bx) (S T : Nat → Prop) (W : World) (h : BoxB W x r M S T) (hi : i < 18446744073709551616) :
    Calls Try.prog 31 #[wp x, .int .u64 i] W fun e w' => (M i = none ∧ e = .returned (.int .i64 210) ∧ BoxB w' x r M S T ∧ Keep S W w') ∨ (∃ m, M i = some m ∧ e = .returned (.int .i64 0) ∧ BoxB w' x r (fun j => if j = i then none else M j) S T ∧ Keep S W w') := by
  obtain ⟨B, D, f, G, n, h⟩ := h
  obtain ⟨x0, x1⟩ := h.cells
  have hr := h.room.1
  have hlk := MapOk.look (P := Try.prog) (w := W) h.ok h.map lawM Try.underlying76 (zeroM _) (keyM hi)
  have hk := keyM hi
  obtain ⟨I, hI⟩ : ∃ I : Int, Hid ((i : Int) = I) := ⟨_, Lib.hid rfl⟩
  clear hi
  cases hf : f i with
  | none =>
    have e : ptrF f i = .pointer none := by unfold ptrF; rw [hf]
    rw [e, hI.out] at hlk
    rw [hI.out]
    have hM := h.none' i hf
    have hend := Lib.hid h
    clear h hk hf
    go_enter Try.func31, Try.ntmps31
    go_wp2_with fail
    refine (none_no x r W x0 hr).mono ?_
    rintro e w0 ⟨rfl, hw0⟩
    obtain rfl : W = w0 := hw0.symm
    go_wp2_with fail
    go_ret
    exact .inl ⟨hM, rfl, ⟨_, _, _, _, _, hend.out⟩, Keep.refl _ _⟩
  | some p =>
    have e : ptrF f i = wp p := by unfold ptrF; rw [hf]
    obtain ⟨m, hMi, hMB⟩ := h.some' i p hf
    obtain ⟨w4, hrun4, hown4, ht4⟩ := World.ownsMap.drop (w := W) (t := 76) h.map lawM Try.underlying76 hk 0
    have hg4 := ht4.grown
    obtain ⟨n2, D2, hG⟩ := h.gone i (w' := w4) (n' := n) (fun k hk h1 _ => hg4.block k (h.lt k hk) (fun e => h1 (Option.some.inj e))) hg4.size hown4
    have hK : Keep S W w4 := (Keep.refl S W).grown hg4 (fun q e => by cases e; exact .inl h.sb)
    have hend := Lib.hid hG
    replace hK := Lib.hid hK
    rw [e, hI.out] at hlk
    rw [hI.out] at hrun4 ⊢
    clear h hk hf hMB hown4 ht4 hg4 hG
    go_enter Try.func31, Try.ntmps31
    go_wp2_with fail
    refine (none_no x r W x0 hr).mono ?_
    rintro e w0 ⟨rfl, hw0⟩
    obtain rfl : W = w0 := hw0.symm
    go_wp2_with fail
    go_ret
    exact .inr ⟨m, hMi, rfl, ⟨_, _, _, _, _, hend.out⟩, hK.out⟩
end Go.Proofs.Ytjelfiljebamgaa
