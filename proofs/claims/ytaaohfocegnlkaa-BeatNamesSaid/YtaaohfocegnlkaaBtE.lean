/-
  Chapter 23: for how long a node was not heard.
-/
import Derived.Test.YtaaohfocegnlkaaBtC
namespace Go.Proofs.Ytaaohfocegnlkaa
open Go.RowKit Go.Shelf
set_option linter.unusedVariables false
set_option linter.unusedSimpArgs false
attribute [local go_sem] Oper.semAt_some

theorem cell_keep {A A' : World} {row : Option Nat} {B b j : Nat} {v : Value} (hs : A.cell? ⟨b, j, none⟩ = some v) (hg : A.grownBy A' row) (hr : ∀ r, row = some r → B ≤ r) (hb : b < B) : A'.cell? ⟨b, j, none⟩ = some v :=
  (World.cell?_of_block (a := ⟨b, j, none⟩) (hg.block b (cell_lt hs) (fun e => by have := hr b e.symm; omega))).trans hs
theorem ol_prefix (g : Nat → Int) {k : Nat} : ∀ {n : Nat}, k ≤ n → ∃ R, ol g n = ol g k ++ R
  | 0, h => ⟨[], by obtain rfl : k = 0 := by omega
                    simp⟩
  | n + 1, h => by
    rcases (show k = n + 1 ∨ k ≤ n by omega) with rfl | h
    · exact ⟨[], by simp⟩
    · obtain ⟨R, hR⟩ := ol_prefix g h
      exact ⟨R ++ (if (n : Int) = g 0 then [] else [((n : Int), qt g n)]), by rw [← List.append_assoc, ← hR]; rfl⟩
def qd (g : Nat → Int) (n : Int) : Option (Int × Int) := (ol g (g 1).toNat).find? (fun x => x.1 == n)
theorem qd_none {g : Nat → Int} {n : Int} {ys : List Nx} (h : ys.map (·.1) = ol g (g 1).toNat) (hn : ∀ x ∈ ys, x.1.1 ≠ n) : qd g n = none := by
  unfold qd
  rw [← h, List.find?_eq_none]
  intro x hx
  rw [List.mem_map] at hx
  obtain ⟨y, hy, rfl⟩ := hx
  simpa using hn y hy
theorem qd_some {g : Nat → Int} {n : Int} {p : List Nx} {x : Nx} {k : Nat} (hk : k ≤ (g 1).toNat) (h : (p ++ [x]).map (·.1) = ol g k) (hn : ∀ x ∈ p, x.1.1 ≠ n) (hx : x.1.1 = n) : qd g n = some x.1 := by
  unfold qd
  obtain ⟨R, hR⟩ := ol_prefix g hk
  rw [hR, ← h, List.map_append, List.append_assoc, List.find?_append]
  have h0 : (p.map (·.1)).find? (fun x => x.1 == n) = none := by
    rw [List.find?_eq_none]
    intro y hy
    rw [List.mem_map] at hy
    obtain ⟨z, hz, rfl⟩ := hy
    simpa using hn z hz
  rw [h0]
  simp [hx]

set_option maxRecDepth 100000 in
set_option maxHeartbeats 2000000 in
theorem quiet_any (b : Nat) (g : Nat → Int) (n : Int) (W : World) (h : WB W b g) (hg : 0 ≤ g 1 ∧ g 1 ≤ 64) :
    Calls Try.prog 12 #[wp b, .int .i64 n] W fun e w' => e = .returned (.tuple #[.int .i64 (((qd g n).map (·.2)).getD 0), .bool (qd g n).isSome]) ∧ Later W w' := by
  have HP := Lib.hid (fun Bx w0 h1 h2 => others_stops b Bx g w0 hg h1 h2)
  refine (callsIn_wide (n := 4)).1 ?_
  refine callsIn_of_wp_marks Try.func12 rfl trivial ?_ rfl
  simp only [Try.ntmps12, List.size_toArray, List.length_cons, List.length_nil, Nat.reduceAdd, Nat.reduceSub, Array.replicate_succ, Array.replicate_zero, List.push_toArray, List.append_toArray, List.nil_append, List.cons_append]
  refine wpIn_wide.2 ?_
  go_wp2_with fail
  refine (others_any b _).mono ?_
  rintro e w3 ⟨rfl, rfl⟩
  obtain ⟨X0, hX0⟩ : ∃ X, X = ((W.alloc (.cells #[.int .i64 n] 3)).alloc (.cells #[.int .i64 0] 3)).alloc (.cells #[.bool false] 4) := ⟨_, rfl⟩
  have hs0 : X0.heap.size = W.heap.size + 1 + 1 + 1 := by rw [hX0]; simp
  have tn : X0.cell? ⟨W.heap.size, 0, none⟩ = some (.int .i64 n) := by rw [hX0]; simp
  have bx4 : Boxed X0 (W.heap.size + 1) 3 (.int .i64 0) := by
    rw [hX0]; have := (Boxed.new (W.alloc (.cells #[.int .i64 n] 3)) 3 (.int .i64 0)).alloc (.cells #[.bool false] 4); rwa [World.size_alloc] at this
  have bx5 : Boxed X0 (W.heap.size + 1 + 1) 4 (.bool false) := by
    rw [hX0]; have := Boxed.new ((W.alloc (.cells #[.int .i64 n] 3)).alloc (.cells #[.int .i64 0] 3)) 4 (.bool false); rwa [World.size_alloc, World.size_alloc] at this
  have t4 := bx4.cell
  have t5 := bx5.cell
  have f4 := bx4.frozen
  have f5 := bx5.frozen
  clear bx4 bx5
  have hl0 : Later W X0 := by rw [hX0]; exact (((Later.refl _).alloc _).alloc _).alloc _
  rw [← hX0]
  obtain ⟨X2, hX2⟩ : ∃ X, X = X0.alloc (.cells #[wp b] 24) := ⟨_, rfl⟩
  have hs2 : X2.heap.size = X0.heap.size + 1 := by rw [hX2]; simp
  have hl2 : Later X0 X2 := by rw [hX2]; exact (Later.refl _).alloc _
  have tX : X2.heap[W.heap.size + 1 + 1 + 1]? = some (.cells #[wp b] 24) := by rw [← hs0, hX2]; exact heap_alloc_new _ _
  have tx : X2.cell? ⟨W.heap.size + 1 + 1 + 1, 0, none⟩ = some (wp b) := by simp [World.cell?, tX]
  rw [← hX2]
  have hbl := h.lt
  replace h : WB X2 b g := Row.later h (hl0.trans hl2)
  have hX02 : X0.grownBy X2 none := hl2.grown
  have HS := Lib.hid (HP.out (W.heap.size + 1 + 1 + 1) X2 h tx)
  obtain ⟨Wb, hWb⟩ : ∃ n, Hid (W.heap.size = n) := ⟨_, rfl⟩
  obtain ⟨R4, hR4⟩ : ∃ n, Hid (W.heap.size + 1 = n) := ⟨_, rfl⟩
  obtain ⟨R5, hR5⟩ : ∃ n, Hid (W.heap.size + 1 + 1 = n) := ⟨_, rfl⟩
  obtain ⟨Bx, hBx⟩ : ∃ n, Hid (W.heap.size + 1 + 1 + 1 = n) := ⟨_, rfl⟩
  have b4 : W.heap.size ≤ R4 ∧ R4 < X0.heap.size ∧ R4 ≠ R5 ∧ W.heap.size ≤ R5 ∧ R5 < X0.heap.size := by have := hR4.out; have := hR5.out; omega
  have b5 : b ≠ R4 ∧ b ≠ R5 ∧ Bx ≠ R4 ∧ Bx ≠ R5 := by have := hR4.out; have := hR5.out; have := hBx.out; omega
  obtain ⟨b41, b42, b43, b44, b45⟩ := b4
  obtain ⟨b51, b52, b53, b54⟩ := b5
  have hbX2 : b < X2.heap.size := by omega
  have hBX2 : Bx < X2.heap.size := by have := hBx.out; omega
  have hWX2 : W.heap.size ≤ X2.heap.size := by omega
  have hX0X2 : X0.heap.size ≤ X2.heap.size := by omega
  rw [hs0, hBx.out, hR5.out, hR4.out, hWb.out]
  rw [hBx.out] at HS tX tx
  rw [hR5.out] at t5 f5
  rw [hR4.out] at t4 f4
  rw [hWb.out] at tn
  clear hs0 hs2 hBx hR4 hR5 hX0 hX2 hl2 HP
  go_wp2_with fail
  refine (wpIn_wide (n := 4)).1 ?_
  refine wpIn_rangeFunc_ownG rfl (by omega) (gf := 29) (lb := #[wp Bx]) rfl trivial (enters_of Try.func29 (by kernel_rfl) rfl)
    HS.out Keep2.trans (fun W l o o' hl _ _ _ => Keep2.putObj W l o' (by omega)) (Below.refl _ _) (fun _ => rfl)
    (fun pre W' => (∀ x ∈ pre, x.1.1 ≠ n) ∧ X0.grownBy W' none ∧ W'.heap[b]? = some (.cells (rowV 68 g) 59 (0, 0)) ∧ W'.heap[Bx]? = some (.cells #[wp b] 24 (0, 0)))
    (fun c pre W' => c = .ret ∧ (∃ p x, pre = p ++ [x] ∧ (∀ y ∈ p, y.1.1 ≠ n) ∧ x.1.1 = n ∧ W'.cell? ⟨R4, 0, none⟩ = some (.int .i64 x.1.2)) ∧ W'.cell? ⟨R5, 0, none⟩ = some (.bool true) ∧ W.grownBy W' none)
    (OwnFrom.and (fun _ _ _ _ hs _ _ => hs) (OwnFrom.and (ownFrom_none (by omega)) (OwnFrom.and (ownFrom_block (by omega)) (ownFrom_block (by omega)))))
    (fun c pre A A' row hs hg hr => by
      obtain ⟨hc, ⟨p, x, h1, h2, h3, h4⟩, h5, h6⟩ := hs
      exact ⟨hc, ⟨p, x, h1, h2, h3, cell_keep h4 hg (fun r e => (hr r e).1) (by omega)⟩, cell_keep h5 hg (fun r e => (hr r e).1) (by omega), grown_none h6 hg (fun r e => by have := (hr r e).1; omega)⟩)
    ⟨(fun x hx => by cases hx), hX02, h, tX⟩
    (fun x => { tmps := #[wp b, .int .i64 n, undef, wp Wb, wp R4, wp R5, .int .i64 x.1.1, .int .i64 x.1.2, wp b, (.func (.func 29) #[] #[wp Bx]), .int .i64 x.1.1, .int .i64 x.1.2, undef, undef, undef, undef], defers := [] }) ?assign ?body ?done ?stop
  case assign =>
    intro l x W K hK
    gi_wp2
    exact hK
  case body =>
    rintro l pre x W1 ⟨hno, hG, hWB, hWX⟩ hlt
    have tn1 := (Later.of_grown hG).cell tn
    have t41 := (Later.of_grown hG).cell t4
    have t51 := (Later.of_grown hG).cell t5
    have f41 := (Later.of_grown hG).frozen t4 f4
    have f51 := (Later.of_grown hG).frozen t5 f5
    by_cases hP : x.1.1 = n
    · have hq : (x.1.1 == n) = true := by simp [hP]
      gi_wp2_with fail
      have hcell : ((W1.setCell ⟨R4, 0, none⟩ (.int .i64 x.1.2)).setCell ⟨R5, 0, none⟩ (.bool true)).cell? ⟨R4, 0, none⟩ = some (.int .i64 x.1.2) := cell_setCell_o (cell_setCell_s t41) (by omega)
      have hcell5 : ((W1.setCell ⟨R4, 0, none⟩ (.int .i64 x.1.2)).setCell ⟨R5, 0, none⟩ (.bool true)).cell? ⟨R5, 0, none⟩ = some (.bool true) := cell_setCell_s (cell_setCell_o t51 (by omega))
      have hGW : W.grownBy W1 none := grown_none hl0.grown hG (fun r e => by cases e)
      exact ⟨((KeepsOthers.setCell _ _ _).trans (KeepsOthers.setCell _ _ _)).from _, rfl, ⟨pre, x, rfl, hno, hP, hcell⟩, hcell5, grown_none (grown_none hGW (grownBy_set _ R4 0 _) (fun r e => by cases e; exact b41)) (grownBy_set _ R5 0 _) (fun r e => by cases e; exact b44)⟩
    · have hq : (x.1.1 == n) = false := by simp [hP]
      gi_wp2_with fail
      exact ⟨(KeepsOthers.refl _).from _, ⟨rfl, rfl⟩, fun y hy => by rw [List.mem_append, List.mem_singleton] at hy; rcases hy with hy | rfl; exact hno y hy; exact hP, hG, hWB, hWX⟩
  case done =>
    rintro D ys W' hD hys ⟨hno, hG, hWB, hWX⟩ hK
    have hqn := qd_none hys hno
    have t41 := (Later.of_grown hG).cell t4
    have t51 := (Later.of_grown hG).cell t5
    have f41 := (Later.of_grown hG).frozen t4 f4
    have f51 := (Later.of_grown hG).frozen t5 f5
    go_wp2_with fail
    have hK2 : ((W'.setCell ⟨R4, 0, none⟩ (.int .i64 0)).setCell ⟨R5, 0, none⟩ (.bool false)).heap[D]? = some (.deferred (some [])) := by
      rw [Below.heap_setCell _ _ _ D (by show D ≠ R5; omega), Below.heap_setCell _ _ _ D (by show D ≠ R4; omega)]; exact hK
    refine ⟨by simp, .inl ⟨_, _, rfl, run_takeDeferred hK2, ?_⟩⟩
    have e4 : ((W'.setCell ⟨R4, 0, none⟩ (.int .i64 0)).setCell ⟨R5, 0, none⟩ (.bool false)).cell? ⟨R4, 0, none⟩ = some (.int .i64 0) := cell_setCell_o (cell_setCell_s t41) (by omega)
    have e5 : ((W'.setCell ⟨R4, 0, none⟩ (.int .i64 0)).setCell ⟨R5, 0, none⟩ (.bool false)).cell? ⟨R5, 0, none⟩ = some (.bool false) := cell_setCell_s (cell_setCell_o t51 (by omega))
    have hGW : W.grownBy ((W'.setCell ⟨R4, 0, none⟩ (.int .i64 0)).setCell ⟨R5, 0, none⟩ (.bool false)) none := grown_none (grown_none (grown_none hl0.grown hG (fun r e => by cases e)) (grownBy_set _ R4 0 _) (fun r e => by cases e; exact b41)) (grownBy_set _ R5 0 _) (fun r e => by cases e; exact b44)
    have hbe := fun o o' h1 h2 h3 => belowK_b (w := X2) hWX2 ((W'.setCell ⟨R4, 0, none⟩ (.int .i64 0)).setCell ⟨R5, 0, none⟩ (.bool false)) D o o' hD h1 h2 h3
    have hbe2 := hbe _ (.deferred none) hK2 rfl rfl
    obtain ⟨W3, hW3⟩ : ∃ X, X = (W'.setCell ⟨R4, 0, none⟩ (.int .i64 0)).setCell ⟨R5, 0, none⟩ (.bool false) := ⟨_, rfl⟩
    rw [← hW3] at e4 e5 hGW hbe2 ⊢
    clear hbe hK2 hW3 hK t41 t51 f41 f51
    have e4' := (World.cell?_of_block (a := ⟨R4, 0, none⟩) (World.putObj_heap_other (w := W3) (o := .deferred none) (show R4 ≠ D by omega))).trans e4
    have e5' := (World.cell?_of_block (a := ⟨R5, 0, none⟩) (World.putObj_heap_other (w := W3) (o := .deferred none) (show R5 ≠ D by omega))).trans e5
    have hend : Later W (W3.putObj D (.deferred none)) := Below.trans (Later.of_grown hGW) hbe2
    obtain ⟨W4, hW4⟩ : ∃ X, X = W3.putObj D (.deferred none) := ⟨_, rfl⟩
    rw [← hW4] at e4' e5' hend ⊢
    clear hbe2 hW4
    rw [hqn]
    refine ⟨.tuple #[.int .i64 0, .bool false], ?_, rfl, hend⟩
    simp only [results]
    go_simp
  case stop =>
    rintro D c pre W' hD hys ⟨rfl, ⟨p, x, rfl, hno, hx, h4⟩, h5, hG⟩ hK
    obtain ⟨k, hk, hys⟩ := hys
    have hqn := qd_some hk hys hno hx
    gi_wp2
    refine ⟨by simp, .inl ⟨_, _, rfl, run_takeDeferred hK, ?_⟩⟩
    have hbe2 := belowK_b (w := X2) hWX2 W' D _ (.deferred none) hD hK rfl rfl
    have e4' := (World.cell?_of_block (a := ⟨R4, 0, none⟩) (World.putObj_heap_other (w := W') (o := .deferred none) (show R4 ≠ D by omega))).trans h4
    have e5' := (World.cell?_of_block (a := ⟨R5, 0, none⟩) (World.putObj_heap_other (w := W') (o := .deferred none) (show R5 ≠ D by omega))).trans h5
    have hend : Later W (W'.putObj D (.deferred none)) := Below.trans (Later.of_grown hG) hbe2
    obtain ⟨W4, hW4⟩ : ∃ X, X = W'.putObj D (.deferred none) := ⟨_, rfl⟩
    rw [← hW4] at e4' e5' hend ⊢
    clear hbe2 h4 h5 hW4
    rw [hqn]
    refine ⟨.tuple #[.int .i64 x.1.2, .bool true], ?_, rfl, hend⟩
    simp only [results]
    go_simp
end Go.Proofs.Ytaaohfocegnlkaa
