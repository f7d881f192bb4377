/-
  Chapter 23: calls on none; many ticks.
-/
import Derived.Test.YtaaohfocegnlkaaBtW
import Derived.Test.YtaaohfocegnlkaaBtN
namespace Go.Proofs.Ytaaohfocegnlkaa
open Go.RowKit Go.Shelf
set_option linter.unusedVariables false
set_option linter.unusedSimpArgs false
attribute [local go_sem] Oper.semAt_some

set_option maxRecDepth 100000 in
theorem others1_nil (l Bx : Nat) (J Jx : List (Int × Int) → World → Prop) (W : World) (hJ : AbidesFrom W.heap.size J) (tx : W.cell? ⟨Bx, 0, none⟩ = some (.pointer none)) (h0 : J [] W) :
    CallsIn Fence.wide 3 Try.prog 29 #[.func (.yield l) #[] #[], wp Bx] W fun e W' =>
      (∃ v, e = .returned v) ∧ ((∃ xs, xs = ([] : List (Int × Int)) ∧ J xs W') ∨ (∃ pre, False ∧ Jx pre W')) := by
  refine callsIn_of_wp Try.func29 rfl trivial ?_ rfl
  simp only [Try.ntmps29, List.size_toArray, List.length_cons, List.length_nil, Nat.reduceAdd, Nat.reduceSub, Array.replicate_succ, Array.replicate_zero, List.push_toArray, List.append_toArray, List.nil_append, List.cons_append]
  refine wpIn_wide.2 ?_
  go_step3
  go_wp2_with fail
  refine (none_nil W).mono ?_
  rintro e w1 ⟨rfl, h1⟩
  have hJ0 : J [] w1 := hJ [] _ _ none h0 h1.grown (fun _ e => by cases e)
  go_wp2_with fail
  rw [Exit.noGoto_ret]
  refine bodyPost_ret (results_none rfl _ _ _) rfl ?_
  exact ⟨⟨_, rfl⟩, .inl ⟨_, rfl, hJ0⟩⟩
theorem others_stops_nil (Bx : Nat) (w0 : World) (tx : w0.cell? ⟨Bx, 0, none⟩ = some (.pointer none)) :
    SeqStopsK Fence.wide 3 Try.prog 29 #[wp Bx] (fun x : Nx => encp x.1) (Keep2 Bx Bx)
      (fun ys => ys.map (·.1) = []) (fun ys => False) 64 w0 := fun l J Jx W hW hJ hJx hY h0 => by
  have hl : Later w0 W := hW
  refine (others1_nil l Bx (fun ys W => ∃ zs : List Nx, zs.map (·.1) = ys ∧ J zs W) (fun ys W => ∃ zs : List Nx, zs.map (·.1) = ys ∧ Jx zs W) W ?_ (hl.cell tx) ⟨[], rfl, h0⟩).mono ?_
  · rintro s X Y row ⟨zs, hz, hj⟩ hg hr
    exact ⟨zs, hz, hJ zs X Y row hj hg hr⟩
  · rintro e W' ⟨hv, h | h⟩
    · obtain ⟨xs, hxs, zs, hz, hj⟩ := h
      exact ⟨hv, .inl ⟨zs, by show zs.map (·.1) = _; rw [hz, hxs], hj⟩⟩
    · obtain ⟨xs, hf, _⟩ := h
      exact hf.elim
theorem others_nil (W : World) :
    Calls Try.prog 25 #[.pointer none] W fun e w' => e = .returned (.func (.func 29) #[] #[wp W.heap.size]) ∧ w' = W.alloc (.cells #[.pointer none] 24) := by
  go_enter Try.func25, Try.ntmps25
  go_wp2
  go_ret
  exact ⟨rfl, rfl⟩
set_option maxRecDepth 100000 in
set_option maxHeartbeats 2000000 in
theorem quiet_nil (n : Int) (W : World) :
    Calls Try.prog 12 #[.pointer none, .int .i64 n] W fun e w' => e = .returned (.tuple #[.int .i64 0, .bool false]) ∧ Later W w' := by
  have HP := Lib.hid (fun Bx w0 h2 => others_stops_nil Bx w0 h2)
  refine (callsIn_wide (n := 4)).1 ?_
  refine callsIn_of_wp_marks Try.func12 rfl trivial ?_ rfl
  simp only [Try.ntmps12, List.size_toArray, List.length_cons, List.length_nil, Nat.reduceAdd, Nat.reduceSub, Array.replicate_succ, Array.replicate_zero, List.push_toArray, List.append_toArray, List.nil_append, List.cons_append]
  refine wpIn_wide.2 ?_
  go_wp2_with fail
  refine (others_nil _).mono ?_
  rintro e w3 ⟨rfl, rfl⟩
  obtain ⟨X0, hX0⟩ : ∃ X, X = ((W.alloc (.cells #[.int .i64 n] 3)).alloc (.cells #[.int .i64 0] 3)).alloc (.cells #[.bool false] 4) := ⟨_, rfl⟩
  have hs0 : X0.heap.size = W.heap.size + 1 + 1 + 1 := by rw [hX0]; simp
  have tn : X0.cell? ⟨W.heap.size, 0, none⟩ = some (.int .i64 n) := by rw [hX0]; simp
  have bx4 : Boxed X0 (W.heap.size + 1) 3 (.int .i64 0) := by
    rw [hX0]; have := (Boxed.new (W.alloc (.cells #[.int .i64 n] 3)) 3 (.int .i64 0)).alloc (.cells #[.bool false] 4); rwa [World.size_alloc] at this
  have bx5 : Boxed X0 (W.heap.size + 1 + 1) 4 (.bool false) := by
    rw [hX0]; have := Boxed.new ((W.alloc (.cells #[.int .i64 n] 3)).alloc (.cells #[.int .i64 0] 3)) 4 (.bool false); rwa [World.size_alloc, World.size_alloc] at this
  have t4 := bx4.cell
  have t5 := bx5.cell
  have f4 := bx4.frozen
  have f5 := bx5.frozen
  clear bx4 bx5
  have hl0 : Later W X0 := by rw [hX0]; exact (((Later.refl _).alloc _).alloc _).alloc _
  rw [← hX0]
  obtain ⟨X2, hX2⟩ : ∃ X, X = X0.alloc (.cells #[.pointer none] 24) := ⟨_, rfl⟩
  have hs2 : X2.heap.size = X0.heap.size + 1 := by rw [hX2]; simp
  have hl2 : Later X0 X2 := by rw [hX2]; exact (Later.refl _).alloc _
  have tX : X2.heap[W.heap.size + 1 + 1 + 1]? = some (.cells #[.pointer none] 24) := by rw [← hs0, hX2]; exact heap_alloc_new _ _
  have tx : X2.cell? ⟨W.heap.size + 1 + 1 + 1, 0, none⟩ = some (.pointer none) := by simp [World.cell?, tX]
  rw [← hX2]
  have hX02 : X0.grownBy X2 none := hl2.grown
  have HS := Lib.hid (HP.out (W.heap.size + 1 + 1 + 1) X2 tx)
  obtain ⟨Wb, hWb⟩ : ∃ n, Hid (W.heap.size = n) := ⟨_, rfl⟩
  obtain ⟨R4, hR4⟩ : ∃ n, Hid (W.heap.size + 1 = n) := ⟨_, rfl⟩
  obtain ⟨R5, hR5⟩ : ∃ n, Hid (W.heap.size + 1 + 1 = n) := ⟨_, rfl⟩
  obtain ⟨Bx, hBx⟩ : ∃ n, Hid (W.heap.size + 1 + 1 + 1 = n) := ⟨_, rfl⟩
  have b4 : W.heap.size ≤ R4 ∧ R4 < X0.heap.size ∧ R4 ≠ R5 ∧ W.heap.size ≤ R5 ∧ R5 < X0.heap.size := by have := hR4.out; have := hR5.out; omega
  have b5 : Bx ≠ R4 ∧ Bx ≠ R5 := by have := hR4.out; have := hR5.out; have := hBx.out; omega
  obtain ⟨b41, b42, b43, b44, b45⟩ := b4
  obtain ⟨b53, b54⟩ := b5
  have hBX2 : Bx < X2.heap.size := by have := hBx.out; omega
  have hWX2 : W.heap.size ≤ X2.heap.size := by omega
  have hX0X2 : X0.heap.size ≤ X2.heap.size := by omega
  rw [hs0, hBx.out, hR5.out, hR4.out, hWb.out]
  rw [hBx.out] at HS tX tx
  rw [hR5.out] at t5 f5
  rw [hR4.out] at t4 f4
  rw [hWb.out] at tn
  clear hs0 hs2 hBx hR4 hR5 hX0 hX2 hl2 HP
  go_wp2_with fail
  refine (wpIn_wide (n := 4)).1 ?_
  refine wpIn_rangeFunc_ownG rfl (by omega) (gf := 29) (lb := #[wp Bx]) rfl trivial (enters_of Try.func29 (by kernel_rfl) rfl)
    HS.out Keep2.trans (fun W l o o' hl _ _ _ => Keep2.putObj W l o' (by omega)) (Below.refl _ _) (fun _ => rfl)
    (fun pre W' => (∀ x ∈ pre, x.1.1 ≠ n) ∧ X0.grownBy W' none ∧ W'.heap[Bx]? = some (.cells #[.pointer none] 24 (0, 0)))
    (fun c pre W' => c = .ret ∧ (∃ p x, pre = p ++ [x] ∧ (∀ y ∈ p, y.1.1 ≠ n) ∧ x.1.1 = n ∧ W'.cell? ⟨R4, 0, none⟩ = some (.int .i64 x.1.2)) ∧ W'.cell? ⟨R5, 0, none⟩ = some (.bool true) ∧ W.grownBy W' none)
    (OwnFrom.and (fun _ _ _ _ hs _ _ => hs) (OwnFrom.and (ownFrom_none (by omega)) (ownFrom_block (by omega))))
    (fun c pre A A' row hs hg hr => by
      obtain ⟨hc, ⟨p, x, h1, h2, h3, h4⟩, h5, h6⟩ := hs
      exact ⟨hc, ⟨p, x, h1, h2, h3, cell_keep h4 hg (fun r e => (hr r e).1) (by omega)⟩, cell_keep h5 hg (fun r e => (hr r e).1) (by omega), grown_none h6 hg (fun r e => by have := (hr r e).1; omega)⟩)
    ⟨(fun x hx => by cases hx), hX02, tX⟩
    (fun x => { tmps := #[.pointer none, .int .i64 n, undef, wp Wb, wp R4, wp R5, .int .i64 x.1.1,   .int .i64 x.1.2, .pointer none, (.func (.func 29) #[] #[wp Bx]), .int .i64 x.1.1, .int .i64 x.1.2, undef, undef, undef, undef], defers := [] }) ?assign ?body ?done ?stop
  case assign =>
    intro l x W K hK
    gi_wp2
    exact hK
  case body =>
    rintro l pre x W1 ⟨hno, hG, hWX⟩ hlt
    have tn1 := (Later.of_grown hG).cell tn
    have t41 := (Later.of_grown hG).cell t4
    have t51 := (Later.of_grown hG).cell t5
    have f41 := (Later.of_grown hG).frozen t4 f4
    have f51 := (Later.of_grown hG).frozen t5 f5
    by_cases hP : x.1.1 = n
    · have hq : (x.1.1 == n) = true := by simp [hP]
      gi_wp2_with fail
      have hcell : ((W1.setCell ⟨R4, 0, none⟩ (.int .i64 x.1.2)).setCell ⟨R5, 0, none⟩ (.bool true)).cell? ⟨R4, 0, none⟩ = some (.int .i64 x.1.2) := cell_setCell_o (cell_setCell_s t41) (by omega)
      have hcell5 : ((W1.setCell ⟨R4, 0, none⟩ (.int .i64 x.1.2)).setCell ⟨R5, 0, none⟩ (.bool true)).cell? ⟨R5, 0, none⟩ = some (.bool true) := cell_setCell_s (cell_setCell_o t51 (by omega))
      have hGW : W.grownBy W1 none := grown_none hl0.grown hG (fun r e => by cases e)
      exact ⟨((KeepsOthers.setCell _ _ _).trans (KeepsOthers.setCell _ _ _)).from _, rfl, ⟨pre, x, rfl, hno, hP, hcell⟩, hcell5, grown_none (grown_none hGW (grownBy_set _ R4 0 _) (fun r e => by cases e; exact b41)) (grownBy_set _ R5 0 _) (fun r e => by cases e; exact b44)⟩
    · have hq : (x.1.1 == n) = false := by simp [hP]
      gi_wp2_with fail
      exact ⟨(KeepsOthers.refl _).from _, ⟨rfl, rfl⟩, fun y hy => by rw [List.mem_append, List.mem_singleton] at hy; rcases hy with hy | rfl; exact hno y hy; exact hP, hG, hWX⟩
  case done =>
    rintro D ys W' hD hys ⟨hno, hG, hWX⟩ hK
    have t41 := (Later.of_grown hG).cell t4
    have t51 := (Later.of_grown hG).cell t5
    have f41 := (Later.of_grown hG).frozen t4 f4
    have f51 := (Later.of_grown hG).frozen t5 f5
    go_wp2_with fail
    have hK2 : ((W'.setCell ⟨R4, 0, none⟩ (.int .i64 0)).setCell ⟨R5, 0, none⟩ (.bool false)).heap[D]? = some (.deferred (some [])) := by
      rw [Below.heap_setCell _ _ _ D (by show D ≠ R5; omega), Below.heap_setCell _ _ _ D (by show D ≠ R4; omega)]; exact hK
    refine ⟨by simp, .inl ⟨_, _, rfl, run_takeDeferred hK2, ?_⟩⟩
    have e4 : ((W'.setCell ⟨R4, 0, none⟩ (.int .i64 0)).setCell ⟨R5, 0, none⟩ (.bool false)).cell? ⟨R4, 0, none⟩ = some (.int .i64 0) := cell_setCell_o (cell_setCell_s t41) (by omega)
    have e5 : ((W'.setCell ⟨R4, 0, none⟩ (.int .i64 0)).setCell ⟨R5, 0, none⟩ (.bool false)).cell? ⟨R5, 0, none⟩ = some (.bool false) := cell_setCell_s (cell_setCell_o t51 (by omega))
    have hGW : W.grownBy ((W'.setCell ⟨R4, 0, none⟩ (.int .i64 0)).setCell ⟨R5, 0, none⟩ (.bool false)) none := grown_none (grown_none (grown_none hl0.grown hG (fun r e => by cases e)) (grownBy_set _ R4 0 _) (fun r e => by cases e; exact b41)) (grownBy_set _ R5 0 _) (fun r e => by cases e; exact b44)
    have hbe := fun o o' h1 h2 h3 => belowK_b (w := X2) hWX2 ((W'.setCell ⟨R4, 0, none⟩ (.int .i64 0)).setCell ⟨R5, 0, none⟩ (.bool false)) D o o' hD h1 h2 h3
    have hbe2 := hbe _ (.deferred none) hK2 rfl rfl
    obtain ⟨W3, hW3⟩ : ∃ X, X = (W'.setCell ⟨R4, 0, none⟩ (.int .i64 0)).setCell ⟨R5, 0, none⟩ (.bool false) := ⟨_, rfl⟩
    rw [← hW3] at e4 e5 hGW hbe2 ⊢
    clear hbe hK2 hW3 hK t41 t51 f41 f51
    have e4' := (World.cell?_of_block (a := ⟨R4, 0, none⟩) (World.putObj_heap_other (w := W3) (o := .deferred none) (show R4 ≠ D by omega))).trans e4
    have e5' := (World.cell?_of_block (a := ⟨R5, 0, none⟩) (World.putObj_heap_other (w := W3) (o := .deferred none) (show R5 ≠ D by omega))).trans e5
    have hend : Later W (W3.putObj D (.deferred none)) := Below.trans (Later.of_grown hGW) hbe2
    obtain ⟨W4, hW4⟩ : ∃ X, X = W3.putObj D (.deferred none) := ⟨_, rfl⟩
    rw [← hW4] at e4' e5' hend ⊢
    clear hbe2 hW4
    refine ⟨.tuple #[.int .i64 0, .bool false], ?_, rfl, hend⟩
    simp only [results]
    go_simp
  case stop =>
    rintro D c pre W' hD hys ⟨rfl, ⟨p, x, rfl, hno, hx, h4⟩, h5, hG⟩ hK
    exact hys.elim
theorem heard_nil (W : World) (n : Int) :
    Calls Try.prog 11 #[.pointer none, .int .i64 n] W fun e w' => e = .returned (.tuple #[.bool false, .int .i64 1]) ∧ Later W w' := by
  go_enter Try.func11, Try.ntmps11
  go_wp2_with fail
  refine (none_nil _).mono ?_
  rintro e w1 ⟨rfl, hl⟩
  go_wp2_with fail
  go_ret2
  exact ⟨rfl, hl⟩
theorem heard_zero (b : Nat) (g : Nat → Int) (W : World) (h : WB W b g) (h1 : g 1 = 0) (n : Int) :
    Calls Try.prog 11 #[wp b, .int .i64 n] W fun e w' => e = .returned (.tuple #[.bool false, .int .i64 1]) ∧ Later W w' := by
  have HN := none_any b g W h
  rw [show (g 1 == 0) = true from by simp [h1]] at HN
  go_enter Try.func11, Try.ntmps11
  go_wp2_with fail
  refine HN.mono ?_
  rintro e w1 ⟨rfl, hl⟩
  go_wp2_with fail
  go_ret2
  exact ⟨rfl, hl⟩
theorem tick_nil (W : World) :
    Calls Try.prog 14 #[.pointer none] W fun e w' => e = .returned (.slice none 0 0) ∧ Later W w' := by
  go_enter Try.func14, Try.ntmps14
  go_wp2_with fail
  refine (none_nil _).mono ?_
  rintro e w1 ⟨rfl, hl⟩
  go_wp2_with fail
  go_ret
  exact ⟨rfl, ((Later.refl _).alloc _).trans hl⟩
theorem alive_nil (W : World) :
    Calls Try.prog 10 #[.pointer none] W fun e w' => e = .returned (.slice none 0 0) ∧ Later W w' := by
  go_enter Try.func10, Try.ntmps10
  go_wp2_with fail
  refine (none_nil _).mono ?_
  rintro e w1 ⟨rfl, hl⟩
  go_wp2_with fail
  go_ret
  exact ⟨rfl, ((Later.refl _).alloc _).trans hl⟩
theorem alive_zero (b : Nat) (g : Nat → Int) (W : World) (h : WB W b g) (h1 : g 1 = 0) :
    Calls Try.prog 10 #[wp b] W fun e w' => e = .returned (.slice none 0 0) ∧ Later W w' := by
  have HN := none_any b g (W.alloc (.cells #[wp b] 24)) (Row.later h ((Later.refl _).alloc _))
  rw [show (g 1 == 0) = true from by simp [h1]] at HN
  go_enter Try.func10, Try.ntmps10
  go_wp2_with fail
  refine HN.mono ?_
  rintro e w1 ⟨rfl, hl⟩
  go_wp2_with fail
  go_ret
  exact ⟨rfl, ((Later.refl _).alloc _).trans hl⟩
theorem due_nil (W : World) :
    Calls Try.prog 22 #[.pointer none] W fun e w' => e = .returned (.bool false) ∧ Later W w' := by
  go_enter Try.func22, Try.ntmps22
  go_wp2_with fail
  refine (none_nil _).mono ?_
  rintro e w1 ⟨rfl, hl⟩
  go_wp2_with fail
  go_ret
  exact ⟨rfl, hl⟩
theorem due_zero (b : Nat) (g : Nat → Int) (W : World) (h : WB W b g) (h1 : g 1 = 0) :
    Calls Try.prog 22 #[wp b] W fun e w' => e = .returned (.bool false) ∧ Later W w' := by
  have HN := none_any b g W h
  rw [show (g 1 == 0) = true from by simp [h1]] at HN
  go_enter Try.func22, Try.ntmps22
  go_wp2_with fail
  refine HN.mono ?_
  rintro e w1 ⟨rfl, hl⟩
  go_wp2_with fail
  go_ret
  exact ⟨rfl, hl⟩
theorem now_nil (W : World) :
    Calls Try.prog 15 #[.pointer none] W fun e w' => e = .returned (.int .i64 0) ∧ Later W w' := by
  go_enter Try.func15, Try.ntmps15
  go_wp2_with fail
  refine (none_nil _).mono ?_
  rintro e w1 ⟨rfl, hl⟩
  go_wp2_with fail
  go_ret
  exact ⟨rfl, hl⟩
theorem copy_zero (b : Nat) (g : Nat → Int) (W : World) (h : WB W b g) (h1 : g 1 = 0) :
    Calls Try.prog 20 #[wp b] W fun e w' => e = .returned (.pointer none) ∧ Later W w' := by
  have HN := none_any b g W h
  rw [show (g 1 == 0) = true from by simp [h1]] at HN
  go_enter Try.func20, Try.ntmps20
  go_wp2_with fail
  refine HN.mono ?_
  rintro e w1 ⟨rfl, hl⟩
  go_wp2_with fail
  go_ret
  exact ⟨rfl, hl⟩
theorem IntsF.grownF {n o : Nat} {w w' : World} {v : Value} {L : List Int} (h : IntsF n w v L) (hg : w.grownBy w' (some o)) (ho : o < n) : IntsF n w' v L := ⟨h.grown hg ho, h.2⟩
def tksL : Nat → (Nat → Int) → List Int
  | 0, _ => []
  | n + 1, g => tksL n g ++ tkL (tkN n g)
set_option maxRecDepth 100000 in
theorem ticks_any (b n : Nat) (g : Nat → Int) (W : World) (h : WB W b g) (hg : 1 ≤ g 1 ∧ g 1 ≤ 64) (hn3 : 0 ≤ g 3 ∧ g 3 ≤ 1000) (hn : n ≤ 60) (hL : ∀ i, i ≤ n → (tksL i g).length ≤ 2000) :
    Calls Try.prog 24 #[wp b, .int .i64 n] W fun e w' => ∃ v, e = .returned v ∧ IntsF W.heap.size w' v (tksL n g) ∧ WB w' b (tkN n g) ∧ W.grownBy w' (some b) := by
  have HT := Lib.hid (fun i w (h : WB w b (tkN i g)) => tick_any b (tkN i g) w h)
  have hL := Lib.hid hL
  have hbW := h.lt
  go_enter Try.func24, Try.ntmps24
  go_wp2_with fail
  go_loopw [5, 7] (fun o y wr => ∃ i : Nat, i ≤ n ∧ y = .int .i64 i ∧ wr.ownsRow W.heap.size 3 1 o (tksL i g).length (encI (tksL i g)) ∧ WB wr b (tkN i g) ∧ W.grownBy wr (some b)) (fun _ y _ => (5000 - intOf y).toNat)
  case atStart => exact ⟨0, by omega, rfl, World.ownsRow_nil _ _ _ _, h, World.grownBy.refl _ _⟩
  case round =>
    obtain ⟨i, hi, rfl, hrow, hw, hG⟩ := hrel
    obtain ⟨wo, rfl⟩ : ∃ wo : World, wo = wr := ⟨_, rfl⟩
    by_cases hin : i < n
    · have hTi := HT.out i wo hw (by rw [tkN_1]; exact hg) (by rw [tkN_3]; omega)
      have e1 : tksL (i + 1) g = tksL i g ++ tkL (tkN i g) := rfl
      have l1 := hL.out (i + 1) (by omega)
      rw [e1] at l1
      obtain ⟨F, hF⟩ : ∃ F, tksL i g = F := ⟨_, rfl⟩
      obtain ⟨M, hM⟩ : ∃ F, tkL (tkN i g) = F := ⟨_, rfl⟩
      rw [hF, hM] at e1 l1
      rw [hF] at hrow
      rw [hM] at hTi
      rw [List.length_append] at l1
      clear hF hM
      go_wp2_with fail
      refine hTi.mono ?_
      rintro e w1 ⟨v, rfl, hv, hw1, hg1⟩
      rw [← tkN_succ] at hw1
      have hb := grown_but hG hg1 (fun r e => .inl (Option.some.inj e).symm)
      have hrow1 := hrow.kept hg1 (.inr (fun e => own_ge hrow hbW e.symm))
      have hsz := hb.size
      go_wp2_with (at_builtin; refine wpList_append_ints rfl _ _ rfl W.heap.size _ _ rfl hrow1 v rfl M wo.heap.size hv (by omega) hsz ?_; intro v1 w5 hr5 hg5 hn5)
      have hWB5 : WB w5 b (tkN (i + 1) g) := (hg5.block b hw1.lt (own_ge hrow1 hbW)).trans hw1
      have hb5 := grown_but hb hg5 (fun r e => .inr (Nat.le_of_not_lt (fun h => own_ge hrow1 h e.symm)))
      go_roundw
      case rel => exact ⟨i + 1, by omega, by go_num, by rw [e1]; exact hr5, hWB5, hb5⟩
      case measure => simp [intOf]; omega
    · obtain rfl : i = n := by omega
      go_wp2_with fail
      go_ret
      exact ⟨_, rfl, intsF_of_row hrow (Nat.le_refl _), hw, hG⟩
end Go.Proofs.Ytaaohfocegnlkaa
