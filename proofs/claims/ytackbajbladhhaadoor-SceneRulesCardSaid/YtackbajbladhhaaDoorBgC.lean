/-
  Numbers of 320 bits: which is less, which is none; the other sign.
-/
import Derived.Test.YtackbajbladhhaaDoorBgB
namespace Go.Proofs.YtackbajbladhhaaDoor
open Go.RowKit Go.Shelf
set_option linter.unusedVariables false
set_option linter.unusedSimpArgs false
attribute [local go_sem] Oper.semAt_some
attribute [-simp] Tryd.sizeOf105 Tryd.typeInfo105
attribute [-go_sem] Instr.build

theorem isAgg_u64 (w : World) : (isAgg 93).run Tryd.prog w = .ok false w := by kernel_rfl
theorem part_u64 (W : World) (xs : Array Value) (off : Nat) (v : Value) (h : xs[off]? = some v) : (part 93 xs off).run Tryd.prog W = .ok v W := by
  unfold part
  simp only [Sem.run_bind, isAgg_u64, Result.andThen_ok, Bool.false_eq_true, if_false, h, Sem.run_pure]
theorem eqItems_u64 (D : Nat) (xs ys : Array Value) (f g : Nat → Int) (W : World) : ∀ is : List Nat, (∀ i ∈ is, xs[i]? = some (.int .u64 (f i)) ∧ ys[i]? = some (.int .u64 (g i))) → (Op.eqItems (D + 1) 93 1 xs ys is).run Tryd.prog W = .ok (is.all fun i => f i == g i) W
  | [], _ => by rw [Op.eqItems]; rfl
  | i :: is, h => by
    obtain ⟨h1, h2⟩ := h i (by simp)
    have ih := eqItems_u64 D xs ys f g W is (fun j hj => h j (by simp [hj]))
    have p1 := part_u64 W xs (i * 1) _ (by rw [Nat.mul_one]; exact h1)
    have p2 := part_u64 W ys (i * 1) _ (by rw [Nat.mul_one]; exact h2)
    have p3 := run_equalIn_int (P := Tryd.prog) W D 93 .u64 .u64 (f i) (g i) Tryd.underlying93
    rw [Op.eqItems]
    simp only [Sem.run_bind, p1, p2, Result.andThen_ok, p3]
    rw [List.all_cons]
    cases hb : (f i == g i)
    · rfl
    · simp only [Bool.not_true, Bool.false_eq_true, if_false, Bool.true_and]
      exact ih
theorem cells_u64 : (Tryd.prog.cellsOf 93) = 1 := by kernel_rfl
theorem eq_digs (d : Nat) (W : World) (xs ys : Array Value) (f g : Nat → Int) (h : ∀ i, i < 20 → xs[i]? = some (.int .u64 (f i)) ∧ ys[i]? = some (.int .u64 (g i))) :
    (Op.equalIn (d + 2) 103 (.agg xs) (.agg ys)).run Tryd.prog W = .ok ((List.range 20).all fun i => f i == g i) W := by
  obtain ⟨i, hi⟩ : ∃ i, Tryd.prog.info? 93 = some i := by
    have : (Tryd.prog.info? 93).isSome = true := by kernel_rfl
    exact Option.isSome_iff_exists.1 this
  refine (run_equalIn_array W (d + 1) xs ys Tryd.underlying103 hi).trans ?_
  rw [cells_u64]
  exact eqItems_u64 d xs ys f g W (List.range 20) (fun j hj => h j (List.mem_range.1 hj))
theorem guard_digs : Tryd.prog.eqGuardType Tryd.prog.depth 103 = false := by kernel_rfl
/-- Twenty digits. -/
def digV (f : Nat → Nat) : List Value := (List.range 20).map fun k => .int .u64 (f k : Nat)
theorem digV_get (f : Nat → Nat) {k : Nat} (h : k < 20) : (digV f)[k]? = some (.int .u64 (f k : Nat)) := by unfold digV; simp [h]
theorem digV_length (f : Nat → Nat) : (digV f).length = 20 := by simp [digV]
theorem build_digs (w : World) : (Instr.build 103 #[]).run Tryd.prog w = .ok (.agg (digV (fun _ => 0)).toArray) w := by kernel_rfl
theorem eql_digs (w : World) (f g : Nat → Nat) : (binOp .eql 103 (.agg (digV f).toArray) (.agg (digV g).toArray)).run Tryd.prog w = .ok (.bool ((List.range 20).all fun i => ((f i : Nat) : Int) == ((g i : Nat) : Int))) w := by
  have h := eq_digs 9998 w (digV f).toArray (digV g).toArray (fun i => ((f i : Nat) : Int)) (fun i => ((g i : Nat) : Int)) (fun i hi => ⟨by rw [List.getElem?_toArray]; exact digV_get f hi, by rw [List.getElem?_toArray]; exact digV_get g hi⟩)
  rw [run_eql_struct, h]; rfl
theorem info_digs : (Tryd.prog.info? 103).map (·.size) = some 20 := by kernel_rfl
theorem BigB.digs {W : World} {M : Nat} {s : Bool} {f : Nat → Nat} (h : BigB W M s f) : W.rangeAt M 1 (digV f) := by
  intro j v hv
  have hj : j < 20 := by rw [← digV_length f]; exact (List.getElem?_eq_some_iff.1 hv).1
  rw [digV_get f hj] at hv
  injection hv with hv
  rw [← hv]
  exact h.at1 hj
theorem digs_zero {X : Nat} (h : X < bP 20) : ((List.range 20).all fun i => ((dig X i : Nat) : Int) == ((0 : Nat) : Int)) = decide (X = 0) := by
  rw [Bool.eq_iff_iff, decide_eq_true_eq, List.all_eq_true]
  constructor
  · intro h0
    have h1 := bV_dig X 20
    rw [Nat.mod_eq_of_lt h] at h1
    rw [← h1, bV_congr (g := fun _ => 0) (fun i hi => by have := h0 i (List.mem_range.2 hi); simp only [beq_iff_eq] at this; omega)]
    have : ∀ n, bV (fun _ => 0) n = 0 := fun n => by induction n with
      | zero => rfl
      | succ n ih => rw [bV_succ, ih, Nat.zero_mul]
    exact this 20
  · rintro rfl i _
    rw [dig_zero_i]; rfl
set_option maxRecDepth 100000 in
set_option maxHeartbeats 1000000 in
theorem none_any (s : Bool) (X : Nat) (W : World) (h : X < bP 20) :
    Calls Tryd.prog 67 #[.agg (bigV s (dig X))] W fun e w' => e = .returned (.bool (decide (X = 0))) ∧ Later W w' := by
  obtain ⟨b, hb⟩ : ∃ b, Hid (bigV s (dig X) = b) := ⟨_, rfl⟩
  rw [hb.out]
  obtain ⟨r, hr⟩ : ∃ r, Hid (decide (X = 0) = r) := ⟨_, rfl⟩
  rw [hr.out]
  obtain ⟨Z0, hZ0⟩ : ∃ Z, Z = W.alloc (.cells b 105) := ⟨_, rfl⟩
  have hlZ : Later W Z0 := by rw [hZ0]; exact (Later.refl W).alloc _
  have kA : BigB Z0 W.heap.size s (dig X) := by unfold BigB; rw [hb.out, hZ0]; exact heap_alloc_new _ _
  have hrg := kA.digs
  have hnq := eq_digs 9998 Z0 (digV (dig X)).toArray (digV (fun _ => 0)).toArray (fun i => ((dig X i : Nat) : Int)) (fun i => ((0 : Nat) : Int)) (fun i hi => ⟨by rw [List.getElem?_toArray]; exact digV_get _ hi, by rw [List.getElem?_toArray]; exact digV_get _ hi⟩)
  rw [digs_zero h, hr.out] at hnq
  replace hnq : (Op.equalIn 10000 103 (.agg (digV (dig X)).toArray) (.agg (digV (fun _ => 0)).toArray)).run Tryd.prog Z0 = .ok r Z0 := hnq
  have hbd := build_digs
  obtain ⟨da, hda⟩ : ∃ l, Hid (digV (dig X) = l) := ⟨_, rfl⟩
  obtain ⟨dz, hdz⟩ : ∃ l, Hid (digV (fun _ => 0) = l) := ⟨_, rfl⟩
  have hdl : (Tryd.prog.info? 103).map (·.size) = some da.length := by rw [← hda.out, digV_length]; exact info_digs
  rw [hda.out] at hrg hnq
  rw [hdz.out] at hnq hbd
  go_enter Tryd.func67, Tryd.ntmps67
  go_upto_region 1 with fail
  rw [← hZ0]
  clear hZ0 hb hr
  first | go_step3 | skip
  go_wp2_with (refine wpList_load_mid rfl _ _ rfl W.heap.size 1 rfl da _ hrg Tryd.underlying103 rfl hdl ?_)
  go_ret
  exact ⟨rfl, hlZ⟩
theorem less_step (X k : Nat) : X / bP k = 65536 * (X / bP (k + 1)) + dig X k := by
  unfold dig
  rw [bP_succ, ← Nat.div_div_eq_div_mul]
  exact (Nat.div_add_mod _ _).symm
theorem less_dec {X Y k : Nat} (h : X / bP (k + 1) = Y / bP (k + 1)) (hne : dig X k ≠ dig Y k) : decide (X < Y) = decide (dig X k < dig Y k) := by
  have h1 := less_step X k
  have h2 := less_step Y k
  rw [h] at h1
  refine decide_eq_decide.2 ⟨fun hl => ?_, fun hl => ?_⟩
  · have h3 : X / bP k ≤ Y / bP k := Nat.div_le_div_right (by omega)
    omega
  · have h3 : X / bP k < Y / bP k := by omega
    exact Nat.lt_of_not_le (fun hle => by have := Nat.div_le_div_right (c := bP k) hle; omega)
set_option maxRecDepth 100000 in
set_option maxHeartbeats 2000000 in
theorem less_any (sx sy : Bool) (X Y : Nat) (W : World) (hX : X < bP 20) (hY : Y < bP 20) :
    Calls Tryd.prog 69 #[.agg (bigV sx (dig X)), .agg (bigV sy (dig Y))] W fun e w' => e = .returned (.bool (decide (X < Y))) ∧ Later W w' := by
  obtain ⟨bx, hbx⟩ : ∃ b, Hid (bigV sx (dig X) = b) := ⟨_, rfl⟩
  obtain ⟨by', hby⟩ : ∃ b, Hid (bigV sy (dig Y) = b) := ⟨_, rfl⟩
  obtain ⟨r, hr⟩ : ∃ r, Hid (decide (X < Y) = r) := ⟨_, rfl⟩
  rw [hbx.out, hby.out, hr.out]
  obtain ⟨Z0, hZ0⟩ : ∃ Z, Z = (W.alloc (.cells bx 105)).alloc (.cells by' 105) := ⟨_, rfl⟩
  have hlZ : Later W Z0 := by rw [hZ0]; exact ((Later.refl W).alloc _).alloc _
  have kA : BigB Z0 W.heap.size sx (dig X) := by unfold BigB; rw [hbx.out, hZ0]; exact push_one (heap_alloc_new _ _) _
  have kB : BigB Z0 (W.heap.size + 1) sy (dig Y) := by unfold BigB; rw [hby.out, hZ0]; exact push_new _ _ (by simp)
  go_enter Tryd.func69, Tryd.ntmps69
  go_upto_region 1 with fail
  rw [← hZ0]
  clear hZ0 hbx hby
  go_wp2_with fail
  go_loopw [5] (fun y wr => ∃ k : Nat, k ≤ 20 ∧ y = .int .i64 ((k : Int) - 1) ∧ Hid (X / bP k = Y / bP k) ∧ Later Z0 wr) (fun y _ => (intOf y + 1).toNat)
  case atStart => exact ⟨20, by omega, by go_num, Lib.hid (by rw [Nat.div_eq_of_lt hX, Nat.div_eq_of_lt hY]), Later.refl _⟩
  case round =>
    obtain ⟨k, hk, rfl, hq, hl⟩ := hrel
    obtain ⟨wo, rfl⟩ : ∃ wo : World, wo = wr := ⟨_, rfl⟩
    cases k with
    | zero =>
      rw [show (((0 : Nat) : Int) - 1) = -1 from rfl]
      have hr0 : Hid (r = false) := Lib.hid (by
        have := hq.out
        rw [bP_zero, Nat.div_one, Nat.div_one] at this
        rw [← hr.out, this]; simp)
      go_wp2_with fail
      go_ret
      exact ⟨ret_bool hr0.out.symm, hlZ.trans hl⟩
    | succ k =>
      rw [show (((k + 1 : Nat) : Int) - 1) = (k : Int) from by omega]
      have hk20 : k < 20 := by omega
      obtain ⟨a, ha⟩ : ∃ a, Hid (dig X k = a) := ⟨_, rfl⟩
      obtain ⟨b, hb⟩ : ∃ a, Hid (dig Y k = a) := ⟨_, rfl⟩
      have cA : wo.cell? ⟨W.heap.size, 1 + k, none⟩ = some (.int .u64 (a : Nat)) := by rw [← ha.out]; exact hl.cell (BigB.at1 kA hk20)
      have cB : wo.cell? ⟨W.heap.size + 1, 1 + k, none⟩ = some (.int .u64 (b : Nat)) := by rw [← hb.out]; exact hl.cell (BigB.at1 kB hk20)
      have hki : (k : Int) < 20 := by omega
      by_cases e : a = b
      · subst e
        have hq2 : Hid (X / bP k = Y / bP k) := Lib.hid (by rw [less_step X k, less_step Y k, hq.out, ha.out, hb.out])
        go_upto_region 4 with fail
        go_quiet (fail)
        go_wp2_with fail
        go_roundw
        case rel => exact ⟨k, by omega, by go_num, hq2, hl.drewN _⟩
        case measure => simp [intOf]
      · have hd : Hid (r = decide (a < b)) := Lib.hid (by
          rw [← hr.out, less_dec hq.out (by rw [ha.out, hb.out]; exact e), ha.out, hb.out])
        have hne : ((a : Int) == (b : Int)) = false := by simp; omega
        have hne2 : ¬ (a : Int) = (b : Int) := by omega
        go_upto_region 4 with fail
        go_quiet (fail)
        obtain ⟨w2, hw2⟩ : ∃ X, X = wo.drewN nq := ⟨_, rfl⟩
        have hl2 : Later wo w2 := by rw [hw2]; exact (Later.refl _).drewN _
        rw [← hw2]
        replace cA := hl2.cell cA
        replace cB := hl2.cell cB
        clear hw2
        go_upto_region 5 with fail
        go_quiet (fail)
        go_wp2_with fail
        go_ret
        exact ⟨ret_bool hd.out.symm, (hlZ.trans (hl.trans hl2)).drewN _⟩
theorem bigI_neg (z : Int) : bigI (-z) = bigV (!decide (z < 0) && !decide (z.natAbs = 0)) (dig z.natAbs) := by
  unfold bigI
  rw [Int.natAbs_neg]
  congr 1
  by_cases h : z < 0
  · rw [decide_eq_true h, decide_eq_false (by omega)]; rfl
  · rw [decide_eq_false h]
    by_cases h0 : z = 0
    · subst h0; rfl
    · rw [decide_eq_true (by omega), decide_eq_false (by omega)]; rfl
set_option maxRecDepth 100000 in
set_option maxHeartbeats 1000000 in
theorem bneg_any (z : Int) (W : World) (h : z.natAbs < bP 20) :
    Calls Tryd.prog 71 #[.agg (bigI z)] W fun e w' => e = .returned (.agg (bigI (-z))) ∧ Later W w' := by
  rw [bigI_neg]
  unfold bigI
  have hN := Lib.hid (fun (s : Bool) V => none_any s z.natAbs V h)
  obtain ⟨X, hX⟩ : ∃ X, Hid (z.natAbs = X) := ⟨_, rfl⟩
  obtain ⟨s, hs⟩ : ∃ s, Hid (decide (z < 0) = s) := ⟨_, rfl⟩
  rw [hX.out] at hN ⊢
  rw [hs.out]
  obtain ⟨n, hn⟩ : ∃ n, Hid (decide (X = 0) = n) := ⟨_, rfl⟩
  rw [hn.out] at hN ⊢
  clear hX hs hn h
  obtain ⟨b, hb⟩ : ∃ b, Hid (bigV s (dig X) = b) := ⟨_, rfl⟩
  rw [hb.out]
  obtain ⟨Z0, hZ0⟩ : ∃ Z, Z = (W.alloc (.cells b 105)).alloc (.cells #[.bool false, .int .u64 0, .int .u64 0, .int .u64 0, .int .u64 0, .int .u64 0, .int .u64 0, .int .u64 0, .int .u64 0, .int .u64 0, .int .u64 0, .int .u64 0, .int .u64 0, .int .u64 0, .int .u64 0, .int .u64 0, .int .u64 0, .int .u64 0, .int .u64 0, .int .u64 0, .int .u64 0] 105) := ⟨_, rfl⟩
  have hlZ : Later W Z0 := by rw [hZ0]; exact ((Later.refl W).alloc _).alloc _
  have kA : BigB Z0 W.heap.size s (dig X) := by unfold BigB; rw [hb.out, hZ0]; exact push_one (heap_alloc_new _ _) _
  have kR : BigB Z0 (W.heap.size + 1) false (dig 0) := by unfold BigB; rw [big_zero, hZ0]; exact push_new _ _ (by simp)
  obtain ⟨P, hP⟩ : ∃ n, Hid (W.heap.size = n) := ⟨_, rfl⟩
  obtain ⟨R, hR⟩ : ∃ n, Hid (P + 1 = n) := ⟨_, rfl⟩
  have hWP : W.heap.size ≤ P := Nat.le_of_eq hP.out
  have hPR : P < R := by have := hR.out; omega
  go_enter Tryd.func71, Tryd.ntmps71
  go_upto_region 1 with fail
  rw [← hZ0]
  clear hZ0 hb
  rw [hP.out] at kA kR ⊢
  rw [hR.out] at kR ⊢
  clear hP hR
  have cs := kA.sign
  have fs := kA.frozen 0
  cases s
  · go_wp2_with (refine wpList_load_roww rfl _ _ rfl P rfl _ _ (0, 0) _ kA Tryd.underlying105 rfl (size_big _ _) ?_)
    refine (hN.out _ _).mono ?_
    rintro e w2 ⟨rfl, h2⟩
    have kA2 := kA.later h2
    have kR2 := kR.later h2
    have cs2 := kA2.sign
    have fs2 := kA2.frozen 0
    have kA3 := kA2.setSign (!n)
    have kR3 : BigB (w2.setCell ⟨P, 0, none⟩ (.bool !n)) R false (dig 0) := (Below.heap_setCell _ _ _ R (by show R ≠ P; omega)).trans kR2
    have hl3 : Later W (w2.setCell ⟨P, 0, none⟩ (.bool !n)) := (hlZ.trans h2).setCell (by show W.heap.size ≤ P; omega) _
    go_upto_region 2 with fail
    obtain ⟨V, hV⟩ : ∃ V, V = w2.setCell ⟨P, 0, none⟩ (.bool !n) := ⟨_, rfl⟩
    rw [← hV] at kA3 kR3 hl3 ⊢
    clear hV cs cs2 fs fs2
    first | go_step3 | skip
    go_wp2_with (first | refine wpList_load_row rfl _ _ rfl P rfl _ _ (0, 0) _ kA3 Tryd.underlying105 rfl (size_big _ _) ?_ | refine wpList_store_row rfl 105 _ _ rfl R (bigV (!n) (dig X)) rfl rfl 105 (bigV false (dig 0)) kR3 (size_big _ _) (by rw [bigV_size, bigV_size]) (bigV_one _ _) ?_)
    exact bodyPost_ret (v := .agg (bigV (!n) (dig X))) (results_cell1 (a := 2) (t := 105) (by kernel_rfl) _ rfl (load_big (setRow_big kR3))) rfl ⟨rfl, hl3.setRow (by omega) _⟩
  · go_upto_region 2 with fail
    have kA3 := kA.setSign false
    have kR3 : BigB (Z0.setCell ⟨P, 0, none⟩ (.bool false)) R false (dig 0) := (Below.heap_setCell _ _ _ R (by show R ≠ P; omega)).trans kR
    have hl3 : Later W (Z0.setCell ⟨P, 0, none⟩ (.bool false)) := hlZ.setCell (by show W.heap.size ≤ P; omega) _
    obtain ⟨V, hV⟩ : ∃ V, V = Z0.setCell ⟨P, 0, none⟩ (.bool false) := ⟨_, rfl⟩
    rw [← hV] at kA3 kR3 hl3 ⊢
    clear hV cs fs
    first | go_step3 | skip
    go_wp2_with (first | refine wpList_load_row rfl _ _ rfl P rfl _ _ (0, 0) _ kA3 Tryd.underlying105 rfl (size_big _ _) ?_ | refine wpList_store_row rfl 105 _ _ rfl R (bigV false (dig X)) rfl rfl 105 (bigV false (dig 0)) kR3 (size_big _ _) (by rw [bigV_size, bigV_size]) (bigV_one _ _) ?_)
    exact bodyPost_ret (v := .agg (bigV false (dig X))) (results_cell1 (a := 2) (t := 105) (by kernel_rfl) _ rfl (load_big (setRow_big kR3))) rfl ⟨by simp, hl3.setRow (by omega) _⟩
end Go.Proofs.YtackbajbladhhaaDoor
