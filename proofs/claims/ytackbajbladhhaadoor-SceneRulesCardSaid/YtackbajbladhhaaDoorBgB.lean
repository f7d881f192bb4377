/-
  Numbers of 320 bits: which is less, sums and differences of sizes.
-/
import Derived.BigQuiet
import Derived.Test.YtackbajbladhhaaDoorBgA
import Derived.Test.YtackbajbladhhaaDoorMxD
namespace Go.Proofs.YtackbajbladhhaaDoor
open Go.RowKit Go.Shelf
set_option linter.unusedVariables false
set_option linter.unusedSimpArgs false
attribute [local go_sem] Oper.semAt_some
attribute [-simp] Tryd.sizeOf105 Tryd.typeInfo105

theorem wpList_load_roww {P : Program} {ops : Array Oper} {rest : List Oper} {o : Oper} {a : Act} {w : World} {Q : Exit → Act → World → Prop} (hgd : Region.wanted o (yielded ops a.tmps) = true) (ty : TypeId) (x : Operand) (ho : o.op = .load ty x)
    (g : Nat) (hx : a.eval x = .pointer (some ⟨g, 0, none⟩)) (t : TypeId) (cs : Array Value) (fr : Nat × Nat) (d : TypeDesc) (hg : w.heap[g]? = some (.cells cs t fr))
    (hu : P.underlying ty = some d) (hd : (match d with | .struct _ | .array _ _ => true | _ => false) = true) (hi : (P.info? ty).map (·.size) = some cs.size)
    (h : wpList P ops Q rest (a.put o.dst (.agg cs)) w) : wpList P ops Q (o :: rest) a w := by
  unfold wpList
  rw [if_pos hgd]
  exact .inl (wp_load_row ty x ho g hx t cs fr d hg hu hd hi h)
theorem rangeAt_latr {w w' : World} {b o : Nat} {cs : List Value} (h : w.rangeAt b o cs) (hl : Later w w') : w'.rangeAt b o cs := fun j v hv => hl.cell (h j v hv)
theorem row_rang {W : World} {P : Nat} {L : List Value} {t : TypeId} {fr : Nat × Nat} (h : W.heap[P]? = some (.cells L.toArray t fr)) : W.rangeAt P 0 L := fun j v hv => by
  rw [Nat.zero_add]
  exact (cell_of_row W P j _ _ _ h).trans (by simpa using hv)
theorem store_roww {R : Nat} {t : TypeId} {arr z : Array Value} {Z : World} (h : Z.heap[R]? = some (.cells z t (0, 0))) (hs : z.size = arr.size) (ho : arr.all (·.oneCell') = true) :
    (storeCells ⟨R, 0, none⟩ arr.toList).run Tryd.prog Z = .ok () (Z.setRow R arr) := by
  have := run_storeCells_from (P := Tryd.prog) R t arr.toList 0 z Z h (by simp [hs]) (fun v hv => (Array.all_eq_true_iff_forall_mem.1 ho) v (by simpa using hv))
  simpa using this
theorem dig_put {D v k : Nat} (hD : D < bP k) (hv : v < 65536) (j : Nat) : (if j = k then v else dig D j) = dig (D + v * bP k) j := by
  by_cases e : j = k
  · subst e
    rw [if_pos rfl]
    unfold dig
    rw [Nat.add_mul_div_right _ _ (bP_pos _), Nat.div_eq_of_lt hD, Nat.zero_add, Nat.mod_eq_of_lt hv]
  · rw [if_neg e]
    by_cases h : j < k
    · rw [dig_add_mul _ _ h]
    · have h1 : D < bP j := Nat.lt_of_lt_of_le hD (bP_mono (by omega))
      have h2 : D + v * bP k < bP (k + 1) := by
        have : v * bP k ≤ 65535 * bP k := Nat.mul_le_mul_right _ (by omega)
        rw [bP_succ]; omega
      rw [dig_zero h1, dig_zero (Nat.lt_of_lt_of_le h2 (bP_mono (by omega)))]
theorem bigV_dig0 (s : Bool) : bigV s (fun _ => 0) = bigV s (dig 0) := bigV_ext (fun k _ => (dig_zero_i k).symm)
theorem big_zero : bigV false (dig 0) = #[.bool false, .int .u64 0, .int .u64 0, .int .u64 0, .int .u64 0, .int .u64 0, .int .u64 0, .int .u64 0, .int .u64 0, .int .u64 0, .int .u64 0, .int .u64 0, .int .u64 0, .int .u64 0, .int .u64 0, .int .u64 0, .int .u64 0, .int .u64 0, .int .u64 0, .int .u64 0, .int .u64 0] := by rw [← bigV_dig0]; rfl
theorem info_big : (Tryd.prog.info? 105).map (·.size) = some 21 := by kernel_rfl
theorem size_big (s : Bool) (f : Nat → Nat) : (Tryd.prog.info? 105).map (·.size) = some (bigV s f).size := by rw [bigV_size]; exact info_big
theorem bigV_one (s : Bool) (f : Nat → Nat) : (bigV s f).all (·.oneCell') = true := by
  rw [Array.all_eq_true]
  intro i hi
  rw [bigV_size] at hi
  cases i with
  | zero =>
    have := bigV_sign s f
    rw [Array.getElem?_eq_getElem (by rw [bigV_size]; omega)] at this
    injection this with this
    rw [this]; rfl
  | succ i =>
    have := bigV_get s f (k := i) (by omega)
    rw [Array.getElem?_eq_getElem (by rw [bigV_size]; omega)] at this
    injection this with this
    rw [this]; rfl
set_option maxRecDepth 100000 in
theorem load_big {W : World} {M : Nat} {s : Bool} {f : Nat → Nat} (h : BigB W M s f) : (loadVar 105 ⟨M, 0, none⟩).run Tryd.prog W = .ok (.agg (bigV s f)) W :=
  run_loadVar_row W M _ _ _ _ _ h Tryd.underlying105 rfl (size_big s f)
theorem BigB.at1 {W : World} {M : Nat} {s : Bool} {f : Nat → Nat} (h : BigB W M s f) {k : Nat} (hk : k < 20) : W.cell? ⟨M, 1 + k, none⟩ = some (.int .u64 (f k : Nat)) := by
  rw [Nat.add_comm]; exact h.cell hk
theorem BigB.set1 {W : World} {M : Nat} {s : Bool} {f : Nat → Nat} (h : BigB W M s f) {k : Nat} (hk : k < 20) (v : Nat) : BigB (W.setCell ⟨M, 1 + k, none⟩ (.int .u64 (v : Nat))) M s (fun j => if j = k then v else f j) := by
  rw [Nat.add_comm]; exact h.set hk v
/-- All blocks but one lie as they lay. -/
structure Keeps4 (W W' : World) (T : Nat) : Prop where
  size : W.heap.size ≤ W'.heap.size
  block : ∀ k, k < W.heap.size → k ≠ T → W'.heap[k]? = W.heap[k]?
  os : W'.os = W.os
  tape : W'.tape = W.tape
  output : W'.output = W.output
theorem Keeps4.refl (W : World) (T : Nat) : Keeps4 W W T := ⟨Nat.le_refl _, fun _ _ _ => rfl, rfl, rfl, rfl⟩
theorem Keeps4.trans {A B C : World} {T : Nat} (h : Keeps4 A B T) (k : Keeps4 B C T) : Keeps4 A C T :=
  ⟨Nat.le_trans h.size k.size, fun i hi hne => (k.block i (Nat.lt_of_lt_of_le hi h.size) hne).trans (h.block i hi hne), k.os.trans h.os, k.tape.trans h.tape, k.output.trans h.output⟩
theorem Keeps4.later {A B : World} {T : Nat} (h : Later A B) (hT : T < A.heap.size) : Keeps4 A B T := ⟨h.size, fun i hi _ => h.block i hi, h.os, h.tape, h.output⟩
theorem Keeps4.keep {A B : World} {T M : Nat} {s : Bool} {f : Nat → Nat} (h : Keeps4 A B T) (hne : M ≠ T) (hb : BigB A M s f) : BigB B M s f := (h.block M hb.lt hne).trans hb
theorem Keeps4.set (W : World) (T o : Nat) (v : Value) : Keeps4 W (W.setCell ⟨T, o, none⟩ v) T := ⟨by simp, fun k _ hne => Below.heap_setCell _ _ _ k hne, rfl, rfl, rfl⟩
theorem Keeps4.to_later {W A B : World} {T : Nat} (h : Keeps4 A B T) (hl : Later W A) (hT : W.heap.size ≤ T) : Later W B :=
  ⟨h.os.trans hl.os, h.tape.trans hl.tape, h.output.trans hl.output, Nat.le_trans hl.size h.size, fun k hk => (h.block k (Nat.lt_of_lt_of_le hk hl.size) (by omega)).trans (hl.block k hk)⟩
theorem mod_next (X k : Nat) : X % bP (k + 1) = X % bP k + dig X k * bP k := by
  unfold dig; rw [bP_succ, Nat.mod_mul, Nat.mul_comm (bP k)]
theorem more_step {X Y D k a b cc : Nat} (hD : D + cc * bP k = X % bP k + Y % bP k) (ha : dig X k = a) (hb : dig Y k = b) :
    D + (a + b + cc) % 65536 * bP k + (a + b + cc) / 65536 * bP (k + 1) = X % bP (k + 1) + Y % bP (k + 1) := by
  have h1 := Nat.div_add_mod (a + b + cc) 65536
  rw [mod_next, mod_next, ha, hb, bP_succ]
  have h2 : (a + b + cc) / 65536 * (bP k * 65536) + (a + b + cc) % 65536 * bP k = (a + b + cc) * bP k := by
    conv => rhs; rw [← h1]
    rw [Nat.add_mul]
    congr 1
    rw [Nat.mul_comm (bP k) 65536, ← Nat.mul_assoc, Nat.mul_comm _ 65536]
  have h3 : (a + b + cc) * bP k = a * bP k + b * bP k + cc * bP k := by rw [Nat.add_mul, Nat.add_mul]
  omega
theorem setRow_big {W : World} {R : Nat} {s s' : Bool} {f f' : Nat → Nat} {cs : Array Value} (h : BigB W R s f) (hc : cs = bigV s' f' := by rfl) : BigB (W.setRow R cs) R s' f' := by
  subst hc; exact setRow_heap _ _ _ _ _ _ h
set_option maxRecDepth 100000 in
set_option maxHeartbeats 2000000 in
theorem more_any (sx sy : Bool) (X Y : Nat) (W : World) (h : X + Y < bP 20) :
    Calls Tryd.prog 68 #[.agg (bigV sx (dig X)), .agg (bigV sy (dig Y))] W fun e w' => e = .returned (.agg (bigV false (dig (X + Y)))) ∧ Later W w' := by
  obtain ⟨bx, hbx⟩ : ∃ b, Hid (bigV sx (dig X) = b) := ⟨_, rfl⟩
  obtain ⟨by', hby⟩ : ∃ b, Hid (bigV sy (dig Y) = b) := ⟨_, rfl⟩
  rw [hbx.out, hby.out]
  go_enter Tryd.func68, Tryd.ntmps68
  go_upto_region 2 with fail
  obtain ⟨Z0, hZ0⟩ : ∃ Z, Z = (((W.alloc (.cells bx 105)).alloc (.cells by' 105)).alloc (.cells #[.bool false, .int .u64 0, .int .u64 0, .int .u64 0, .int .u64 0, .int .u64 0, .int .u64 0, .int .u64 0, .int .u64 0, .int .u64 0, .int .u64 0, .int .u64 0, .int .u64 0, .int .u64 0, .int .u64 0, .int .u64 0, .int .u64 0, .int .u64 0, .int .u64 0, .int .u64 0, .int .u64 0] 105)).alloc (.cells #[.bool false, .int .u64 0, .int .u64 0, .int .u64 0, .int .u64 0, .int .u64 0, .int .u64 0, .int .u64 0, .int .u64 0, .int .u64 0, .int .u64 0, .int .u64 0, .int .u64 0, .int .u64 0, .int .u64 0, .int .u64 0, .int .u64 0, .int .u64 0, .int .u64 0, .int .u64 0, .int .u64 0] 105) := ⟨_, rfl⟩
  have hlZ : Later W Z0 := by rw [hZ0]; exact ((((Later.refl W).alloc _).alloc _).alloc _).alloc _
  have kA : BigB Z0 W.heap.size sx (dig X) := by unfold BigB; rw [hbx.out, hZ0]; exact push_one (push_one (push_one (heap_alloc_new _ _) _) _) _
  have kB : BigB Z0 (W.heap.size + 1) sy (dig Y) := by unfold BigB; rw [hby.out, hZ0]; exact push_one (push_one (push_new _ _ (by simp)) _) _
  have kR : BigB Z0 (W.heap.size + 1 + 1) false (dig 0) := by unfold BigB; rw [big_zero, hZ0]; exact push_one (push_new _ _ (by simp)) _
  have kT : BigB Z0 (W.heap.size + 1 + 1 + 1) false (dig 0) := by unfold BigB; rw [big_zero, hZ0]; exact push_new _ _ (by simp)
  rw [← hZ0]
  clear hZ0 hbx hby
  obtain ⟨P, hP⟩ : ∃ n, Hid (W.heap.size = n) := ⟨_, rfl⟩
  obtain ⟨Q, hQ⟩ : ∃ n, Hid (P + 1 = n) := ⟨_, rfl⟩
  obtain ⟨R, hR⟩ : ∃ n, Hid (Q + 1 = n) := ⟨_, rfl⟩
  obtain ⟨T, hT⟩ : ∃ n, Hid (R + 1 = n) := ⟨_, rfl⟩
  have hWP : W.heap.size ≤ P := Nat.le_of_eq hP.out
  have hPQ : P < Q := by have := hQ.out; omega
  have hQR : Q < R := by have := hR.out; omega
  have hRT : R < T := by have := hT.out; omega
  rw [hP.out] at kA kB kR kT ⊢
  rw [hQ.out] at kB kR kT ⊢
  rw [hR.out] at kR kT ⊢
  rw [hT.out] at kT ⊢
  clear hP hQ hR hT
  go_wp2_with fail
  go_loopw [7, 6] (fun y c wr => ∃ k cc D : Nat, k ≤ 20 ∧ y = .int .i64 k ∧ c = .int .u64 cc ∧ cc ≤ 1 ∧ D + cc * bP k = X % bP k + Y % bP k ∧ D < bP k ∧ BigB wr T false (dig D) ∧ Keeps4 Z0 wr T) (fun y _ _ => (300 - intOf y).toNat)
  case atStart => exact ⟨0, 0, 0, by omega, rfl, rfl, by omega, by rw [bP_zero, Nat.mod_one, Nat.mod_one], bP_pos 0, kT, Keeps4.refl _ _⟩
  case round =>
    obtain ⟨k, cc, D, hk, rfl, rfl, hcc, hD, hDl, kTr, hkp⟩ := hrel
    obtain ⟨wo, rfl⟩ : ∃ wo : World, wo = wr := ⟨_, rfl⟩
    by_cases hk20 : k < 20
    · obtain ⟨a, ha⟩ : ∃ a, Hid (dig X k = a) := ⟨_, rfl⟩
      obtain ⟨b, hb⟩ : ∃ a, Hid (dig Y k = a) := ⟨_, rfl⟩
      have ha6 : a < 65536 := by rw [← ha.out]; exact dig_lt _ _
      have hb6 : b < 65536 := by rw [← hb.out]; exact dig_lt _ _
      have cA : wo.cell? ⟨P, 1 + k, none⟩ = some (.int .u64 (a : Nat)) := by rw [← ha.out]; exact BigB.at1 (hkp.keep (by omega) kA) hk20
      have cB : wo.cell? ⟨Q, 1 + k, none⟩ = some (.int .u64 (b : Nat)) := by rw [← hb.out]; exact BigB.at1 (hkp.keep (by omega) kB) hk20
      have hki : (k : Int) < 20 := by omega
      go_upto_region 6 with fail
      go_quiet (fail)
      obtain ⟨w2, hw2⟩ : ∃ X, X = wo.drewN nq := ⟨_, rfl⟩
      have hl2 : Later wo w2 := by rw [hw2]; exact (Later.refl _).drewN _
      rw [← hw2]
      have kTd := BigB.later kTr hl2
      have hkd := hkp.trans (Keeps4.later hl2 kTr.lt)
      have cT := BigB.at1 kTd hk20
      have fT := BigB.frozen kTd (1 + k)
      clear hw2 cA cB
      go_wp2_with fail
      go_roundw
      case rel =>
        have hq : ((a : Int) + b + cc) / 65536 = (((a + b + cc) / 65536 : Nat) : Int) := by omega
        have hm : ((a : Int) + b + cc) % 65536 = (((a + b + cc) % 65536 : Nat) : Int) := by omega
        rw [hq, hm]
        refine ⟨k + 1, (a + b + cc) / 65536, D + ((a + b + cc) % 65536) * bP k, by omega, by go_num, rfl, by omega, ?_, ?_, ?_, hkd.trans (Keeps4.set _ _ _ _)⟩
        · exact more_step hD ha.out hb.out
        · have h1 : (a + b + cc) % 65536 * bP k ≤ 65535 * bP k := Nat.mul_le_mul_right _ (by omega)
          rw [bP_succ]; omega
        · exact BigB.ext (BigB.set1 kTd hk20 _) (fun j _ => dig_put hDl (Nat.mod_lt _ (by omega)) j)
      case measure => simp [intOf]; omega
    · obtain rfl : k = 20 := by omega
      have kRr := hkp.keep (by omega) kR
      go_wp2_with (first | refine wpList_load_row rfl _ _ rfl T rfl _ _ (0, 0) _ kTr Tryd.underlying105 rfl (size_big _ _) ?_ | refine wpList_store_row rfl 105 _ _ rfl R (bigV false (dig D)) rfl rfl 105 (bigV false (dig 0)) kRr (size_big _ _) (by rw [bigV_size, bigV_size]) (bigV_one _ _) ?_)
      rw [Nat.mod_eq_of_lt (show X < bP 20 by omega), Nat.mod_eq_of_lt (show Y < bP 20 by omega)] at hD
      obtain rfl : cc = 0 := by
        by_cases e : cc = 0
        · exact e
        · obtain rfl : cc = 1 := by omega
          omega
      obtain rfl : D = X + Y := by omega
      have kZ := setRow_big (cs := bigV false (dig (X + Y))) kRr
      exact bodyPost_ret (v := .agg (bigV false (dig (X + Y)))) (results_cell1 (a := 4) (t := 105) (by kernel_rfl) _ rfl (load_big kZ)) rfl ⟨rfl, (hkp.to_later hlZ (by omega)).setRow (by omega) _⟩
theorem away_step {X Y D k a b cc : Nat} (hD : D + Y % bP k = X % bP k + cc * bP k) (ha : dig X k = a) (hb : dig Y k = b) (h : a < 65536 ∧ b < 65536 ∧ cc ≤ 1) :
    D + (a + 65536 - b - cc) % 65536 * bP k + Y % bP (k + 1) = X % bP (k + 1) + (1 - (a + 65536 - b - cc) / 65536) * bP (k + 1) := by
  rw [mod_next, mod_next, ha, hb, bP_succ]
  obtain ⟨r, hr⟩ : ∃ r, (a + 65536 - b - cc) % 65536 = r := ⟨_, rfl⟩
  obtain ⟨q, hq⟩ : ∃ q, 1 - (a + 65536 - b - cc) / 65536 = q := ⟨_, rfl⟩
  rw [hr, hq]
  have h1 : cc + r + b = a + 65536 * q := by omega
  have h2 : (cc + r + b) * bP k = (a + 65536 * q) * bP k := by rw [h1]
  rw [Nat.add_mul, Nat.add_mul, Nat.add_mul] at h2
  have h3 : 65536 * q * bP k = q * (bP k * 65536) := by rw [Nat.mul_comm 65536 q, Nat.mul_assoc, Nat.mul_comm 65536]
  omega
set_option maxRecDepth 100000 in
set_option maxHeartbeats 2000000 in
theorem away_any (sx sy : Bool) (X Y : Nat) (W : World) (hY : Y ≤ X) (h : X < bP 20) :
    Calls Tryd.prog 70 #[.agg (bigV sx (dig X)), .agg (bigV sy (dig Y))] W fun e w' => e = .returned (.agg (bigV false (dig (X - Y)))) ∧ Later W w' := by
  obtain ⟨bx, hbx⟩ : ∃ b, Hid (bigV sx (dig X) = b) := ⟨_, rfl⟩
  obtain ⟨by', hby⟩ : ∃ b, Hid (bigV sy (dig Y) = b) := ⟨_, rfl⟩
  rw [hbx.out, hby.out]
  go_enter Tryd.func70, Tryd.ntmps70
  go_upto_region 2 with fail
  obtain ⟨Z0, hZ0⟩ : ∃ Z, Z = (((W.alloc (.cells bx 105)).alloc (.cells by' 105)).alloc (.cells #[.bool false, .int .u64 0, .int .u64 0, .int .u64 0, .int .u64 0, .int .u64 0, .int .u64 0, .int .u64 0, .int .u64 0, .int .u64 0, .int .u64 0, .int .u64 0, .int .u64 0, .int .u64 0, .int .u64 0, .int .u64 0, .int .u64 0, .int .u64 0, .int .u64 0, .int .u64 0, .int .u64 0] 105)).alloc (.cells #[.bool false, .int .u64 0, .int .u64 0, .int .u64 0, .int .u64 0, .int .u64 0, .int .u64 0, .int .u64 0, .int .u64 0, .int .u64 0, .int .u64 0, .int .u64 0, .int .u64 0, .int .u64 0, .int .u64 0, .int .u64 0, .int .u64 0, .int .u64 0, .int .u64 0, .int .u64 0, .int .u64 0] 105) := ⟨_, rfl⟩
  have hlZ : Later W Z0 := by rw [hZ0]; exact ((((Later.refl W).alloc _).alloc _).alloc _).alloc _
  have kA : BigB Z0 W.heap.size sx (dig X) := by unfold BigB; rw [hbx.out, hZ0]; exact push_one (push_one (push_one (heap_alloc_new _ _) _) _) _
  have kB : BigB Z0 (W.heap.size + 1) sy (dig Y) := by unfold BigB; rw [hby.out, hZ0]; exact push_one (push_one (push_new _ _ (by simp)) _) _
  have kR : BigB Z0 (W.heap.size + 1 + 1) false (dig 0) := by unfold BigB; rw [big_zero, hZ0]; exact push_one (push_new _ _ (by simp)) _
  have kT : BigB Z0 (W.heap.size + 1 + 1 + 1) false (dig 0) := by unfold BigB; rw [big_zero, hZ0]; exact push_new _ _ (by simp)
  rw [← hZ0]
  clear hZ0 hbx hby
  obtain ⟨P, hP⟩ : ∃ n, Hid (W.heap.size = n) := ⟨_, rfl⟩
  obtain ⟨Q, hQ⟩ : ∃ n, Hid (P + 1 = n) := ⟨_, rfl⟩
  obtain ⟨R, hR⟩ : ∃ n, Hid (Q + 1 = n) := ⟨_, rfl⟩
  obtain ⟨T, hT⟩ : ∃ n, Hid (R + 1 = n) := ⟨_, rfl⟩
  have hWP : W.heap.size ≤ P := Nat.le_of_eq hP.out
  have hPQ : P < Q := by have := hQ.out; omega
  have hQR : Q < R := by have := hR.out; omega
  have hRT : R < T := by have := hT.out; omega
  rw [hP.out] at kA kB kR kT ⊢
  rw [hQ.out] at kB kR kT ⊢
  rw [hR.out] at kR kT ⊢
  rw [hT.out] at kT ⊢
  clear hP hQ hR hT
  go_wp2_with fail
  go_loopw [7, 6] (fun y c wr => ∃ k cc D : Nat, k ≤ 20 ∧ y = .int .i64 k ∧ c = .int .u64 cc ∧ cc ≤ 1 ∧ D + Y % bP k = X % bP k + cc * bP k ∧ D < bP k ∧ BigB wr T false (dig D) ∧ Keeps4 Z0 wr T) (fun y _ _ => (300 - intOf y).toNat)
  case atStart => exact ⟨0, 0, 0, by omega, rfl, rfl, by omega, by rw [bP_zero, Nat.mod_one, Nat.mod_one, Nat.zero_mul], bP_pos 0, kT, Keeps4.refl _ _⟩
  case round =>
    obtain ⟨k, cc, D, hk, rfl, rfl, hcc, hD, hDl, kTr, hkp⟩ := hrel
    obtain ⟨wo, rfl⟩ : ∃ wo : World, wo = wr := ⟨_, rfl⟩
    by_cases hk20 : k < 20
    · obtain ⟨a, ha⟩ : ∃ a, Hid (dig X k = a) := ⟨_, rfl⟩
      obtain ⟨b, hb⟩ : ∃ a, Hid (dig Y k = a) := ⟨_, rfl⟩
      have ha6 : a < 65536 := by rw [← ha.out]; exact dig_lt _ _
      have hb6 : b < 65536 := by rw [← hb.out]; exact dig_lt _ _
      have cA : wo.cell? ⟨P, 1 + k, none⟩ = some (.int .u64 (a : Nat)) := by rw [← ha.out]; exact BigB.at1 (hkp.keep (by omega) kA) hk20
      have cB : wo.cell? ⟨Q, 1 + k, none⟩ = some (.int .u64 (b : Nat)) := by rw [← hb.out]; exact BigB.at1 (hkp.keep (by omega) kB) hk20
      have hki : (k : Int) < 20 := by omega
      go_upto_region 6 with fail
      go_quiet (fail)
      obtain ⟨w2, hw2⟩ : ∃ X, X = wo.drewN nq := ⟨_, rfl⟩
      have hl2 : Later wo w2 := by rw [hw2]; exact (Later.refl _).drewN _
      rw [← hw2]
      have kTd := BigB.later kTr hl2
      have hkd := hkp.trans (Keeps4.later hl2 kTr.lt)
      have cT := BigB.at1 kTd hk20
      have fT := BigB.frozen kTd (1 + k)
      clear hw2 cA cB
      go_wp2_with fail
      go_roundw
      case rel =>
        have hq : 1 - ((a : Int) + 65536 - b - cc) / 65536 = ((1 - (a + 65536 - b - cc) / 65536 : Nat) : Int) := by omega
        have hm : ((a : Int) + 65536 - b - cc) % 65536 = (((a + 65536 - b - cc) % 65536 : Nat) : Int) := by omega
        rw [hq, hm]
        refine ⟨k + 1, 1 - (a + 65536 - b - cc) / 65536, D + ((a + 65536 - b - cc) % 65536) * bP k, by omega, by go_num, rfl, by omega, ?_, ?_, ?_, hkd.trans (Keeps4.set _ _ _ _)⟩
        · exact away_step hD ha.out hb.out (by omega)
        · have h1 : (a + 65536 - b - cc) % 65536 * bP k ≤ 65535 * bP k := Nat.mul_le_mul_right _ (by omega)
          rw [bP_succ]; omega
        · exact BigB.ext (BigB.set1 kTd hk20 _) (fun j _ => dig_put hDl (Nat.mod_lt _ (by omega)) j)
      case measure => simp [intOf]; omega
    · obtain rfl : k = 20 := by omega
      have kRr := hkp.keep (by omega) kR
      go_wp2_with (first | refine wpList_load_row rfl _ _ rfl T rfl _ _ (0, 0) _ kTr Tryd.underlying105 rfl (size_big _ _) ?_ | refine wpList_store_row rfl 105 _ _ rfl R (bigV false (dig D)) rfl rfl 105 (bigV false (dig 0)) kRr (size_big _ _) (by rw [bigV_size, bigV_size]) (bigV_one _ _) ?_)
      rw [Nat.mod_eq_of_lt (show X < bP 20 by omega), Nat.mod_eq_of_lt (show Y < bP 20 by omega)] at hD
      obtain rfl : cc = 0 := by
        by_cases e : cc = 0
        · exact e
        · obtain rfl : cc = 1 := by omega
          omega
      obtain rfl : D = X - Y := by omega
      have kZ := setRow_big (cs := bigV false (dig (X - Y))) kRr
      exact bodyPost_ret (v := .agg (bigV false (dig (X - Y)))) (results_cell1 (a := 4) (t := 105) (by kernel_rfl) _ rfl (load_big kZ)) rfl ⟨rfl, (hkp.to_later hlZ (by omega)).setRow (by omega) _⟩
end Go.Proofs.YtackbajbladhhaaDoor
