/-
  Numbers of 320 bits: which is less, sums and differences of sizes.
  Numbers of 320 bits: which is less, which is none; the other sign.
-/
import Derived.BigQuiet
import Derived.Test.YtackbajbladhhaaBgA
import Derived.Test.YtackbajbladhhaaMxD
namespace Go.Proofs.Ytackbajbladhhaa
open Go.RowKit Go.Shelf
set_option linter.unusedVariables false
set_option linter.unusedSimpArgs false
attribute [local go_sem] Oper.semAt_some
attribute [-simp] Try.sizeOf167 Try.typeInfo167

theorem wpList_load_roww {P : Program} {ops : Array Oper} {rest : List Oper} {o : Oper} {a : Act} {w : World} {Q : Exit → Act → World → Prop} (hgd : Region.wanted o (yielded ops a.tmps) = true) (ty : TypeId) (x : Operand) (ho : o.op = .load ty x)
    (g : Nat) (hx : a.eval x = .pointer (some ⟨g, 0, none⟩)) (t : TypeId) (cs : Array Value) (fr : Nat × Nat) (d : TypeDesc) (hg : w.heap[g]? = some (.cells cs t fr))
    (hu : P.underlying ty = some d) (hd : (match d with | .struct _ | .array _ _ => true | _ => false) = true) (hi : (P.info? ty).map (·.size) = some cs.size)
    (h : wpList P ops Q rest (a.put o.dst (.agg cs)) w) : wpList P ops Q (o :: rest) a w := by
  unfold wpList
  rw [if_pos hgd]
  exact .inl (wp_load_row ty x ho g hx t cs fr d hg hu hd hi h)
theorem rangeAt_latr {w w' : World} {b o : Nat} {cs : List Value} (h : w.rangeAt b o cs) (hl : Later w w') : w'.rangeAt b o cs := fun j v hv => hl.cell (h j v hv)
theorem row_rang {W : World} {P : Nat} {L : List Value} {t : TypeId} {fr : Nat × Nat} (h : W.heap[P]? = some (.cells L.toArray t fr)) : W.rangeAt P 0 L := fun j v hv => by
  rw [Nat.zero_add]
  exact (cell_of_row W P j _ _ _ h).trans (by simpa using hv)
theorem store_roww {R : Nat} {t : TypeId} {arr z : Array Value} {Z : World} (h : Z.heap[R]? = some (.cells z t (0, 0))) (hs : z.size = arr.size) (ho : arr.all (·.oneCell') = true) :
    (storeCells ⟨R, 0, none⟩ arr.toList).run Try.prog Z = .ok () (Z.setRow R arr) := by
  have := run_storeCells_from (P := Try.prog) R t arr.toList 0 z Z h (by simp [hs]) (fun v hv => (Array.all_eq_true_iff_forall_mem.1 ho) v (by simpa using hv))
  simpa using this
theorem dig_put {D v k : Nat} (hD : D < bP k) (hv : v < 65536) (j : Nat) : (if j = k then v else dig D j) = dig (D + v * bP k) j := by
  by_cases e : j = k
  · subst e
    rw [if_pos rfl]
    unfold dig
    rw [Nat.add_mul_div_right _ _ (bP_pos _), Nat.div_eq_of_lt hD, Nat.zero_add, Nat.mod_eq_of_lt hv]
  · rw [if_neg e]
    by_cases h : j < k
    · rw [dig_add_mul _ _ h]
    · have h1 : D < bP j := Nat.lt_of_lt_of_le hD (bP_mono (by omega))
      have h2 : D + v * bP k < bP (k + 1) := by
        have : v * bP k ≤ 65535 * bP k := Nat.mul_le_mul_right _ (by omega)
        rw [bP_succ]; omega
      rw [dig_zero h1, dig_zero (Nat.lt_of_lt_of_le h2 (bP_mono (by omega)))]
theorem bigV_dig0 (s : Bool) : bigV s (fun _ => 0) = bigV s (dig 0) := bigV_ext (fun k _ => (dig_zero_i k).symm)
theorem big_zero : bigV false (dig 0) = #[.bool false, .int .u64 0, .int .u64 0, .int .u64 0, .int .u64 0, .int .u64 0, .int .u64 0, .int .u64 0, .int .u64 0, .int .u64 0, .int .u64 0, .int .u64 0, .int .u64 0, .int .u64 0, .int .u64 0, .int .u64 0, .int .u64 0, .int .u64 0, .int .u64 0, .int .u64 0, .int .u64 0] := by rw [← bigV_dig0]; rfl
theorem info_big : (Try.prog.info? 167).map (·.size) = some 21 := by kernel_rfl
theorem size_big (s : Bool) (f : Nat → Nat) : (Try.prog.info? 167).map (·.size) = some (bigV s f).size := by rw [bigV_size]; exact info_big
theorem bigV_one (s : Bool) (f : Nat → Nat) : (bigV s f).all (·.oneCell') = true := by
  rw [Array.all_eq_true]
  intro i hi
  rw [bigV_size] at hi
  cases i with
  | zero =>
    have := bigV_sign s f
    rw [Array.getElem?_eq_getElem (by rw [bigV_size]; omega)] at this
    injection this with this
    rw [this]; rfl
  | succ i =>
    have := bigV_get s f (k := i) (by omega)
    rw [Array.getElem?_eq_getElem (by rw [bigV_size]; omega)] at this
    injection this with this
    rw [this]; rfl
set_option maxRecDepth 100000 in
theorem load_big {W : World} {M : Nat} {s : Bool} {f : Nat → Nat} (h : BigB W M s f) : (loadVar 167 ⟨M, 0, none⟩).run Try.prog W = .ok (.agg (bigV s f)) W :=
  run_loadVar_row W M _ _ _ _ _ h Try.underlying167 rfl (size_big s f)
theorem BigB.at1 {W : World} {M : Nat} {s : Bool} {f : Nat → Nat} (h : BigB W M s f) {k : Nat} (hk : k < 20) : W.cell? ⟨M, 1 + k, none⟩ = some (.int .u64 (f k : Nat)) := by
  rw [Nat.add_comm]; exact h.cell hk
theorem BigB.set1 {W : World} {M : Nat} {s : Bool} {f : Nat → Nat} (h : BigB W M s f) {k : Nat} (hk : k < 20) (v : Nat) : BigB (W.setCell ⟨M, 1 + k, none⟩ (.int .u64 (v : Nat))) M s (fun j => if j = k then v else f j) := by
  rw [Nat.add_comm]; exact h.set hk v
/-- All blocks but one lie as they lay. -/
structure Keeps4 (W W' : World) (T : Nat) : Prop where
  size : W.heap.size ≤ W'.heap.size
  block : ∀ k, k < W.heap.size → k ≠ T → W'.heap[k]? = W.heap[k]?
  os : W'.os = W.os
  tape : W'.tape = W.tape
  output : W'.output = W.output
theorem Keeps4.refl (W : World) (T : Nat) : Keeps4 W W T := ⟨Nat.le_refl _, fun _ _ _ => rfl, rfl, rfl, rfl⟩
theorem Keeps4.trans {A B C : World} {T : Nat} (h : Keeps4 A B T) (k : Keeps4 B C T) : Keeps4 A C T :=
  ⟨Nat.le_trans h.size k.size, fun i hi hne => (k.block i (Nat.lt_of_lt_of_le hi h.size) hne).trans (h.block i hi hne), k.os.trans h.os, k.tape.trans h.tape, k.output.trans h.output⟩
theorem Keeps4.later {A B : World} {T : Nat} (h : Later A B) (hT : T < A.heap.size) : Keeps4 A B T := ⟨h.size, fun i hi _ => h.block i hi, h.os, h.tape, h.output⟩
theorem Keeps4.keep {A B : World} {T M : Nat} {s : Bool} {f : Nat → Nat} (h : Keeps4 A B T) (hne : M ≠ T) (hb : BigB A M s f) : BigB B M s f := (h.block M hb.lt hne).trans hb
theorem Keeps4.set (W : World) (T o : Nat) (v : Value) : Keeps4 W (W.setCell ⟨T, o, none⟩ v) T := ⟨by simp, fun k _ hne => Below.heap_setCell _ _ _ k hne, rfl, rfl, rfl⟩
theorem Keeps4.to_later {W A B : World} {T : Nat} (h : Keeps4 A B T) (hl : Later W A) (hT : W.heap.size ≤ T) : Later W B :=
  ⟨h.os.trans hl.os, h.tape.trans hl.tape, h.output.trans hl.output, Nat.le_trans hl.size h.size, fun k hk => (h.block k (Nat.lt_of_lt_of_le hk hl.size) (by omega)).trans (hl.block k hk)⟩
theorem mod_next (X k : Nat) : X % bP (k + 1) = X % bP k + dig X k * bP k := by
  unfold dig; rw [bP_succ, Nat.mod_mul, Nat.mul_comm (bP k)]
theorem more_step {X Y D k a b cc : Nat} (hD : D + cc * bP k = X % bP k + Y % bP k) (ha : dig X k = a) (hb : dig Y k = b) :
    D + (a + b + cc) % 65536 * bP k + (a + b + cc) / 65536 * bP (k + 1) = X % bP (k + 1) + Y % bP (k + 1) := by
  have h1 := Nat.div_add_mod (a + b + cc) 65536
  rw [mod_next, mod_next, ha, hb, bP_succ]
  have h2 : (a + b + cc) / 65536 * (bP k * 65536) + (a + b + cc) % 65536 * bP k = (a + b + cc) * bP k := by
    conv => rhs; rw [← h1]
    rw [Nat.add_mul]
    congr 1
    rw [Nat.mul_comm (bP k) 65536, ← Nat.mul_assoc, Nat.mul_comm _ 65536]
  have h3 : (a + b + cc) * bP k = a * bP k + b * bP k + cc * bP k := by rw [Nat.add_mul, Nat.add_mul]
  omega
theorem setRow_big {W : World} {R : Nat} {s s' : Bool} {f f' : Nat → Nat} {cs : Array Value} (h : BigB W R s f) (hc : cs = bigV s' f' := by rfl) : BigB (W.setRow R cs) R s' f' := by
  subst hc; exact setRow_heap _ _ _ _ _ _ h
set_option maxRecDepth 100000 in
set_option maxHeartbeats 2000000 in
theorem more_any (sx sy : Bool) (X Y : Nat) (W : World) (h : X + Y < bP 20) :
    Calls Try.prog 124 #[.agg (bigV sx (dig X)), .agg (bigV sy (dig Y))] W fun e w' => e = .returned (.agg (bigV false (dig (X + Y)))) ∧ Later W w' := by
  obtain ⟨bx, hbx⟩ : ∃ b, Hid (bigV sx (dig X) = b) := ⟨_, rfl⟩
  obtain ⟨by', hby⟩ : ∃ b, Hid (bigV sy (dig Y) = b) := ⟨_, rfl⟩
  rw [hbx.out, hby.out]
  go_enter Try.func124, Try.ntmps124
  go_upto_region 2 with fail
  obtain ⟨Z0, hZ0⟩ : ∃ Z, Z = (((W.alloc (.cells bx 167)).alloc (.cells by' 167)).alloc (.cells #[.bool false, .int .u64 0, .int .u64 0, .int .u64 0, .int .u64 0, .int .u64 0, .int .u64 0, .int .u64 0, .int .u64 0, .int .u64 0, .int .u64 0, .int .u64 0, .int .u64 0, .int .u64 0, .int .u64 0, .int .u64 0, .int .u64 0, .int .u64 0, .int .u64 0, .int .u64 0, .int .u64 0] 167)).alloc (.cells #[.bool false, .int .u64 0, .int .u64 0, .int .u64 0, .int .u64 0, .int .u64 0, .int .u64 0, .int .u64 0, .int .u64 0, .int .u64 0, .int .u64 0, .int .u64 0, .int .u64 0, .int .u64 0, .int .u64 0, .int .u64 0, .int .u64 0, .int .u64 0, .int .u64 0, .int .u64 0, .int .u64 0] 167) := ⟨_, rfl⟩
  have hlZ : Later W Z0 := by rw [hZ0]; exact ((((Later.refl W).alloc _).alloc _).alloc _).alloc _
  have kA : BigB Z0 W.heap.size sx (dig X) := by unfold BigB; rw [hbx.out, hZ0]; exact push_one (push_one (push_one (heap_alloc_new _ _) _) _) _
  have kB : BigB Z0 (W.heap.size + 1) sy (dig Y) := by unfold BigB; rw [hby.out, hZ0]; exact push_one (push_one (push_new _ _ (by simp)) _) _
  have kR : BigB Z0 (W.heap.size + 1 + 1) false (dig 0) := by unfold BigB; rw [big_zero, hZ0]; exact push_one (push_new _ _ (by simp)) _
  have kT : BigB Z0 (W.heap.size + 1 + 1 + 1) false (dig 0) := by unfold BigB; rw [big_zero, hZ0]; exact push_new _ _ (by simp)
  rw [← hZ0]
  clear hZ0 hbx hby
  obtain ⟨P, hP⟩ : ∃ n, Hid (W.heap.size = n) := ⟨_, rfl⟩
  obtain ⟨Q, hQ⟩ : ∃ n, Hid (P + 1 = n) := ⟨_, rfl⟩
  obtain ⟨R, hR⟩ : ∃ n, Hid (Q + 1 = n) := ⟨_, rfl⟩
  obtain ⟨T, hT⟩ : ∃ n, Hid (R + 1 = n) := ⟨_, rfl⟩
  have hWP : W.heap.size ≤ P := Nat.le_of_eq hP.out
  have hPQ : P < Q := by have := hQ.out; omega
  have hQR : Q < R := by have := hR.out; omega
  have hRT : R < T := by have := hT.out; omega
  rw [hP.out] at kA kB kR kT ⊢
  rw [hQ.out] at kB kR kT ⊢
  rw [hR.out] at kR kT ⊢
  rw [hT.out] at kT ⊢
  clear hP hQ hR hT
  go_wp2_with fail
  go_loopw [7, 6] (fun y c wr => ∃ k cc D : Nat, k ≤ 20 ∧ y = .int .i64 k ∧ c = .int .u64 cc ∧ cc ≤ 1 ∧ D + cc * bP k = X % bP k + Y % bP k ∧ D < bP k ∧ BigB wr T false (dig D) ∧ Keeps4 Z0 wr T) (fun y _ _ => (300 - intOf y).toNat)
  case atStart => exact ⟨0, 0, 0, by omega, rfl, rfl, by omega, by rw [bP_zero, Nat.mod_one, Nat.mod_one], bP_pos 0, kT, Keeps4.refl _ _⟩
  case round =>
    obtain ⟨k, cc, D, hk, rfl, rfl, hcc, hD, hDl, kTr, hkp⟩ := hrel
    obtain ⟨wo, rfl⟩ : ∃ wo : World, wo = wr := ⟨_, rfl⟩
    by_cases hk20 : k < 20
    · obtain ⟨a, ha⟩ : ∃ a, Hid (dig X k = a) := ⟨_, rfl⟩
      obtain ⟨b, hb⟩ : ∃ a, Hid (dig Y k = a) := ⟨_, rfl⟩
      have ha6 : a < 65536 := by rw [← ha.out]; exact dig_lt _ _
      have hb6 : b < 65536 := by rw [← hb.out]; exact dig_lt _ _
      have cA : wo.cell? ⟨P, 1 + k, none⟩ = some (.int .u64 (a : Nat)) := by rw [← ha.out]; exact BigB.at1 (hkp.keep (by omega) kA) hk20
      have cB : wo.cell? ⟨Q, 1 + k, none⟩ = some (.int .u64 (b : Nat)) := by rw [← hb.out]; exact BigB.at1 (hkp.keep (by omega) kB) hk20
      have hki : (k : Int) < 20 := by omega
      go_upto_region 6 with fail
      go_quiet (fail)
      obtain ⟨w2, hw2⟩ : ∃ X, X = wo.drewN nq := ⟨_, rfl⟩
      have hl2 : Later wo w2 := by rw [hw2]; exact (Later.refl _).drewN _
      rw [← hw2]
      have kTd := BigB.later kTr hl2
      have hkd := hkp.trans (Keeps4.later hl2 kTr.lt)
      have cT := BigB.at1 kTd hk20
      have fT := BigB.frozen kTd (1 + k)
      clear hw2 cA cB
      go_wp2_with fail
      go_roundw
      case rel =>
        have hq : ((a : Int) + b + cc) / 65536 = (((a + b + cc) / 65536 : Nat) : Int) := by omega
        have hm : ((a : Int) + b + cc) % 65536 = (((a + b + cc) % 65536 : Nat) : Int) := by omega
        rw [hq, hm]
        refine ⟨k + 1, (a + b + cc) / 65536, D + ((a + b + cc) % 65536) * bP k, by omega, by go_num, rfl, by omega, ?_, ?_, ?_, hkd.trans (Keeps4.set _ _ _ _)⟩
        · exact more_step hD ha.out hb.out
        · have h1 : (a + b + cc) % 65536 * bP k ≤ 65535 * bP k := Nat.mul_le_mul_right _ (by omega)
          rw [bP_succ]; omega
        · exact BigB.ext (BigB.set1 kTd hk20 _) (fun j _ => dig_put hDl (Nat.mod_lt _ (by omega)) j)
      case measure => simp [intOf]; omega
    · obtain rfl : k = 20 := by omega
      have kRr := hkp.keep (by omega) kR
      go_wp2_with (first | refine wpList_load_row rfl _ _ rfl T rfl _ _ (0, 0) _ kTr Try.underlying167 rfl (size_big _ _) ?_ | refine wpList_store_row rfl 167 _ _ rfl R (bigV false (dig D)) rfl rfl 167 (bigV false (dig 0)) kRr (size_big _ _) (by rw [bigV_size, bigV_size]) (bigV_one _ _) ?_)
      rw [Nat.mod_eq_of_lt (show X < bP 20 by omega), Nat.mod_eq_of_lt (show Y < bP 20 by omega)] at hD
      obtain rfl : cc = 0 := by
        by_cases e : cc = 0
        · exact e
        · obtain rfl : cc = 1 := by omega
          omega
      obtain rfl : D = X + Y := by omega
      have kZ := setRow_big (cs := bigV false (dig (X + Y))) kRr
      exact bodyPost_ret (v := .agg (bigV false (dig (X + Y)))) (results_cell1 (a := 4) (t := 167) (by kernel_rfl) _ rfl (load_big kZ)) rfl ⟨rfl, (hkp.to_later hlZ (by omega)).setRow (by omega) _⟩
theorem away_step {X Y D k a b cc : Nat} (hD : D + Y % bP k = X % bP k + cc * bP k) (ha : dig X k = a) (hb : dig Y k = b) (h : a < 65536 ∧ b < 65536 ∧ cc ≤ 1) :
    D + (a + 65536 - b - cc) % 65536 * bP k + Y % bP (k + 1) = X % bP (k + 1) + (1 - (a + 65536 - b - cc) / 65536) * bP (k + 1) := by
  rw [mod_next, mod_next, ha, hb, bP_succ]
  obtain ⟨r, hr⟩ : ∃ r, (a + 65536 - b - cc) % 65536 = r := ⟨_, rfl⟩
  obtain ⟨q, hq⟩ : ∃ q, 1 - (a + 65536 - b - cc) / 65536 = q := ⟨_, rfl⟩
  rw [hr, hq]
  have h1 : cc + r + b = a + 65536 * q := by omega
  have h2 : (cc + r + b) * bP k = (a + 65536 * q) * bP k := by rw [h1]
  rw [Nat.add_mul, Nat.add_mul, Nat.add_mul] at h2
  have h3 : 65536 * q * bP k = q * (bP k * 65536) := by rw [Nat.mul_comm 65536 q, Nat.mul_assoc, Nat.mul_comm 65536]
  omega
set_option maxRecDepth 100000 in
set_option maxHeartbeats 2000000 in
theorem away_any (sx sy : Bool) (X Y : Nat) (W : World) (hY : Y ≤ X) (h : X < bP 20) :
    Calls Try.prog 126 #[.agg (bigV sx (dig X)), .agg (bigV sy (dig Y))] W fun e w' => e = .returned (.agg (bigV false (dig (X - Y)))) ∧ Later W w' := by
  obtain ⟨bx, hbx⟩ : ∃ b, Hid (bigV sx (dig X) = b) := ⟨_, rfl⟩
  obtain ⟨by', hby⟩ : ∃ b, Hid (bigV sy (dig Y) = b) := ⟨_, rfl⟩
  rw [hbx.out, hby.out]
  go_enter Try.func126, Try.ntmps126
  go_upto_region 2 with fail
  obtain ⟨Z0, hZ0⟩ : ∃ Z, Z = (((W.alloc (.cells bx 167)).alloc (.cells by' 167)).alloc (.cells #[.bool false, .int .u64 0, .int .u64 0, .int .u64 0, .int .u64 0, .int .u64 0, .int .u64 0, .int .u64 0, .int .u64 0, .int .u64 0, .int .u64 0, .int .u64 0, .int .u64 0, .int .u64 0, .int .u64 0, .int .u64 0, .int .u64 0, .int .u64 0, .int .u64 0, .int .u64 0, .int .u64 0] 167)).alloc (.cells #[.bool false, .int .u64 0, .int .u64 0, .int .u64 0, .int .u64 0, .int .u64 0, .int .u64 0, .int .u64 0, .int .u64 0, .int .u64 0, .int .u64 0, .int .u64 0, .int .u64 0, .int .u64 0, .int .u64 0, .int .u64 0, .int .u64 0, .int .u64 0, .int .u64 0, .int .u64 0, .int .u64 0] 167) := ⟨_, rfl⟩
  have hlZ : Later W Z0 := by rw [hZ0]; exact ((((Later.refl W).alloc _).alloc _).alloc _).alloc _
  have kA : BigB Z0 W.heap.size sx (dig X) := by unfold BigB; rw [hbx.out, hZ0]; exact push_one (push_one (push_one (heap_alloc_new _ _) _) _) _
  have kB : BigB Z0 (W.heap.size + 1) sy (dig Y) := by unfold BigB; rw [hby.out, hZ0]; exact push_one (push_one (push_new _ _ (by simp)) _) _
  have kR : BigB Z0 (W.heap.size + 1 + 1) false (dig 0) := by unfold BigB; rw [big_zero, hZ0]; exact push_one (push_new _ _ (by simp)) _
  have kT : BigB Z0 (W.heap.size + 1 + 1 + 1) false (dig 0) := by unfold BigB; rw [big_zero, hZ0]; exact push_new _ _ (by simp)
  rw [← hZ0]
  clear hZ0 hbx hby
  obtain ⟨P, hP⟩ : ∃ n, Hid (W.heap.size = n) := ⟨_, rfl⟩
  obtain ⟨Q, hQ⟩ : ∃ n, Hid (P + 1 = n) := ⟨_, rfl⟩
  obtain ⟨R, hR⟩ : ∃ n, Hid (Q + 1 = n) := ⟨_, rfl⟩
  obtain ⟨T, hT⟩ : ∃ n, Hid (R + 1 = n) := ⟨_, rfl⟩
  have hWP : W.heap.size ≤ P := Nat.le_of_eq hP.out
  have hPQ : P < Q := by have := hQ.out; omega
  have hQR : Q < R := by have := hR.out; omega
  have hRT : R < T := by have := hT.out; omega
  rw [hP.out] at kA kB kR kT ⊢
  rw [hQ.out] at kB kR kT ⊢
  rw [hR.out] at kR kT ⊢
  rw [hT.out] at kT ⊢
  clear hP hQ hR hT
  go_wp2_with fail
  go_loopw [7, 6] (fun y c wr => ∃ k cc D : Nat, k ≤ 20 ∧ y = .int .i64 k ∧ c = .int .u64 cc ∧ cc ≤ 1 ∧ D + Y % bP k = X % bP k + cc * bP k ∧ D < bP k ∧ BigB wr T false (dig D) ∧ Keeps4 Z0 wr T) (fun y _ _ => (300 - intOf y).toNat)
  case atStart => exact ⟨0, 0, 0, by omega, rfl, rfl, by omega, by rw [bP_zero, Nat.mod_one, Nat.mod_one, Nat.zero_mul], bP_pos 0, kT, Keeps4.refl _ _⟩
  case round =>
    obtain ⟨k, cc, D, hk, rfl, rfl, hcc, hD, hDl, kTr, hkp⟩ := hrel
    obtain ⟨wo, rfl⟩ : ∃ wo : World, wo = wr := ⟨_, rfl⟩
    by_cases hk20 : k < 20
    · obtain ⟨a, ha⟩ : ∃ a, Hid (dig X k = a) := ⟨_, rfl⟩
      obtain ⟨b, hb⟩ : ∃ a, Hid (dig Y k = a) := ⟨_, rfl⟩
      have ha6 : a < 65536 := by rw [← ha.out]; exact dig_lt _ _
      have hb6 : b < 65536 := by rw [← hb.out]; exact dig_lt _ _
      have cA : wo.cell? ⟨P, 1 + k, none⟩ = some (.int .u64 (a : Nat)) := by rw [← ha.out]; exact BigB.at1 (hkp.keep (by omega) kA) hk20
      have cB : wo.cell? ⟨Q, 1 + k, none⟩ = some (.int .u64 (b : Nat)) := by rw [← hb.out]; exact BigB.at1 (hkp.keep (by omega) kB) hk20
      have hki : (k : Int) < 20 := by omega
      go_upto_region 6 with fail
      go_quiet (fail)
      obtain ⟨w2, hw2⟩ : ∃ X, X = wo.drewN nq := ⟨_, rfl⟩
      have hl2 : Later wo w2 := by rw [hw2]; exact (Later.refl _).drewN _
      rw [← hw2]
      have kTd := BigB.later kTr hl2
      have hkd := hkp.trans (Keeps4.later hl2 kTr.lt)
      have cT := BigB.at1 kTd hk20
      have fT := BigB.frozen kTd (1 + k)
      clear hw2 cA cB
      go_wp2_with fail
      go_roundw
      case rel =>
        have hq : 1 - ((a : Int) + 65536 - b - cc) / 65536 = ((1 - (a + 65536 - b - cc) / 65536 : Nat) : Int) := by omega
        have hm : ((a : Int) + 65536 - b - cc) % 65536 = (((a + 65536 - b - cc) % 65536 : Nat) : Int) := by omega
        rw [hq, hm]
        refine ⟨k + 1, 1 - (a + 65536 - b - cc) / 65536, D + ((a + 65536 - b - cc) % 65536) * bP k, by omega, by go_num, rfl, by omega, ?_, ?_, ?_, hkd.trans (Keeps4.set _ _ _ _)⟩
        · exact away_step hD ha.out hb.out (by omega)
        · have h1 : (a + 65536 - b - cc) % 65536 * bP k ≤ 65535 * bP k := Nat.mul_le_mul_right _ (by omega)
          rw [bP_succ]; omega
        · exact BigB.ext (BigB.set1 kTd hk20 _) (fun j _ => dig_put hDl (Nat.mod_lt _ (by omega)) j)
      case measure => simp [intOf]; omega
    · obtain rfl : k = 20 := by omega
      have kRr := hkp.keep (by omega) kR
      go_wp2_with (first | refine wpList_load_row rfl _ _ rfl T rfl _ _ (0, 0) _ kTr Try.underlying167 rfl (size_big _ _) ?_ | refine wpList_store_row rfl 167 _ _ rfl R (bigV false (dig D)) rfl rfl 167 (bigV false (dig 0)) kRr (size_big _ _) (by rw [bigV_size, bigV_size]) (bigV_one _ _) ?_)
      rw [Nat.mod_eq_of_lt (show X < bP 20 by omega), Nat.mod_eq_of_lt (show Y < bP 20 by omega)] at hD
      obtain rfl : cc = 0 := by
        by_cases e : cc = 0
        · exact e
        · obtain rfl : cc = 1 := by omega
          omega
      obtain rfl : D = X - Y := by omega
      have kZ := setRow_big (cs := bigV false (dig (X - Y))) kRr
      exact bodyPost_ret (v := .agg (bigV false (dig (X - Y)))) (results_cell1 (a := 4) (t := 167) (by kernel_rfl) _ rfl (load_big kZ)) rfl ⟨rfl, (hkp.to_later hlZ (by omega)).setRow (by omega) _⟩
end Go.Proofs.Ytackbajbladhhaa
namespace Go.Proofs.Ytackbajbladhhaa
open Go.RowKit Go.Shelf
set_option linter.unusedVariables false
set_option linter.unusedSimpArgs false
attribute [local go_sem] Oper.semAt_some
attribute [-simp] Try.sizeOf167 Try.typeInfo167
attribute [-go_sem] Instr.build

theorem isAgg_u64 (w : World) : (isAgg 105).run Try.prog w = .ok false w := by kernel_rfl
theorem part_u64 (W : World) (xs : Array Value) (off : Nat) (v : Value) (h : xs[off]? = some v) : (part 105 xs off).run Try.prog W = .ok v W := by
  unfold part
  simp only [Sem.run_bind, isAgg_u64, Result.andThen_ok, Bool.false_eq_true, if_false, h, Sem.run_pure]
theorem eqItems_u64 (D : Nat) (xs ys : Array Value) (f g : Nat → Int) (W : World) : ∀ is : List Nat, (∀ i ∈ is, xs[i]? = some (.int .u64 (f i)) ∧ ys[i]? = some (.int .u64 (g i))) → (Op.eqItems (D + 1) 105 1 xs ys is).run Try.prog W = .ok (is.all fun i => f i == g i) W
  | [], _ => by rw [Op.eqItems]; rfl
  | i :: is, h => by
    obtain ⟨h1, h2⟩ := h i (by simp)
    have ih := eqItems_u64 D xs ys f g W is (fun j hj => h j (by simp [hj]))
    have p1 := part_u64 W xs (i * 1) _ (by rw [Nat.mul_one]; exact h1)
    have p2 := part_u64 W ys (i * 1) _ (by rw [Nat.mul_one]; exact h2)
    have p3 := run_equalIn_int (P := Try.prog) W D 105 .u64 .u64 (f i) (g i) Try.underlying105
    rw [Op.eqItems]
    simp only [Sem.run_bind, p1, p2, Result.andThen_ok, p3]
    rw [List.all_cons]
    cases hb : (f i == g i)
    · rfl
    · simp only [Bool.not_true, Bool.false_eq_true, if_false, Bool.true_and]
      exact ih
theorem cells_u64 : (Try.prog.cellsOf 105) = 1 := by kernel_rfl
theorem eq_digs (d : Nat) (W : World) (xs ys : Array Value) (f g : Nat → Int) (h : ∀ i, i < 20 → xs[i]? = some (.int .u64 (f i)) ∧ ys[i]? = some (.int .u64 (g i))) :
    (Op.equalIn (d + 2) 165 (.agg xs) (.agg ys)).run Try.prog W = .ok ((List.range 20).all fun i => f i == g i) W := by
  obtain ⟨i, hi⟩ : ∃ i, Try.prog.info? 105 = some i := by
    have : (Try.prog.info? 105).isSome = true := by kernel_rfl
    exact Option.isSome_iff_exists.1 this
  refine (run_equalIn_array W (d + 1) xs ys Try.underlying165 hi).trans ?_
  rw [cells_u64]
  exact eqItems_u64 d xs ys f g W (List.range 20) (fun j hj => h j (List.mem_range.1 hj))
theorem guard_digs : Try.prog.eqGuardType Try.prog.depth 165 = false := by kernel_rfl
/-- Twenty digits. -/
def digV (f : Nat → Nat) : List Value := (List.range 20).map fun k => .int .u64 (f k : Nat)
theorem digV_get (f : Nat → Nat) {k : Nat} (h : k < 20) : (digV f)[k]? = some (.int .u64 (f k : Nat)) := by unfold digV; simp [h]
theorem digV_length (f : Nat → Nat) : (digV f).length = 20 := by simp [digV]
theorem build_digs (w : World) : (Instr.build 165 #[]).run Try.prog w = .ok (.agg (digV (fun _ => 0)).toArray) w := by kernel_rfl
theorem eql_digs (w : World) (f g : Nat → Nat) : (binOp .eql 165 (.agg (digV f).toArray) (.agg (digV g).toArray)).run Try.prog w = .ok (.bool ((List.range 20).all fun i => ((f i : Nat) : Int) == ((g i : Nat) : Int))) w := by
  have h := eq_digs 9998 w (digV f).toArray (digV g).toArray (fun i => ((f i : Nat) : Int)) (fun i => ((g i : Nat) : Int)) (fun i hi => ⟨by rw [List.getElem?_toArray]; exact digV_get f hi, by rw [List.getElem?_toArray]; exact digV_get g hi⟩)
  rw [run_eql_struct, h]; rfl
theorem info_digs : (Try.prog.info? 165).map (·.size) = some 20 := by kernel_rfl
theorem BigB.digs {W : World} {M : Nat} {s : Bool} {f : Nat → Nat} (h : BigB W M s f) : W.rangeAt M 1 (digV f) := by
  intro j v hv
  have hj : j < 20 := by rw [← digV_length f]; exact (List.getElem?_eq_some_iff.1 hv).1
  rw [digV_get f hj] at hv
  injection hv with hv
  rw [← hv]
  exact h.at1 hj
theorem digs_zero {X : Nat} (h : X < bP 20) : ((List.range 20).all fun i => ((dig X i : Nat) : Int) == ((0 : Nat) : Int)) = decide (X = 0) := by
  rw [Bool.eq_iff_iff, decide_eq_true_eq, List.all_eq_true]
  constructor
  · intro h0
    have h1 := bV_dig X 20
    rw [Nat.mod_eq_of_lt h] at h1
    rw [← h1, bV_congr (g := fun _ => 0) (fun i hi => by have := h0 i (List.mem_range.2 hi); simp only [beq_iff_eq] at this; omega)]
    have : ∀ n, bV (fun _ => 0) n = 0 := fun n => by induction n with
      | zero => rfl
      | succ n ih => rw [bV_succ, ih, Nat.zero_mul]
    exact this 20
  · rintro rfl i _
    rw [dig_zero_i]; rfl
set_option maxRecDepth 100000 in
set_option maxHeartbeats 1000000 in
theorem none_any (s : Bool) (X : Nat) (W : World) (h : X < bP 20) :
    Calls Try.prog 123 #[.agg (bigV s (dig X))] W fun e w' => e = .returned (.bool (decide (X = 0))) ∧ Later W w' := by
  obtain ⟨b, hb⟩ : ∃ b, Hid (bigV s (dig X) = b) := ⟨_, rfl⟩
  rw [hb.out]
  obtain ⟨r, hr⟩ : ∃ r, Hid (decide (X = 0) = r) := ⟨_, rfl⟩
  rw [hr.out]
  obtain ⟨Z0, hZ0⟩ : ∃ Z, Z = W.alloc (.cells b 167) := ⟨_, rfl⟩
  have hlZ : Later W Z0 := by rw [hZ0]; exact (Later.refl W).alloc _
  have kA : BigB Z0 W.heap.size s (dig X) := by unfold BigB; rw [hb.out, hZ0]; exact heap_alloc_new _ _
  have hrg := kA.digs
  have hnq := eq_digs 9998 Z0 (digV (dig X)).toArray (digV (fun _ => 0)).toArray (fun i => ((dig X i : Nat) : Int)) (fun i => ((0 : Nat) : Int)) (fun i hi => ⟨by rw [List.getElem?_toArray]; exact digV_get _ hi, by rw [List.getElem?_toArray]; exact digV_get _ hi⟩)
  rw [digs_zero h, hr.out] at hnq
  replace hnq : (Op.equalIn 10000 165 (.agg (digV (dig X)).toArray) (.agg (digV (fun _ => 0)).toArray)).run Try.prog Z0 = .ok r Z0 := hnq
  have hbd := build_digs
  obtain ⟨da, hda⟩ : ∃ l, Hid (digV (dig X) = l) := ⟨_, rfl⟩
  obtain ⟨dz, hdz⟩ : ∃ l, Hid (digV (fun _ => 0) = l) := ⟨_, rfl⟩
  have hdl : (Try.prog.info? 165).map (·.size) = some da.length := by rw [← hda.out, digV_length]; exact info_digs
  rw [hda.out] at hrg hnq
  rw [hdz.out] at hnq hbd
  go_enter Try.func123, Try.ntmps123
  go_upto_region 1 with fail
  rw [← hZ0]
  clear hZ0 hb hr
  first | go_step3 | skip
  go_wp2_with (refine wpList_load_mid rfl _ _ rfl W.heap.size 1 rfl da _ hrg Try.underlying165 rfl hdl ?_)
  go_ret
  exact ⟨rfl, hlZ⟩
theorem less_step (X k : Nat) : X / bP k = 65536 * (X / bP (k + 1)) + dig X k := by
  unfold dig
  rw [bP_succ, ← Nat.div_div_eq_div_mul]
  exact (Nat.div_add_mod _ _).symm
theorem less_dec {X Y k : Nat} (h : X / bP (k + 1) = Y / bP (k + 1)) (hne : dig X k ≠ dig Y k) : decide (X < Y) = decide (dig X k < dig Y k) := by
  have h1 := less_step X k
  have h2 := less_step Y k
  rw [h] at h1
  refine decide_eq_decide.2 ⟨fun hl => ?_, fun hl => ?_⟩
  · have h3 : X / bP k ≤ Y / bP k := Nat.div_le_div_right (by omega)
    omega
  · have h3 : X / bP k < Y / bP k := by omega
    exact Nat.lt_of_not_le (fun hle => by have := Nat.div_le_div_right (c := bP k) hle; omega)
set_option maxRecDepth 100000 in
set_option maxHeartbeats 2000000 in
theorem less_any (sx sy : Bool) (X Y : Nat) (W : World) (hX : X < bP 20) (hY : Y < bP 20) :
    Calls Try.prog 125 #[.agg (bigV sx (dig X)), .agg (bigV sy (dig Y))] W fun e w' => e = .returned (.bool (decide (X < Y))) ∧ Later W w' := by
  obtain ⟨bx, hbx⟩ : ∃ b, Hid (bigV sx (dig X) = b) := ⟨_, rfl⟩
  obtain ⟨by', hby⟩ : ∃ b, Hid (bigV sy (dig Y) = b) := ⟨_, rfl⟩
  obtain ⟨r, hr⟩ : ∃ r, Hid (decide (X < Y) = r) := ⟨_, rfl⟩
  rw [hbx.out, hby.out, hr.out]
  obtain ⟨Z0, hZ0⟩ : ∃ Z, Z = (W.alloc (.cells bx 167)).alloc (.cells by' 167) := ⟨_, rfl⟩
  have hlZ : Later W Z0 := by rw [hZ0]; exact ((Later.refl W).alloc _).alloc _
  have kA : BigB Z0 W.heap.size sx (dig X) := by unfold BigB; rw [hbx.out, hZ0]; exact push_one (heap_alloc_new _ _) _
  have kB : BigB Z0 (W.heap.size + 1) sy (dig Y) := by unfold BigB; rw [hby.out, hZ0]; exact push_new _ _ (by simp)
  go_enter Try.func125, Try.ntmps125
  go_upto_region 1 with fail
  rw [← hZ0]
  clear hZ0 hbx hby
  go_wp2_with fail
  go_loopw [5] (fun y wr => ∃ k : Nat, k ≤ 20 ∧ y = .int .i64 ((k : Int) - 1) ∧ Hid (X / bP k = Y / bP k) ∧ Later Z0 wr) (fun y _ => (intOf y + 1).toNat)
  case atStart => exact ⟨20, by omega, by go_num, Lib.hid (by rw [Nat.div_eq_of_lt hX, Nat.div_eq_of_lt hY]), Later.refl _⟩
  case round =>
    obtain ⟨k, hk, rfl, hq, hl⟩ := hrel
    obtain ⟨wo, rfl⟩ : ∃ wo : World, wo = wr := ⟨_, rfl⟩
    cases k with
    | zero =>
      rw [show (((0 : Nat) : Int) - 1) = -1 from rfl]
      have hr0 : Hid (r = false) := Lib.hid (by
        have := hq.out
        rw [bP_zero, Nat.div_one, Nat.div_one] at this
        rw [← hr.out, this]; simp)
      go_wp2_with fail
      go_ret
      exact ⟨ret_bool hr0.out.symm, hlZ.trans hl⟩
    | succ k =>
      rw [show (((k + 1 : Nat) : Int) - 1) = (k : Int) from by omega]
      have hk20 : k < 20 := by omega
      obtain ⟨a, ha⟩ : ∃ a, Hid (dig X k = a) := ⟨_, rfl⟩
      obtain ⟨b, hb⟩ : ∃ a, Hid (dig Y k = a) := ⟨_, rfl⟩
      have cA : wo.cell? ⟨W.heap.size, 1 + k, none⟩ = some (.int .u64 (a : Nat)) := by rw [← ha.out]; exact hl.cell (BigB.at1 kA hk20)
      have cB : wo.cell? ⟨W.heap.size + 1, 1 + k, none⟩ = some (.int .u64 (b : Nat)) := by rw [← hb.out]; exact hl.cell (BigB.at1 kB hk20)
      have hki : (k : Int) < 20 := by omega
      by_cases e : a = b
      · subst e
        have hq2 : Hid (X / bP k = Y / bP k) := Lib.hid (by rw [less_step X k, less_step Y k, hq.out, ha.out, hb.out])
        go_upto_region 4 with fail
        go_quiet (fail)
        go_wp2_with fail
        go_roundw
        case rel => exact ⟨k, by omega, by go_num, hq2, hl.drewN _⟩
        case measure => simp [intOf]
      · have hd : Hid (r = decide (a < b)) := Lib.hid (by
          rw [← hr.out, less_dec hq.out (by rw [ha.out, hb.out]; exact e), ha.out, hb.out])
        have hne : ((a : Int) == (b : Int)) = false := by simp; omega
        have hne2 : ¬ (a : Int) = (b : Int) := by omega
        go_upto_region 4 with fail
        go_quiet (fail)
        obtain ⟨w2, hw2⟩ : ∃ X, X = wo.drewN nq := ⟨_, rfl⟩
        have hl2 : Later wo w2 := by rw [hw2]; exact (Later.refl _).drewN _
        rw [← hw2]
        replace cA := hl2.cell cA
        replace cB := hl2.cell cB
        clear hw2
        go_upto_region 5 with fail
        go_quiet (fail)
        go_wp2_with fail
        go_ret
        exact ⟨ret_bool hd.out.symm, (hlZ.trans (hl.trans hl2)).drewN _⟩
theorem bigI_neg (z : Int) : bigI (-z) = bigV (!decide (z < 0) && !decide (z.natAbs = 0)) (dig z.natAbs) := by
  unfold bigI
  rw [Int.natAbs_neg]
  congr 1
  by_cases h : z < 0
  · rw [decide_eq_true h, decide_eq_false (by omega)]; rfl
  · rw [decide_eq_false h]
    by_cases h0 : z = 0
    · subst h0; rfl
    · rw [decide_eq_true (by omega), decide_eq_false (by omega)]; rfl
set_option maxRecDepth 100000 in
set_option maxHeartbeats 1000000 in
theorem bneg_any (z : Int) (W : World) (h : z.natAbs < bP 20) :
    Calls Try.prog 127 #[.agg (bigI z)] W fun e w' => e = .returned (.agg (bigI (-z))) ∧ Later W w' := by
  rw [bigI_neg]
  unfold bigI
  have hN := Lib.hid (fun (s : Bool) V => none_any s z.natAbs V h)
  obtain ⟨X, hX⟩ : ∃ X, Hid (z.natAbs = X) := ⟨_, rfl⟩
  obtain ⟨s, hs⟩ : ∃ s, Hid (decide (z < 0) = s) := ⟨_, rfl⟩
  rw [hX.out] at hN ⊢
  rw [hs.out]
  obtain ⟨n, hn⟩ : ∃ n, Hid (decide (X = 0) = n) := ⟨_, rfl⟩
  rw [hn.out] at hN ⊢
  clear hX hs hn h
  obtain ⟨b, hb⟩ : ∃ b, Hid (bigV s (dig X) = b) := ⟨_, rfl⟩
  rw [hb.out]
  obtain ⟨Z0, hZ0⟩ : ∃ Z, Z = (W.alloc (.cells b 167)).alloc (.cells #[.bool false, .int .u64 0, .int .u64 0, .int .u64 0, .int .u64 0, .int .u64 0, .int .u64 0, .int .u64 0, .int .u64 0, .int .u64 0, .int .u64 0, .int .u64 0, .int .u64 0, .int .u64 0, .int .u64 0, .int .u64 0, .int .u64 0, .int .u64 0, .int .u64 0, .int .u64 0, .int .u64 0] 167) := ⟨_, rfl⟩
  have hlZ : Later W Z0 := by rw [hZ0]; exact ((Later.refl W).alloc _).alloc _
  have kA : BigB Z0 W.heap.size s (dig X) := by unfold BigB; rw [hb.out, hZ0]; exact push_one (heap_alloc_new _ _) _
  have kR : BigB Z0 (W.heap.size + 1) false (dig 0) := by unfold BigB; rw [big_zero, hZ0]; exact push_new _ _ (by simp)
  obtain ⟨P, hP⟩ : ∃ n, Hid (W.heap.size = n) := ⟨_, rfl⟩
  obtain ⟨R, hR⟩ : ∃ n, Hid (P + 1 = n) := ⟨_, rfl⟩
  have hWP : W.heap.size ≤ P := Nat.le_of_eq hP.out
  have hPR : P < R := by have := hR.out; omega
  go_enter Try.func127, Try.ntmps127
  go_upto_region 1 with fail
  rw [← hZ0]
  clear hZ0 hb
  rw [hP.out] at kA kR ⊢
  rw [hR.out] at kR ⊢
  clear hP hR
  have cs := kA.sign
  have fs := kA.frozen 0
  cases s
  · go_wp2_with (refine wpList_load_roww rfl _ _ rfl P rfl _ _ (0, 0) _ kA Try.underlying167 rfl (size_big _ _) ?_)
    refine (hN.out _ _).mono ?_
    rintro e w2 ⟨rfl, h2⟩
    have kA2 := kA.later h2
    have kR2 := kR.later h2
    have cs2 := kA2.sign
    have fs2 := kA2.frozen 0
    have kA3 := kA2.setSign (!n)
    have kR3 : BigB (w2.setCell ⟨P, 0, none⟩ (.bool !n)) R false (dig 0) := (Below.heap_setCell _ _ _ R (by show R ≠ P; omega)).trans kR2
    have hl3 : Later W (w2.setCell ⟨P, 0, none⟩ (.bool !n)) := (hlZ.trans h2).setCell (by show W.heap.size ≤ P; omega) _
    go_upto_region 2 with fail
    obtain ⟨V, hV⟩ : ∃ V, V = w2.setCell ⟨P, 0, none⟩ (.bool !n) := ⟨_, rfl⟩
    rw [← hV] at kA3 kR3 hl3 ⊢
    clear hV cs cs2 fs fs2
    first | go_step3 | skip
    go_wp2_with (first | refine wpList_load_row rfl _ _ rfl P rfl _ _ (0, 0) _ kA3 Try.underlying167 rfl (size_big _ _) ?_ | refine wpList_store_row rfl 167 _ _ rfl R (bigV (!n) (dig X)) rfl rfl 167 (bigV false (dig 0)) kR3 (size_big _ _) (by rw [bigV_size, bigV_size]) (bigV_one _ _) ?_)
    exact bodyPost_ret (v := .agg (bigV (!n) (dig X))) (results_cell1 (a := 2) (t := 167) (by kernel_rfl) _ rfl (load_big (setRow_big kR3))) rfl ⟨rfl, hl3.setRow (by omega) _⟩
  · go_upto_region 2 with fail
    have kA3 := kA.setSign false
    have kR3 : BigB (Z0.setCell ⟨P, 0, none⟩ (.bool false)) R false (dig 0) := (Below.heap_setCell _ _ _ R (by show R ≠ P; omega)).trans kR
    have hl3 : Later W (Z0.setCell ⟨P, 0, none⟩ (.bool false)) := hlZ.setCell (by show W.heap.size ≤ P; omega) _
    obtain ⟨V, hV⟩ : ∃ V, V = Z0.setCell ⟨P, 0, none⟩ (.bool false) := ⟨_, rfl⟩
    rw [← hV] at kA3 kR3 hl3 ⊢
    clear hV cs fs
    first | go_step3 | skip
    go_wp2_with (first | refine wpList_load_row rfl _ _ rfl P rfl _ _ (0, 0) _ kA3 Try.underlying167 rfl (size_big _ _) ?_ | refine wpList_store_row rfl 167 _ _ rfl R (bigV false (dig X)) rfl rfl 167 (bigV false (dig 0)) kR3 (size_big _ _) (by rw [bigV_size, bigV_size]) (bigV_one _ _) ?_)
    exact bodyPost_ret (v := .agg (bigV false (dig X))) (results_cell1 (a := 2) (t := 167) (by kernel_rfl) _ rfl (load_big (setRow_big kR3))) rfl ⟨by simp, hl3.setRow (by omega) _⟩
end Go.Proofs.Ytackbajbladhhaa
