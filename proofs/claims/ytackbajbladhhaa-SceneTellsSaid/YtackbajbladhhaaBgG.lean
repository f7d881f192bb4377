/-
  Numbers of 320 bits: quotients by 65536.
-/
import Derived.Test.YtackbajbladhhaaBgD1
namespace Go.Proofs.Ytackbajbladhhaa
open Go.RowKit Go.Shelf
set_option linter.unusedVariables false
set_option linter.unusedSimpArgs false
attribute [local go_sem] Oper.semAt_some
attribute [-simp] Try.sizeOf167 Try.typeInfo167
attribute [-go_sem] Instr.build

theorem bit_of (X k : Nat) : dig X (k / 16) / 2 ^ (k % 16) % 2 = X / 2 ^ k % 2 := by
  unfold dig
  have h2 : (2 : Nat) ^ k = bP (k / 16) * 2 ^ (k % 16) := by
    unfold bP
    rw [show (65536 : Nat) = 2 ^ 16 from rfl, ← Nat.pow_mul, ← Nat.pow_add, Nat.div_add_mod]
  rw [h2, ← Nat.div_div_eq_div_mul]
  obtain ⟨Y, hY⟩ : ∃ Y, X / bP (k / 16) = Y := ⟨_, rfl⟩
  obtain ⟨b, hb⟩ : ∃ b, k % 16 = b := ⟨_, rfl⟩
  have hb16 : b < 16 := by omega
  rw [hY, hb]
  have h3 := Nat.testBit_mod_two_pow Y 16 b
  rw [decide_eq_true hb16, Bool.true_and, Nat.testBit_eq_decide_div_mod_eq, Nat.testBit_eq_decide_div_mod_eq] at h3
  have h4 := decide_eq_decide.1 h3
  rw [show (65536 : Nat) = 2 ^ 16 from rfl]
  omega
theorem bP_9 : bP 9 = 2 ^ 144 := by unfold bP; rw [show (65536 : Nat) = 2 ^ 16 from rfl, ← Nat.pow_mul]
/-- What lies while a number is divided. -/
structure DV (W w : World) (P Q R T A B C : Nat) (sx : Bool) (X q r : Nat) : Prop where
  later : Later W w
  p : BigB w P sx (dig X)
  c : BigB w Q false (dig 65536)
  r1 : BigB w R false (dig 0)
  r2 : BigB w T false (dig 0)
  q7 : BigB w A false (dig q)
  r8 : BigB w B false (dig r)
  d9 : BigB w C false (dig 65536)
theorem DV.next {W w w' : World} {P Q R T A B C : Nat} {sx : Bool} {X q r : Nat} (h : DV W w P Q R T A B C sx X q r) (hl : Later w w') : DV W w' P Q R T A B C sx X q r :=
  ⟨h.later.trans hl, h.p.later hl, h.c.later hl, h.r1.later hl, h.r2.later hl, h.q7.later hl, h.r8.later hl, h.d9.later hl⟩
theorem BigB.other {w : World} {M N : Nat} {s : Bool} {f : Nat → Nat} {cs : Array Value} (h : BigB w M s f) (hne : M ≠ N) : BigB (w.setRow N cs) M s f := (setRow_other _ _ _ _ hne).trans h
theorem BigB.othc {w : World} {M N o : Nat} {s : Bool} {f : Nat → Nat} {v : Value} (h : BigB w M s f) (hne : M ≠ N) : BigB (w.setCell ⟨N, o, none⟩ v) M s f := (Below.heap_setCell _ _ _ M hne).trans h
/-- The places rise. -/
structure Rise7 (n P Q R T A B C : Nat) : Prop where
  n : n ≤ P
  pq : P < Q
  qr : Q < R
  rt : R < T
  ta : T < A
  ab : A < B
  bc : B < C
theorem DV.row8 {W w : World} {P Q R T A B C : Nat} {sx : Bool} {X q r r' : Nat} (h : DV W w P Q R T A B C sx X q r) (hr : Rise7 W.heap.size P Q R T A B C) : DV W (w.setRow B (bigV false (dig r'))) P Q R T A B C sx X q r' := by
  have h1 := hr.pq; have h2 := hr.qr; have h3 := hr.rt; have h4 := hr.ta; have h5 := hr.ab; have h6 := hr.bc; have h0 := hr.n
  exact ⟨h.later.setRow (by omega) _, h.p.other (by omega), h.c.other (by omega), h.r1.other (by omega), h.r2.other (by omega), h.q7.other (by omega), setRow_big h.r8, h.d9.other (by omega)⟩
theorem DV.row7 {W w : World} {P Q R T A B C : Nat} {sx : Bool} {X q r q' : Nat} (h : DV W w P Q R T A B C sx X q r) (hr : Rise7 W.heap.size P Q R T A B C) : DV W (w.setRow A (bigV false (dig q'))) P Q R T A B C sx X q' r := by
  have h1 := hr.pq; have h2 := hr.qr; have h3 := hr.rt; have h4 := hr.ta; have h5 := hr.ab; have h6 := hr.bc; have h0 := hr.n
  exact ⟨h.later.setRow (by omega) _, h.p.other (by omega), h.c.other (by omega), h.r1.other (by omega), h.r2.other (by omega), setRow_big h.q7, h.r8.other (by omega), h.d9.other (by omega)⟩
theorem dig_low {v b : Nat} (h : v % 65536 + b < 65536) (j : Nat) : (if j = 0 then v % 65536 + b else dig v j) = dig (v + b) j := by
  cases j with
  | zero => rw [if_pos rfl, dig_z]; omega
  | succ j =>
    rw [if_neg (by omega), dig_s, dig_s, show (v + b) / 65536 = v / 65536 by omega]
theorem DV.low8 {W w : World} {P Q R T A B C : Nat} {sx : Bool} {X q r b : Nat} (h : DV W w P Q R T A B C sx X q r) (hr : Rise7 W.heap.size P Q R T A B C) (hb : r % 65536 + b < 65536) :
    DV W (w.setCell ⟨B, 1, none⟩ (.int .u64 ((r % 65536 + b : Nat) : Int))) P Q R T A B C sx X q (r + b) := by
  have h1 := hr.pq; have h2 := hr.qr; have h3 := hr.rt; have h4 := hr.ta; have h5 := hr.ab; have h6 := hr.bc; have h0 := hr.n
  exact ⟨h.later.setCell (by show W.heap.size ≤ B; omega) _, h.p.othc (by omega), h.c.othc (by omega), h.r1.othc (by omega), h.r2.othc (by omega), h.q7.othc (by omega), BigB.ext (h.r8.set (show 0 < 20 by omega) _) (fun j _ => dig_low hb j), h.d9.othc (by omega)⟩
theorem DV.low7 {W w : World} {P Q R T A B C : Nat} {sx : Bool} {X q r b : Nat} (h : DV W w P Q R T A B C sx X q r) (hr : Rise7 W.heap.size P Q R T A B C) (hb : q % 65536 + b < 65536) :
    DV W (w.setCell ⟨A, 1, none⟩ (.int .u64 ((q % 65536 + b : Nat) : Int))) P Q R T A B C sx X (q + b) r := by
  have h1 := hr.pq; have h2 := hr.qr; have h3 := hr.rt; have h4 := hr.ta; have h5 := hr.ab; have h6 := hr.bc; have h0 := hr.n
  exact ⟨h.later.setCell (by show W.heap.size ≤ A; omega) _, h.p.othc (by omega), h.c.othc (by omega), h.r1.othc (by omega), h.r2.othc (by omega), BigB.ext (h.q7.set (show 0 < 20 by omega) _) (fun j _ => dig_low hb j), h.r8.othc (by omega), h.d9.othc (by omega)⟩
theorem div_step {h k X : Nat} (hh : h = X / 2 ^ (k + 1)) : X / 2 ^ k = 2 * h + X / 2 ^ k % 2 := by
  have h1 : h = X / 2 ^ k / 2 := by rw [hh, Nat.pow_succ, Nat.div_div_eq_div_mul]
  omega

theorem results_ccb {P : Program} {w : World} {fn : Func} {a b c : Tmp} {t : TypeId} (h : fn.results = #[.cell a t, .cell b t, .tmp c]) (tmps : Array Value) {p q : Addr} {v u : Value} (hp : tmps.getD a undef = .pointer (some p)) (hl : (loadVar t p).run P w = .ok v w)
    (hq : tmps.getD b undef = .pointer (some q)) (hm : (loadVar t q).run P w = .ok u w) : (results fn tmps).run P w = .ok (.tuple #[v, u, tmps.getD c undef]) w := by
  rw [Array.getD_eq_getD_getElem?] at hp hq
  simp [results, h, hp, hq, hl, hm, asAddr, Sem.run_bind]
set_option maxRecDepth 100000 in
set_option maxHeartbeats 4000000 in
theorem bdiv_any (x : Int) (W : World) (hx : x.natAbs < bP 9) :
    Calls Try.prog 117 #[.agg (bigI x), .agg (bigI 65536)] W fun e w' => e = .returned (.tuple #[.agg (bigI (x / 65536)), .agg (bigI (x % 65536)), .int .i64 0]) ∧ Later W w' := by
  have h16 : (65536 : Nat) < bP 20 := by rw [show bP 20 = bP 9 * bP 11 from bP_add 9 11]; exact Nat.lt_of_lt_of_le (show 65536 < bP 9 by rw [bP_9]; decide) (Nat.le_mul_of_pos_right _ (bP_pos 11))
  have h920 : bP 9 * 4 ≤ bP 20 := by rw [show bP 20 = bP 9 * bP 11 from bP_add 9 11]; exact Nat.mul_le_mul_left _ (show 4 ≤ bP 11 by rw [show bP 11 = 65536 * bP 10 from by rw [bP_succ, Nat.mul_comm]]; have := bP_pos 10; omega)
  have hb9 : 65536 ≤ bP 9 := by rw [bP_9]; decide
  obtain ⟨BQ, hBQ⟩ : ∃ B, Hid (bigI (x / 65536) = B) := ⟨_, rfl⟩
  obtain ⟨BR, hBR⟩ : ∃ B, Hid (bigI (x % 65536) = B) := ⟨_, rfl⟩
  rw [hBQ.out, hBR.out]
  have hMuA := Lib.hid (fun V => bmul_any (x / 65536) 65536 V (by omega) (by rw [bP_9]; decide))
  have hNeA := Lib.hid (fun V => bneg_any (x / 65536 * 65536) V (by omega))
  have hAdA := Lib.hid (fun V => badd_any x (-(x / 65536 * 65536)) V (by omega))
  rw [show x + -(x / 65536 * 65536) = x % 65536 by omega] at hAdA
  obtain ⟨BC, hBC⟩ : ∃ B, Hid (bigI 65536 = B) := ⟨_, rfl⟩
  obtain ⟨m1, hm1⟩ : ∃ B, Hid (bigI (x / 65536 * 65536) = B) := ⟨_, rfl⟩
  obtain ⟨m2, hm2⟩ : ∃ B, Hid (bigI (-(x / 65536 * 65536)) = B) := ⟨_, rfl⟩
  rw [hBQ.out, hBC.out, hm1.out] at hMuA
  rw [hm1.out, hm2.out] at hNeA
  rw [hm2.out, hBR.out] at hAdA
  rw [show bigI 65536 = bigV false (dig 65536) from rfl]
  rw [show bigI x = bigV (decide (x < 0)) (dig x.natAbs) from rfl]
  obtain ⟨X, hX⟩ : ∃ X, Hid (x.natAbs = X) := ⟨_, rfl⟩
  obtain ⟨sx, hsx⟩ : ∃ X, Hid (decide (x < 0) = X) := ⟨_, rfl⟩
  rw [show bigI x = bigV (decide (x < 0)) (dig x.natAbs) from rfl, hX.out, hsx.out] at hAdA
  rw [hX.out] at hx ⊢
  rw [hsx.out]
  have hNc := Lib.hid (fun V => none_any false 65536 V h16)
  rw [show decide ((65536 : Nat) = 0) = false from rfl] at hNc
  obtain ⟨bx, hbx⟩ : ∃ b, Hid (bigV sx (dig X) = b) := ⟨_, rfl⟩
  obtain ⟨Y, hY⟩ : ∃ Y : Nat, Hid ((65536 : Nat) = Y) := ⟨_, rfl⟩
  obtain ⟨sy, hsy⟩ : ∃ s, Hid (false = s) := ⟨_, rfl⟩
  obtain ⟨by', hby⟩ : ∃ b, Hid (bigV false (dig 65536) = b) := ⟨_, rfl⟩
  rw [hbx.out, hby.out]
  rw [hbx.out] at hAdA
  have hbx' := hbx
  rw [hY.out, hsy.out] at hby
  go_enter Try.func117, Try.ntmps117
  go_upto_region 1 with fail
  obtain ⟨Z0, hZ0⟩ : ∃ Z, Z = (((W.alloc (.cells bx 167)).alloc (.cells by' 167)).alloc (.cells #[.bool false, .int .u64 0, .int .u64 0, .int .u64 0, .int .u64 0, .int .u64 0, .int .u64 0, .int .u64 0, .int .u64 0, .int .u64 0, .int .u64 0, .int .u64 0, .int .u64 0, .int .u64 0, .int .u64 0, .int .u64 0, .int .u64 0, .int .u64 0, .int .u64 0, .int .u64 0, .int .u64 0] 167)).alloc (.cells #[.bool false, .int .u64 0, .int .u64 0, .int .u64 0, .int .u64 0, .int .u64 0, .int .u64 0, .int .u64 0, .int .u64 0, .int .u64 0, .int .u64 0, .int .u64 0, .int .u64 0, .int .u64 0, .int .u64 0, .int .u64 0, .int .u64 0, .int .u64 0, .int .u64 0, .int .u64 0, .int .u64 0] 167) := ⟨_, rfl⟩
  have hlZ : Later W Z0 := by rw [hZ0]; exact ((((Later.refl W).alloc _).alloc _).alloc _).alloc _
  have kA : BigB Z0 W.heap.size sx (dig X) := by unfold BigB; rw [hbx.out, hZ0]; exact push_one (push_one (push_one (heap_alloc_new _ _) _) _) _
  have kB : BigB Z0 (W.heap.size + 1) sy (dig Y) := by unfold BigB; rw [hby.out, hZ0]; exact push_one (push_one (push_new _ _ (by simp)) _) _
  have kR : BigB Z0 (W.heap.size + 1 + 1) false (dig 0) := by unfold BigB; rw [big_zero, hZ0]; exact push_one (push_new _ _ (by simp)) _
  have kT : BigB Z0 (W.heap.size + 1 + 1 + 1) false (dig 0) := by unfold BigB; rw [big_zero, hZ0]; exact push_new _ _ (by simp)
  rw [← hZ0]
  clear hZ0 hbx hby
  obtain ⟨P, hP⟩ : ∃ n, Hid (W.heap.size = n) := ⟨_, rfl⟩
  obtain ⟨Q, hQ⟩ : ∃ n, Hid (P + 1 = n) := ⟨_, rfl⟩
  obtain ⟨R, hR⟩ : ∃ n, Hid (Q + 1 = n) := ⟨_, rfl⟩
  obtain ⟨T, hT⟩ : ∃ n, Hid (R + 1 = n) := ⟨_, rfl⟩
  have hWP : W.heap.size ≤ P := Nat.le_of_eq hP.out
  have hPQ : P < Q := by have := hQ.out; omega
  have hQR : Q < R := by have := hR.out; omega
  have hRT : R < T := by have := hT.out; omega
  rw [hP.out] at kA kB kR kT ⊢
  rw [hQ.out] at kB kR kT ⊢
  rw [hR.out] at kR kT ⊢
  rw [hT.out] at kT ⊢
  clear hP hQ hR hT
  rw [← hY.out, ← hsy.out] at kB
  clear hY hsy
  first | go_step3 | skip
  go_wp2_with (refine wpList_load_row rfl _ _ rfl Q rfl _ _ (0, 0) _ kB Try.underlying167 rfl (size_big _ _) ?_)
  refine (hNc.out _).mono ?_
  rintro e w1 ⟨rfl, h1⟩
  have hTl := Nat.lt_of_lt_of_le kT.lt h1.size
  replace kA := kA.later h1
  replace kB := kB.later h1
  replace kR := kR.later h1
  replace kT := kT.later h1
  replace hlZ := hlZ.trans h1
  clear hNc h1
  go_upto_region 5 with fail
  obtain ⟨V, hV⟩ : ∃ V, V = (w1.alloc (.cells #[.bool false, .int .u64 0, .int .u64 0, .int .u64 0, .int .u64 0, .int .u64 0, .int .u64 0, .int .u64 0, .int .u64 0, .int .u64 0, .int .u64 0, .int .u64 0, .int .u64 0, .int .u64 0, .int .u64 0, .int .u64 0, .int .u64 0, .int .u64 0, .int .u64 0, .int .u64 0, .int .u64 0] 167)).alloc (.cells #[.bool false, .int .u64 0, .int .u64 0, .int .u64 0, .int .u64 0, .int .u64 0, .int .u64 0, .int .u64 0, .int .u64 0, .int .u64 0, .int .u64 0, .int .u64 0, .int .u64 0, .int .u64 0, .int .u64 0, .int .u64 0, .int .u64 0, .int .u64 0, .int .u64 0, .int .u64 0, .int .u64 0] 167) := ⟨_, rfl⟩
  have hlV : Later w1 V := by rw [hV]; exact ((Later.refl w1).alloc _).alloc _
  have vA : BigB V w1.heap.size false (dig 0) := by unfold BigB; rw [big_zero, hV]; exact push_one (heap_alloc_new _ _) _
  have vB : BigB V (w1.heap.size + 1) false (dig 0) := by unfold BigB; rw [big_zero, hV]; exact push_new _ _ (by simp)
  have hVs : V.heap.size = w1.heap.size + 1 + 1 := by rw [hV]; simp
  rw [← hV]
  clear hV
  replace kA := kA.later hlV
  replace kB := kB.later hlV
  replace kR := kR.later hlV
  replace kT := kT.later hlV
  replace hlZ := hlZ.trans hlV
  have hTw : T < w1.heap.size := by
    have := kT.lt
    have h2 := hTl
    omega
  replace hVs := Lib.hid hVs
  have hnew := heap_alloc_new V (.cells #[.bool false, .int .u64 0, .int .u64 0, .int .u64 0, .int .u64 0, .int .u64 0, .int .u64 0, .int .u64 0, .int .u64 0, .int .u64 0, .int .u64 0, .int .u64 0, .int .u64 0, .int .u64 0, .int .u64 0, .int .u64 0, .int .u64 0, .int .u64 0, .int .u64 0, .int .u64 0, .int .u64 0] 167)
  have hsr : (V.alloc (.cells #[.bool false, .int .u64 0, .int .u64 0, .int .u64 0, .int .u64 0, .int .u64 0, .int .u64 0, .int .u64 0, .int .u64 0, .int .u64 0, .int .u64 0, .int .u64 0, .int .u64 0, .int .u64 0, .int .u64 0, .int .u64 0, .int .u64 0, .int .u64 0, .int .u64 0, .int .u64 0, .int .u64 0] 167)).setRow V.heap.size (bigV false (dig 65536)) = V.alloc (.cells (bigV false (dig 65536)) 167) := World.setRow_alloc_new _ _ _ _
  replace hnew := Lib.hid hnew
  replace hsr := Lib.hid hsr
  have hbz : Hid ((#[.bool false, .int .u64 0, .int .u64 0, .int .u64 0, .int .u64 0, .int .u64 0, .int .u64 0, .int .u64 0, .int .u64 0, .int .u64 0, .int .u64 0, .int .u64 0, .int .u64 0, .int .u64 0, .int .u64 0, .int .u64 0, .int .u64 0, .int .u64 0, .int .u64 0, .int .u64 0, .int .u64 0] : Array Value).size = 21) := Lib.hid rfl
  first | go_step3 | skip
  go_upto_region 6 with (first | refine wpList_load_row rfl _ _ rfl Q rfl _ _ (0, 0) _ kB Try.underlying167 rfl (size_big _ _) ?_ | refine wpList_store_row rfl 167 _ _ rfl V.heap.size (bigV false (dig 65536)) rfl rfl 167 #[.bool false, .int .u64 0, .int .u64 0, .int .u64 0, .int .u64 0, .int .u64 0, .int .u64 0, .int .u64 0, .int .u64 0, .int .u64 0, .int .u64 0, .int .u64 0, .int .u64 0, .int .u64 0, .int .u64 0, .int .u64 0, .int .u64 0, .int .u64 0, .int .u64 0, .int .u64 0, .int .u64 0] hnew.out (size_big _ _) (by rw [bigV_size]; exact hbz.out) (bigV_one _ _) ?_)
  rw [hsr.out]
  clear hsr hnew hbz
  obtain ⟨U, hU⟩ : ∃ U, U = V.alloc (.cells (bigV false (dig 65536)) 167) := ⟨_, rfl⟩
  have hlU : Later V U := by rw [hU]; exact (Later.refl V).alloc _
  have kC : BigB U V.heap.size false (dig 65536) := by rw [hU]; exact heap_alloc_new _ _
  rw [← hU]
  clear hU
  replace hVs := hVs.out
  have cC := kC.sign
  have fC := kC.frozen 0
  have hDV0 : DV W (U.setCell ⟨V.heap.size, 0, none⟩ (.bool false)) P Q R T w1.heap.size (w1.heap.size + 1) V.heap.size sx X 0 0 :=
    ⟨(hlZ.trans hlU).setCell (by show W.heap.size ≤ V.heap.size; exact hlZ.size) _, (kA.later hlU).othc (by omega), (kB.later hlU).othc (by omega), (kR.later hlU).othc (by omega), (kT.later hlU).othc (by omega), (vA.later hlU).othc (by omega), (vB.later hlU).othc (by omega), kC.setSign false⟩
  have hR7 : Rise7 W.heap.size P Q R T w1.heap.size (w1.heap.size + 1) V.heap.size := ⟨hWP, hPQ, hQR, hRT, hTw, by omega, by omega⟩
  replace hVs := Lib.hid hVs
  go_upto_region 7 with fail
  obtain ⟨Z1, hZ1⟩ : ∃ Z, Z = U.setCell ⟨V.heap.size, 0, none⟩ (.bool false) := ⟨_, rfl⟩
  rw [← hZ1] at hDV0 ⊢
  clear hZ1 cC fC kC hlU kA kB kR kT vA vB hlV
  obtain ⟨A, hA⟩ : ∃ n, Hid (w1.heap.size = n) := ⟨_, rfl⟩
  obtain ⟨B, hB⟩ : ∃ n, Hid (A + 1 = n) := ⟨_, rfl⟩
  obtain ⟨C, hC⟩ : ∃ n, Hid (V.heap.size = n) := ⟨_, rfl⟩
  rw [hA.out, hB.out, hC.out] at hDV0 hR7
  rw [hA.out, hB.out, hC.out]
  clear hA hB hC hVs hTw hlZ hTl
  go_wp2_with fail
  go_loopw [10] (fun y wr => ∃ i : Nat, i ≤ 144 ∧ y = .int .i64 ((i : Int) - 1) ∧ DV W wr P Q R T A B C sx X (X / 2 ^ i / 65536) (X / 2 ^ i % 65536)) (fun y _ => (intOf y + 1).toNat)
  case atStart => exact ⟨144, by omega, by go_num, by
    have h0 : X / 2 ^ 144 = 0 := Nat.div_eq_of_lt (by rw [← bP_9]; exact hx)
    rw [h0]; exact hDV0⟩
  case round =>
    obtain ⟨i, hi, rfl, hd⟩ := hrel
    obtain ⟨wi, rfl⟩ : ∃ wo : World, wo = wr := ⟨_, rfl⟩
    cases i with
    | zero =>
      rw [show (((0 : Nat) : Int) - 1) = -1 from rfl]
      rw [Nat.pow_zero, Nat.div_one] at hd
      have hql : X / 65536 < bP 9 := Nat.lt_of_le_of_lt (Nat.div_le_self _ _) hx
      obtain ⟨q, hq⟩ : ∃ n, Hid (X / 65536 = n) := ⟨_, rfl⟩
      obtain ⟨r, hr⟩ : ∃ n, Hid (X % 65536 = n) := ⟨_, rfl⟩
      rw [hq.out, hr.out] at hd
      rw [hq.out] at hql
      have hrl : r < 65536 := by rw [← hr.out]; omega
      have cP := hd.p.sign
      have cQ := hd.c.sign
      have cA := hd.q7.sign
      have fA := hd.q7.frozen 0
      cases sx
      · obtain ⟨w6, rfl⟩ : ∃ w, w = wi := ⟨_, rfl⟩
        have hd6 := hd
        have cA6 := cA
        have fA6 := fA
        go_upto_region 24 with fail
        have hbx := hbx'
        have hEq : bigI (x / 65536) = bigV false (dig q) := by
          have h1 := hq.out
          have h2 := hr.out
          have h5 := of_decide_eq_false hsx.out
          have h6 := hX.out
          have h7 : (x / 65536).natAbs = q := by omega
          unfold bigI
          rw [h7, decide_eq_false (show ¬ x / 65536 < 0 by omega)]
        clear cP cQ cA fA hd
        obtain ⟨V, hV⟩ : ∃ V, V = w6.setCell ⟨A, 0, none⟩ (.bool false) := ⟨_, rfl⟩
        have vA : BigB V A false (dig (q)) := by rw [hV]; exact hd6.q7.setSign false
        have hra := hR7.ta
        have vP : BigB V P false (dig X) := by rw [hV]; exact hd6.p.othc (by omega)
        have vQ : BigB V Q false (dig 65536) := by rw [hV]; exact hd6.c.othc (by omega)
        have vR : BigB V R false (dig 0) := by rw [hV]; exact hd6.r1.othc (by omega)
        have vT : BigB V T false (dig 0) := by rw [hV]; exact hd6.r2.othc (by omega)
        have hlV : Later W V := by rw [hV]; exact hd6.later.setCell (by show W.heap.size ≤ A; omega) _
        rw [← hV]
        clear hV hd6 cA6 fA6
        have eA := hEq.symm
        unfold BigB at vA vP vQ
        rw [eA, hBQ.out] at vA
        rw [hbx.out] at vP
        rw [show bigV false (dig 65536) = bigI 65536 from rfl, hBC.out] at vQ
        obtain ⟨n21, hn21⟩ : ∃ n, Hid ((21 : Nat) = n) := ⟨_, rfl⟩
        have hsz : ∀ w, (sizeOf 167).run Try.prog w = .ok n21 w := fun w => by rw [← hn21.out]; kernel_rfl
        obtain ⟨lQ, hlQ⟩ : ∃ l, Hid (BQ.toList = l) := ⟨_, rfl⟩
        obtain ⟨lX, hlX⟩ : ∃ l, Hid (bx.toList = l) := ⟨_, rfl⟩
        obtain ⟨lC, hlC⟩ : ∃ l, Hid (BC.toList = l) := ⟨_, rfl⟩
        have aQ : BQ = lQ.toArray := by rw [← hlQ.out]
        have aX : bx = lX.toArray := by rw [← hlX.out]
        have aC : BC = lC.toArray := by rw [← hlC.out]
        have lenQ : lQ.length = 21 := by rw [← hlQ.out, Array.length_toList, ← hBQ.out]; exact bigV_size _ _
        have lenX : lX.length = 21 := by rw [← hlX.out, Array.length_toList, ← hbx.out]; exact bigV_size _ _
        have lenC : lC.length = 21 := by rw [← hlC.out, Array.length_toList, ← hBC.out]; exact bigV_size _ _
        have szQ : BQ.size = n21 := by rw [← hBQ.out, ← hn21.out]; exact bigV_size _ _
        have szR : BR.size = n21 := by rw [← hBR.out, ← hn21.out]; exact bigV_size _ _
        rw [aQ] at vA
        rw [aX] at vP
        rw [aC] at vQ
        have rA := row_rang vA
        have rP := row_rang vP
        have rQ := row_rang vQ
        have hlcA : ∀ w : World, w.rangeAt A 0 lQ → (loadCellsFrom ⟨A, 0, none⟩ 0 n21 #[]).run Try.prog w = .ok lQ.toArray w := fun w h => by
          rw [← hn21.out, ← lenQ]
          exact run_loadCells_list (P := Try.prog) w ⟨A, 0, none⟩ lQ (fun j v hv => by rw [Addr.add_mid]; exact h j v hv)
        have hlcP : ∀ w : World, w.rangeAt P 0 lX → (loadCellsFrom ⟨P, 0, none⟩ 0 n21 #[]).run Try.prog w = .ok lX.toArray w := fun w h => by
          rw [← hn21.out, ← lenX]
          exact run_loadCells_list (P := Try.prog) w ⟨P, 0, none⟩ lX (fun j v hv => by rw [Addr.add_mid]; exact h j v hv)
        have hlcQ : ∀ w : World, w.rangeAt Q 0 lC → (loadCellsFrom ⟨Q, 0, none⟩ 0 n21 #[]).run Try.prog w = .ok lC.toArray w := fun w h => by
          rw [← hn21.out, ← lenC]
          exact run_loadCells_list (P := Try.prog) w ⟨Q, 0, none⟩ lC (fun j v hv => by rw [Addr.add_mid]; exact h j v hv)
        have hS : Hid (∀ U, Later V U → (U.rangeAt A 0 lQ ∧ U.rangeAt P 0 lX ∧ U.rangeAt Q 0 lC)) := Lib.hid (fun U h => ⟨rangeAt_latr rA h, rangeAt_latr rP h, rangeAt_latr rQ h⟩)
        have hoth : ∀ (U : World) (M N : Nat) (cs : Array Value) (l : List Value), M ≠ N → U.rangeAt M 0 l → (U.setRow N cs).rangeAt M 0 l := fun U M N cs l hne h j v hv =>
          (World.cell?_of_block (a := ⟨M, 0 + j, none⟩) (setRow_other U N M cs hne)).trans (h j v hv)
        have hS2 : Hid (∀ U, Later V U → ((U.setRow R BQ).rangeAt A 0 lQ ∧ (U.setRow R BQ).rangeAt P 0 lX ∧ (U.setRow R BQ).rangeAt Q 0 lC)) := Lib.hid (fun U h => ⟨hoth _ _ _ _ _ (by omega) (hS.out U h).1, hoth _ _ _ _ _ (by omega) (hS.out U h).2.1, hoth _ _ _ _ _ (by omega) (hS.out U h).2.2⟩)
        have hS3 : Hid (∀ U, Later V U → (((U.setRow R BQ).setRow T BR).rangeAt A 0 lQ ∧ ((U.setRow R BQ).setRow T BR).rangeAt P 0 lX ∧ ((U.setRow R BQ).setRow T BR).rangeAt Q 0 lC)) := Lib.hid (fun U h => ⟨hoth _ _ _ _ _ (by omega) (hS2.out U h).1, hoth _ _ _ _ _ (by omega) (hS2.out U h).2.1, hoth _ _ _ _ _ (by omega) (hS2.out U h).2.2⟩)
        have oQ : BQ.all (·.oneCell') = true := by rw [← hBQ.out]; exact bigV_one _ _
        have oR : BR.all (·.oneCell') = true := by rw [← hBR.out]; exact bigV_one _ _
        have sQ21 : (bigV false (dig 0)).size = BQ.size := by rw [bigV_size, szQ]; exact hn21.out
        have sR21 : (bigV false (dig 0)).size = BR.size := by rw [bigV_size, szR]; exact hn21.out
        have szL : lQ.length = n21 := by rw [lenQ]; exact hn21.out
        have hst1 : Hid (∀ U, Later V U → (storeCells ⟨R, 0, none⟩ lQ).run Try.prog U = .ok () (U.setRow R BQ)) := Lib.hid (fun U h => by rw [← hlQ.out]; exact store_roww (h.row vR) sQ21 oQ)
        have hst2 : Hid (∀ U, Later V U → (storeCells ⟨T, 0, none⟩ BR.toList).run Try.prog (U.setRow R BQ) = .ok () ((U.setRow R BQ).setRow T BR)) := Lib.hid (fun U h => store_roww ((setRow_other _ _ _ _ (show T ≠ R by omega)).trans (h.row vT)) sR21 oR)
        have kfin : Hid (∀ U, Later V U → (loadVar 167 ⟨R, 0, none⟩).run Try.prog ((U.setRow R BQ).setRow T BR) = .ok (.agg BQ) ((U.setRow R BQ).setRow T BR) ∧ (loadVar 167 ⟨T, 0, none⟩).run Try.prog ((U.setRow R BQ).setRow T BR) = .ok (.agg BR) ((U.setRow R BQ).setRow T BR) ∧ Later W ((U.setRow R BQ).setRow T BR)) := Lib.hid (fun U h => by
          have k1 : BigB (U.setRow R BQ) R (decide (x / 65536 < 0)) (dig (x / 65536).natAbs) := setRow_big (vR.later h) (by rw [← hBQ.out]; rfl)
          have k2 : BigB ((U.setRow R BQ).setRow T BR) R (decide (x / 65536 < 0)) (dig (x / 65536).natAbs) := k1.other (by omega)
          have k3 : BigB ((U.setRow R BQ).setRow T BR) T (decide (x % 65536 < 0)) (dig (x % 65536).natAbs) := setRow_big ((vT.later h).other (by omega)) (by rw [← hBR.out]; rfl)
          refine ⟨?_, ?_, ((hlV.trans h).setRow (by omega) _).setRow (by omega) _⟩
          · rw [show BQ = bigV (decide (x / 65536 < 0)) (dig (x / 65536).natAbs) from hBQ.out.symm] at k2 ⊢
            exact load_big k2
          · rw [show BR = bigV (decide (x % 65536 < 0)) (dig (x % 65536).natAbs) from hBR.out.symm] at k3 ⊢
            exact load_big k3)
        have hMu := hMuA
        have hNe := hNeA
        have hAd := hAdA
        rw [aQ, aC] at hMu
        rw [aX] at hAd
        have hdZ : Later V V.drew := (Later.refl V).drew
        rw [aQ] at hst1 hst2 hS2 hS3 kfin
        have eQ : Hid (lQ.toArray = BQ) := Lib.hid aQ.symm
        clear aQ
        clear aX aC vA vP vQ rA rP rQ hoth lenQ lenX lenC hMuA hNeA hAdA oQ oR sQ21 sR21 eA hEq vR vT
        first | go_step3 | skip
        go_region_held3 (fun U => U.rangeAt A 0 lQ ∧ U.rangeAt P 0 lX ∧ U.rangeAt Q 0 lC) ((first | (with_reducible exact hS.out _ hdZ) | (with_reducible exact hS3.out _ hL3) | (with_reducible exact hS2.out _ hL3) | (with_reducible exact hS.out _ hL3) | (with_reducible exact hS.out _ hL2) | (with_reducible exact hS.out _ hL1))) (first | (go_at_call 115; with_reducible refine (hMu.out _).mono ?_; rintro e V1 ⟨rfl, hLa⟩; have hL1 := hdZ.trans hLa) | (go_at_call 127; with_reducible refine (hNe.out _).mono ?_; rintro e V2 ⟨rfl, hLb⟩; have hL2 := hL1.trans hLb) | (go_at_call 116; with_reducible refine (hAd.out _).mono ?_; rintro e V3 ⟨rfl, hLc⟩; have hL3 := hL2.trans hLc; have hsa := hst1.out _ hL3; have hsb := hst2.out _ hL3))
        go_wp2_with fail
        obtain ⟨f1, f2, f3⟩ := kfin.out _ hL3
        exact bodyPost_ret (v := .tuple #[.agg lQ.toArray, .agg BR, .int .i64 0]) (results_ccb (a := 4) (b := 5) (c := 6) (t := 167) (by kernel_rfl) _ rfl f1 rfl f2) rfl ⟨by rw [eQ.out], f3⟩
      · have hNr := Lib.hid (fun V => none_any false r V (by omega))
        obtain ⟨rz, hrz⟩ : ∃ b, Hid (decide (r = 0) = b) := ⟨_, rfl⟩
        rw [hrz.out] at hNr
        have k8 := hd.r8
        go_wp2_with (refine wpList_load_roww rfl _ _ rfl B rfl _ _ (0, 0) _ k8 Try.underlying167 rfl (size_big _ _) ?_)
        refine (hNr.out _).mono ?_
        rintro e w2 ⟨rfl, h2⟩
        replace hd := hd.next h2
        clear hNr k8 h2 cP cQ cA fA
        cases rz
        · have k7 := hd.q7
          obtain ⟨n21, hn21⟩ : ∃ n, Hid ((21 : Nat) = n) := ⟨_, rfl⟩
          have hsz : ∀ w, (sizeOf 167).run Try.prog w = .ok n21 w := fun w => by rw [← hn21.out]; kernel_rfl
          have hO1 := Lib.hid (fun V => bof_any 1 V (by omega))
          have hAd := Lib.hid (fun V => badd_any (q : Int) 1 V (by omega))
          have hqI : bigI (q : Int) = bigV false (dig q) := by unfold bigI; rw [decide_eq_false (by omega), Int.natAbs_natCast]
          have hq1 : bigI ((q : Int) + 1) = bigV false (dig (q + 1)) := by
            have := show ((q : Int) + 1) = ((q + 1 : Nat) : Int) by omega
            rw [this]; unfold bigI; rw [decide_eq_false (by omega), Int.natAbs_natCast]
          rw [hqI, hq1] at hAd
          obtain ⟨b1, hb1⟩ : ∃ b, Hid (bigI 1 = b) := ⟨_, rfl⟩
          obtain ⟨ca, hca⟩ : ∃ l, Hid ((bigV false (dig q)).toList = l) := ⟨_, rfl⟩
          have hca2 : bigV false (dig q) = ca.toArray := by rw [← hca.out]
          obtain ⟨bq, hbq⟩ : ∃ b, Hid (bigV false (dig (q + 1)) = b) := ⟨_, rfl⟩
          rw [hb1.out] at hO1 hAd
          rw [hca2, hbq.out] at hAd
          have hbs : bq.size = n21 := by rw [← hbq.out, bigV_size]; exact hn21.out
          have hbo : bq.all (·.oneCell') = true := by rw [← hbq.out]; exact bigV_one _ _
          have hcl : ca.length = 21 := by rw [← hca.out, Array.length_toList, bigV_size]
          have hlc : ∀ w : World, w.rangeAt A 0 ca → (loadCellsFrom ⟨A, 0, none⟩ 0 n21 #[]).run Try.prog w = .ok ca.toArray w := fun w h => by
            rw [← hn21.out, ← hcl]
            exact run_loadCells_list (P := Try.prog) w ⟨A, 0, none⟩ ca (fun j v hv => by rw [Addr.add_mid]; exact h j v hv)
          have rA : w2.rangeAt A 0 ca := by
            have h0 : w2.heap[A]? = some (.cells ca.toArray 167 (0, 0)) := by rw [← hca2]; exact k7
            exact row_rang h0
          have hlcx : Hid (∀ V, Later w2 V → (loadCellsFrom ⟨A, 0, none⟩ 0 n21 #[]).run Try.prog V = .ok ca.toArray V) := Lib.hid (fun V h => hlc V (rangeAt_latr rA h))
          have hsto : Hid (∀ V, Later w2 V → (storeCells ⟨A, 0, none⟩ bq.toList).run Try.prog V = .ok () (V.setRow A bq)) := Lib.hid (fun V h => store_roww (h.row k7) (by rw [← hbq.out, bigV_size, bigV_size]) hbo)
          have hdZ : Later w2 w2.drew := (Later.refl w2).drew
          replace hbo := Lib.hid hbo
          clear hqI hq1 rA k7 hca2 hlc
          go_upto_region 22 with fail
          have hlc0 := hlcx.out _ hdZ
          have hdn : Hid (∀ V, Later w2 V → DV W (V.setRow A bq) P Q R T A B C true X (q + 1) r) := Lib.hid (fun V h => by rw [← hbq.out]; exact (hd.next h).row7 hR7)
          go_cut [6] from 73 to 75 (fun u wx => u = .int .i64 0 ∧ DV W wx P Q R T A B C true X (q + 1) r)
          case first =>
            go_region_with (first | (go_at_call 114; with_reducible refine (hO1.out _).mono ?_; rintro e V1 ⟨rfl, hLa⟩; have hL1 := hdZ.trans hLa; have hlc1 := hlcx.out _ hL1) | (go_at_call 116; with_reducible refine (hAd.out _).mono ?_; rintro e V2 ⟨rfl, hLb⟩; have hL2 := hL1.trans hLb; have hst2 := hsto.out _ hL2))
            all_goals
              rename_i JJ KK hj hk
              refine hk _ _ (Met.intro (hj _ _ ?_))
              (repeat apply Exists.intro)
              exact ⟨⟨rfl, hdn.out _ hL2⟩, rfl⟩
          case rest =>
          obtain ⟨rfl, hd2⟩ := hcut
          clear hdn hsto hlcx hd hlc0 hO1 hAd hsz
          have hNq := Lib.hid (fun V => none_any false (q + 1) V (by omega))
          rw [show decide (q + 1 = 0) = false from decide_eq_false (by omega)] at hNq
          have cP := (hd2).p.sign
          have cQ := (hd2).c.sign
          have k7 := (hd2).q7
          go_wp2_with (refine wpList_load_roww rfl _ _ rfl A rfl _ _ (0, 0) _ k7 Try.underlying167 rfl (size_big _ _) ?_)
          refine ((hNq).out _).mono ?_
          rintro e w6 ⟨rfl, h6⟩
          have hd6 := (hd2).next h6
          have cA6 := hd6.q7.sign
          have fA6 := hd6.q7.frozen 0
          clear k7 cP cQ h6
          go_upto_region 24 with fail
          have hbx := hbx'
          have hEq : bigI (x / 65536) = bigV true (dig (q + 1)) := by
            have h1 := hq.out
            have h2 := hr.out
            have h3 : ¬ r = 0 := of_decide_eq_false hrz.out
            have h5 := of_decide_eq_true hsx.out
            have h6 := hX.out
            have h7 : (x / 65536).natAbs = q + 1 := by omega
            unfold bigI
            rw [h7, decide_eq_true (show x / 65536 < 0 by omega)]
          obtain ⟨V, hV⟩ : ∃ V, V = w6.setCell ⟨A, 0, none⟩ (.bool true) := ⟨_, rfl⟩
          have vA : BigB V A true (dig (q + 1)) := by rw [hV]; exact hd6.q7.setSign true
          have hra := hR7.ta
          have vP : BigB V P true (dig X) := by rw [hV]; exact hd6.p.othc (by omega)
          have vQ : BigB V Q false (dig 65536) := by rw [hV]; exact hd6.c.othc (by omega)
          have vR : BigB V R false (dig 0) := by rw [hV]; exact hd6.r1.othc (by omega)
          have vT : BigB V T false (dig 0) := by rw [hV]; exact hd6.r2.othc (by omega)
          have hlV : Later W V := by rw [hV]; exact hd6.later.setCell (by show W.heap.size ≤ A; omega) _
          rw [← hV]
          clear hV hd6 cA6 fA6
          have eA := hEq.symm
          unfold BigB at vA vP vQ
          rw [eA, hBQ.out] at vA
          rw [hbx.out] at vP
          rw [show bigV false (dig 65536) = bigI 65536 from rfl, hBC.out] at vQ
          obtain ⟨n21, hn21⟩ : ∃ n, Hid ((21 : Nat) = n) := ⟨_, rfl⟩
          have hsz : ∀ w, (sizeOf 167).run Try.prog w = .ok n21 w := fun w => by rw [← hn21.out]; kernel_rfl
          obtain ⟨lQ, hlQ⟩ : ∃ l, Hid (BQ.toList = l) := ⟨_, rfl⟩
          obtain ⟨lX, hlX⟩ : ∃ l, Hid (bx.toList = l) := ⟨_, rfl⟩
          obtain ⟨lC, hlC⟩ : ∃ l, Hid (BC.toList = l) := ⟨_, rfl⟩
          have aQ : BQ = lQ.toArray := by rw [← hlQ.out]
          have aX : bx = lX.toArray := by rw [← hlX.out]
          have aC : BC = lC.toArray := by rw [← hlC.out]
          have lenQ : lQ.length = 21 := by rw [← hlQ.out, Array.length_toList, ← hBQ.out]; exact bigV_size _ _
          have lenX : lX.length = 21 := by rw [← hlX.out, Array.length_toList, ← hbx.out]; exact bigV_size _ _
          have lenC : lC.length = 21 := by rw [← hlC.out, Array.length_toList, ← hBC.out]; exact bigV_size _ _
          have szQ : BQ.size = n21 := by rw [← hBQ.out, ← hn21.out]; exact bigV_size _ _
          have szR : BR.size = n21 := by rw [← hBR.out, ← hn21.out]; exact bigV_size _ _
          rw [aQ] at vA
          rw [aX] at vP
          rw [aC] at vQ
          have rA := row_rang vA
          have rP := row_rang vP
          have rQ := row_rang vQ
          have hlcA : ∀ w : World, w.rangeAt A 0 lQ → (loadCellsFrom ⟨A, 0, none⟩ 0 n21 #[]).run Try.prog w = .ok lQ.toArray w := fun w h => by
            rw [← hn21.out, ← lenQ]
            exact run_loadCells_list (P := Try.prog) w ⟨A, 0, none⟩ lQ (fun j v hv => by rw [Addr.add_mid]; exact h j v hv)
          have hlcP : ∀ w : World, w.rangeAt P 0 lX → (loadCellsFrom ⟨P, 0, none⟩ 0 n21 #[]).run Try.prog w = .ok lX.toArray w := fun w h => by
            rw [← hn21.out, ← lenX]
            exact run_loadCells_list (P := Try.prog) w ⟨P, 0, none⟩ lX (fun j v hv => by rw [Addr.add_mid]; exact h j v hv)
          have hlcQ : ∀ w : World, w.rangeAt Q 0 lC → (loadCellsFrom ⟨Q, 0, none⟩ 0 n21 #[]).run Try.prog w = .ok lC.toArray w := fun w h => by
            rw [← hn21.out, ← lenC]
            exact run_loadCells_list (P := Try.prog) w ⟨Q, 0, none⟩ lC (fun j v hv => by rw [Addr.add_mid]; exact h j v hv)
          have hS : Hid (∀ U, Later V U → (U.rangeAt A 0 lQ ∧ U.rangeAt P 0 lX ∧ U.rangeAt Q 0 lC)) := Lib.hid (fun U h => ⟨rangeAt_latr rA h, rangeAt_latr rP h, rangeAt_latr rQ h⟩)
          have hoth : ∀ (U : World) (M N : Nat) (cs : Array Value) (l : List Value), M ≠ N → U.rangeAt M 0 l → (U.setRow N cs).rangeAt M 0 l := fun U M N cs l hne h j v hv =>
            (World.cell?_of_block (a := ⟨M, 0 + j, none⟩) (setRow_other U N M cs hne)).trans (h j v hv)
          have hS2 : Hid (∀ U, Later V U → ((U.setRow R BQ).rangeAt A 0 lQ ∧ (U.setRow R BQ).rangeAt P 0 lX ∧ (U.setRow R BQ).rangeAt Q 0 lC)) := Lib.hid (fun U h => ⟨hoth _ _ _ _ _ (by omega) (hS.out U h).1, hoth _ _ _ _ _ (by omega) (hS.out U h).2.1, hoth _ _ _ _ _ (by omega) (hS.out U h).2.2⟩)
          have hS3 : Hid (∀ U, Later V U → (((U.setRow R BQ).setRow T BR).rangeAt A 0 lQ ∧ ((U.setRow R BQ).setRow T BR).rangeAt P 0 lX ∧ ((U.setRow R BQ).setRow T BR).rangeAt Q 0 lC)) := Lib.hid (fun U h => ⟨hoth _ _ _ _ _ (by omega) (hS2.out U h).1, hoth _ _ _ _ _ (by omega) (hS2.out U h).2.1, hoth _ _ _ _ _ (by omega) (hS2.out U h).2.2⟩)
          have oQ : BQ.all (·.oneCell') = true := by rw [← hBQ.out]; exact bigV_one _ _
          have oR : BR.all (·.oneCell') = true := by rw [← hBR.out]; exact bigV_one _ _
          have sQ21 : (bigV false (dig 0)).size = BQ.size := by rw [bigV_size, szQ]; exact hn21.out
          have sR21 : (bigV false (dig 0)).size = BR.size := by rw [bigV_size, szR]; exact hn21.out
          have szL : lQ.length = n21 := by rw [lenQ]; exact hn21.out
          have hst1 : Hid (∀ U, Later V U → (storeCells ⟨R, 0, none⟩ lQ).run Try.prog U = .ok () (U.setRow R BQ)) := Lib.hid (fun U h => by rw [← hlQ.out]; exact store_roww (h.row vR) sQ21 oQ)
          have hst2 : Hid (∀ U, Later V U → (storeCells ⟨T, 0, none⟩ BR.toList).run Try.prog (U.setRow R BQ) = .ok () ((U.setRow R BQ).setRow T BR)) := Lib.hid (fun U h => store_roww ((setRow_other _ _ _ _ (show T ≠ R by omega)).trans (h.row vT)) sR21 oR)
          have kfin : Hid (∀ U, Later V U → (loadVar 167 ⟨R, 0, none⟩).run Try.prog ((U.setRow R BQ).setRow T BR) = .ok (.agg BQ) ((U.setRow R BQ).setRow T BR) ∧ (loadVar 167 ⟨T, 0, none⟩).run Try.prog ((U.setRow R BQ).setRow T BR) = .ok (.agg BR) ((U.setRow R BQ).setRow T BR) ∧ Later W ((U.setRow R BQ).setRow T BR)) := Lib.hid (fun U h => by
            have k1 : BigB (U.setRow R BQ) R (decide (x / 65536 < 0)) (dig (x / 65536).natAbs) := setRow_big (vR.later h) (by rw [← hBQ.out]; rfl)
            have k2 : BigB ((U.setRow R BQ).setRow T BR) R (decide (x / 65536 < 0)) (dig (x / 65536).natAbs) := k1.other (by omega)
            have k3 : BigB ((U.setRow R BQ).setRow T BR) T (decide (x % 65536 < 0)) (dig (x % 65536).natAbs) := setRow_big ((vT.later h).other (by omega)) (by rw [← hBR.out]; rfl)
            refine ⟨?_, ?_, ((hlV.trans h).setRow (by omega) _).setRow (by omega) _⟩
            · rw [show BQ = bigV (decide (x / 65536 < 0)) (dig (x / 65536).natAbs) from hBQ.out.symm] at k2 ⊢
              exact load_big k2
            · rw [show BR = bigV (decide (x % 65536 < 0)) (dig (x % 65536).natAbs) from hBR.out.symm] at k3 ⊢
              exact load_big k3)
          have hMu := hMuA
          have hNe := hNeA
          have hAd := hAdA
          rw [aQ, aC] at hMu
          rw [aX] at hAd
          have hdZ : Later V V.drew := (Later.refl V).drew
          rw [aQ] at hst1 hst2 hS2 hS3 kfin
          have eQ : Hid (lQ.toArray = BQ) := Lib.hid aQ.symm
          clear aQ
          clear aX aC vA vP vQ rA rP rQ hoth lenQ lenX lenC hMuA hNeA hAdA oQ oR sQ21 sR21 eA hEq vR vT
          first | go_step3 | skip
          go_region_held3 (fun U => U.rangeAt A 0 lQ ∧ U.rangeAt P 0 lX ∧ U.rangeAt Q 0 lC) ((first | (with_reducible exact hS.out _ hdZ) | (with_reducible exact hS3.out _ hL3) | (with_reducible exact hS2.out _ hL3) | (with_reducible exact hS.out _ hL3) | (with_reducible exact hS.out _ hL2) | (with_reducible exact hS.out _ hL1))) (first | (go_at_call 115; with_reducible refine (hMu.out _).mono ?_; rintro e V1 ⟨rfl, hLa⟩; have hL1 := hdZ.trans hLa) | (go_at_call 127; with_reducible refine (hNe.out _).mono ?_; rintro e V2 ⟨rfl, hLb⟩; have hL2 := hL1.trans hLb) | (go_at_call 116; with_reducible refine (hAd.out _).mono ?_; rintro e V3 ⟨rfl, hLc⟩; have hL3 := hL2.trans hLc; have hsa := hst1.out _ hL3; have hsb := hst2.out _ hL3))
          go_wp2_with fail
          obtain ⟨f1, f2, f3⟩ := kfin.out _ hL3
          exact bodyPost_ret (v := .tuple #[.agg lQ.toArray, .agg BR, .int .i64 0]) (results_ccb (a := 4) (b := 5) (c := 6) (t := 167) (by kernel_rfl) _ rfl f1 rfl f2) rfl ⟨by rw [eQ.out], f3⟩
        · have hNq := Lib.hid (fun V => none_any false q V (by omega))
          rw [show decide (q = 0) = false from decide_eq_false (by
            have h1 := hq.out
            have h2 := hr.out
            have h3 : r = 0 := of_decide_eq_true hrz.out
            have h4 : X ≠ 0 := by have h5 := of_decide_eq_true hsx.out; have h6 := hX.out; omega
            omega)] at hNq
          have cP := (hd).p.sign
          have cQ := (hd).c.sign
          have k7 := (hd).q7
          go_wp2_with (refine wpList_load_roww rfl _ _ rfl A rfl _ _ (0, 0) _ k7 Try.underlying167 rfl (size_big _ _) ?_)
          refine ((hNq).out _).mono ?_
          rintro e w6 ⟨rfl, h6⟩
          have hd6 := (hd).next h6
          have cA6 := hd6.q7.sign
          have fA6 := hd6.q7.frozen 0
          clear k7 cP cQ h6
          go_upto_region 24 with fail
          have hbx := hbx'
          have hEq : bigI (x / 65536) = bigV true (dig q) := by
            have h1 := hq.out
            have h2 := hr.out
            have h3 : r = 0 := of_decide_eq_true hrz.out
            have h5 := of_decide_eq_true hsx.out
            have h6 := hX.out
            have h7 : (x / 65536).natAbs = q := by omega
            unfold bigI
            rw [h7, decide_eq_true (show x / 65536 < 0 by omega)]
          obtain ⟨V, hV⟩ : ∃ V, V = w6.setCell ⟨A, 0, none⟩ (.bool true) := ⟨_, rfl⟩
          have vA : BigB V A true (dig (q)) := by rw [hV]; exact hd6.q7.setSign true
          have hra := hR7.ta
          have vP : BigB V P true (dig X) := by rw [hV]; exact hd6.p.othc (by omega)
          have vQ : BigB V Q false (dig 65536) := by rw [hV]; exact hd6.c.othc (by omega)
          have vR : BigB V R false (dig 0) := by rw [hV]; exact hd6.r1.othc (by omega)
          have vT : BigB V T false (dig 0) := by rw [hV]; exact hd6.r2.othc (by omega)
          have hlV : Later W V := by rw [hV]; exact hd6.later.setCell (by show W.heap.size ≤ A; omega) _
          rw [← hV]
          clear hV hd6 cA6 fA6
          have eA := hEq.symm
          unfold BigB at vA vP vQ
          rw [eA, hBQ.out] at vA
          rw [hbx.out] at vP
          rw [show bigV false (dig 65536) = bigI 65536 from rfl, hBC.out] at vQ
          obtain ⟨n21, hn21⟩ : ∃ n, Hid ((21 : Nat) = n) := ⟨_, rfl⟩
          have hsz : ∀ w, (sizeOf 167).run Try.prog w = .ok n21 w := fun w => by rw [← hn21.out]; kernel_rfl
          obtain ⟨lQ, hlQ⟩ : ∃ l, Hid (BQ.toList = l) := ⟨_, rfl⟩
          obtain ⟨lX, hlX⟩ : ∃ l, Hid (bx.toList = l) := ⟨_, rfl⟩
          obtain ⟨lC, hlC⟩ : ∃ l, Hid (BC.toList = l) := ⟨_, rfl⟩
          have aQ : BQ = lQ.toArray := by rw [← hlQ.out]
          have aX : bx = lX.toArray := by rw [← hlX.out]
          have aC : BC = lC.toArray := by rw [← hlC.out]
          have lenQ : lQ.length = 21 := by rw [← hlQ.out, Array.length_toList, ← hBQ.out]; exact bigV_size _ _
          have lenX : lX.length = 21 := by rw [← hlX.out, Array.length_toList, ← hbx.out]; exact bigV_size _ _
          have lenC : lC.length = 21 := by rw [← hlC.out, Array.length_toList, ← hBC.out]; exact bigV_size _ _
          have szQ : BQ.size = n21 := by rw [← hBQ.out, ← hn21.out]; exact bigV_size _ _
          have szR : BR.size = n21 := by rw [← hBR.out, ← hn21.out]; exact bigV_size _ _
          rw [aQ] at vA
          rw [aX] at vP
          rw [aC] at vQ
          have rA := row_rang vA
          have rP := row_rang vP
          have rQ := row_rang vQ
          have hlcA : ∀ w : World, w.rangeAt A 0 lQ → (loadCellsFrom ⟨A, 0, none⟩ 0 n21 #[]).run Try.prog w = .ok lQ.toArray w := fun w h => by
            rw [← hn21.out, ← lenQ]
            exact run_loadCells_list (P := Try.prog) w ⟨A, 0, none⟩ lQ (fun j v hv => by rw [Addr.add_mid]; exact h j v hv)
          have hlcP : ∀ w : World, w.rangeAt P 0 lX → (loadCellsFrom ⟨P, 0, none⟩ 0 n21 #[]).run Try.prog w = .ok lX.toArray w := fun w h => by
            rw [← hn21.out, ← lenX]
            exact run_loadCells_list (P := Try.prog) w ⟨P, 0, none⟩ lX (fun j v hv => by rw [Addr.add_mid]; exact h j v hv)
          have hlcQ : ∀ w : World, w.rangeAt Q 0 lC → (loadCellsFrom ⟨Q, 0, none⟩ 0 n21 #[]).run Try.prog w = .ok lC.toArray w := fun w h => by
            rw [← hn21.out, ← lenC]
            exact run_loadCells_list (P := Try.prog) w ⟨Q, 0, none⟩ lC (fun j v hv => by rw [Addr.add_mid]; exact h j v hv)
          have hS : Hid (∀ U, Later V U → (U.rangeAt A 0 lQ ∧ U.rangeAt P 0 lX ∧ U.rangeAt Q 0 lC)) := Lib.hid (fun U h => ⟨rangeAt_latr rA h, rangeAt_latr rP h, rangeAt_latr rQ h⟩)
          have hoth : ∀ (U : World) (M N : Nat) (cs : Array Value) (l : List Value), M ≠ N → U.rangeAt M 0 l → (U.setRow N cs).rangeAt M 0 l := fun U M N cs l hne h j v hv =>
            (World.cell?_of_block (a := ⟨M, 0 + j, none⟩) (setRow_other U N M cs hne)).trans (h j v hv)
          have hS2 : Hid (∀ U, Later V U → ((U.setRow R BQ).rangeAt A 0 lQ ∧ (U.setRow R BQ).rangeAt P 0 lX ∧ (U.setRow R BQ).rangeAt Q 0 lC)) := Lib.hid (fun U h => ⟨hoth _ _ _ _ _ (by omega) (hS.out U h).1, hoth _ _ _ _ _ (by omega) (hS.out U h).2.1, hoth _ _ _ _ _ (by omega) (hS.out U h).2.2⟩)
          have hS3 : Hid (∀ U, Later V U → (((U.setRow R BQ).setRow T BR).rangeAt A 0 lQ ∧ ((U.setRow R BQ).setRow T BR).rangeAt P 0 lX ∧ ((U.setRow R BQ).setRow T BR).rangeAt Q 0 lC)) := Lib.hid (fun U h => ⟨hoth _ _ _ _ _ (by omega) (hS2.out U h).1, hoth _ _ _ _ _ (by omega) (hS2.out U h).2.1, hoth _ _ _ _ _ (by omega) (hS2.out U h).2.2⟩)
          have oQ : BQ.all (·.oneCell') = true := by rw [← hBQ.out]; exact bigV_one _ _
          have oR : BR.all (·.oneCell') = true := by rw [← hBR.out]; exact bigV_one _ _
          have sQ21 : (bigV false (dig 0)).size = BQ.size := by rw [bigV_size, szQ]; exact hn21.out
          have sR21 : (bigV false (dig 0)).size = BR.size := by rw [bigV_size, szR]; exact hn21.out
          have szL : lQ.length = n21 := by rw [lenQ]; exact hn21.out
          have hst1 : Hid (∀ U, Later V U → (storeCells ⟨R, 0, none⟩ lQ).run Try.prog U = .ok () (U.setRow R BQ)) := Lib.hid (fun U h => by rw [← hlQ.out]; exact store_roww (h.row vR) sQ21 oQ)
          have hst2 : Hid (∀ U, Later V U → (storeCells ⟨T, 0, none⟩ BR.toList).run Try.prog (U.setRow R BQ) = .ok () ((U.setRow R BQ).setRow T BR)) := Lib.hid (fun U h => store_roww ((setRow_other _ _ _ _ (show T ≠ R by omega)).trans (h.row vT)) sR21 oR)
          have kfin : Hid (∀ U, Later V U → (loadVar 167 ⟨R, 0, none⟩).run Try.prog ((U.setRow R BQ).setRow T BR) = .ok (.agg BQ) ((U.setRow R BQ).setRow T BR) ∧ (loadVar 167 ⟨T, 0, none⟩).run Try.prog ((U.setRow R BQ).setRow T BR) = .ok (.agg BR) ((U.setRow R BQ).setRow T BR) ∧ Later W ((U.setRow R BQ).setRow T BR)) := Lib.hid (fun U h => by
            have k1 : BigB (U.setRow R BQ) R (decide (x / 65536 < 0)) (dig (x / 65536).natAbs) := setRow_big (vR.later h) (by rw [← hBQ.out]; rfl)
            have k2 : BigB ((U.setRow R BQ).setRow T BR) R (decide (x / 65536 < 0)) (dig (x / 65536).natAbs) := k1.other (by omega)
            have k3 : BigB ((U.setRow R BQ).setRow T BR) T (decide (x % 65536 < 0)) (dig (x % 65536).natAbs) := setRow_big ((vT.later h).other (by omega)) (by rw [← hBR.out]; rfl)
            refine ⟨?_, ?_, ((hlV.trans h).setRow (by omega) _).setRow (by omega) _⟩
            · rw [show BQ = bigV (decide (x / 65536 < 0)) (dig (x / 65536).natAbs) from hBQ.out.symm] at k2 ⊢
              exact load_big k2
            · rw [show BR = bigV (decide (x % 65536 < 0)) (dig (x % 65536).natAbs) from hBR.out.symm] at k3 ⊢
              exact load_big k3)
          have hMu := hMuA
          have hNe := hNeA
          have hAd := hAdA
          rw [aQ, aC] at hMu
          rw [aX] at hAd
          have hdZ : Later V V.drew := (Later.refl V).drew
          rw [aQ] at hst1 hst2 hS2 hS3 kfin
          have eQ : Hid (lQ.toArray = BQ) := Lib.hid aQ.symm
          clear aQ
          clear aX aC vA vP vQ rA rP rQ hoth lenQ lenX lenC hMuA hNeA hAdA oQ oR sQ21 sR21 eA hEq vR vT
          first | go_step3 | skip
          go_region_held3 (fun U => U.rangeAt A 0 lQ ∧ U.rangeAt P 0 lX ∧ U.rangeAt Q 0 lC) ((first | (with_reducible exact hS.out _ hdZ) | (with_reducible exact hS3.out _ hL3) | (with_reducible exact hS2.out _ hL3) | (with_reducible exact hS.out _ hL3) | (with_reducible exact hS.out _ hL2) | (with_reducible exact hS.out _ hL1))) (first | (go_at_call 115; with_reducible refine (hMu.out _).mono ?_; rintro e V1 ⟨rfl, hLa⟩; have hL1 := hdZ.trans hLa) | (go_at_call 127; with_reducible refine (hNe.out _).mono ?_; rintro e V2 ⟨rfl, hLb⟩; have hL2 := hL1.trans hLb) | (go_at_call 116; with_reducible refine (hAd.out _).mono ?_; rintro e V3 ⟨rfl, hLc⟩; have hL3 := hL2.trans hLc; have hsa := hst1.out _ hL3; have hsb := hst2.out _ hL3))
          go_wp2_with fail
          obtain ⟨f1, f2, f3⟩ := kfin.out _ hL3
          exact bodyPost_ret (v := .tuple #[.agg lQ.toArray, .agg BR, .int .i64 0]) (results_ccb (a := 4) (b := 5) (c := 6) (t := 167) (by kernel_rfl) _ rfl f1 rfl f2) rfl ⟨by rw [eQ.out], f3⟩
    | succ k =>
      rw [show (((k + 1 : Nat) : Int) - 1) = (k : Int) from by omega]
      have hst := div_step (h := X / 2 ^ (k + 1)) (k := k) (X := X) rfl
      have hbit := bit_of X k
      have hXk : X / 2 ^ (k + 1) < bP 9 := Nat.lt_of_le_of_lt (Nat.div_le_self _ _) hx
      obtain ⟨h', hh'⟩ : ∃ n, Hid (X / 2 ^ k = n) := ⟨_, rfl⟩
      obtain ⟨h, hh⟩ : ∃ n, Hid (X / 2 ^ (k + 1) = n) := ⟨_, rfl⟩
      rw [hh.out] at hst hd hXk
      rw [hh'.out] at hst hbit
      obtain ⟨q, hq⟩ : ∃ n, Hid (h / 65536 = n) := ⟨_, rfl⟩
      obtain ⟨r, hr⟩ : ∃ n, Hid (h % 65536 = n) := ⟨_, rfl⟩
      rw [hq.out, hr.out] at hd
      have hrl : r < 65536 := by rw [← hr.out]; omega
      have hql : q < bP 9 := by rw [← hq.out]; omega
      obtain ⟨bt, hbt⟩ : ∃ n, Hid (h' % 2 = n) := ⟨_, rfl⟩
      have hb2 : bt < 2 := by rw [← hbt.out]; omega
      rw [hbt.out] at hst hbit
      have hM8 := Lib.hid (fun V => more_any false false r r V (by omega))
      have hM7 := Lib.hid (fun V => more_any false false q q V (by omega))
      have hLs := Lib.hid (fun V => less_any false false (r + r + bt) 65536 V (by omega) h16)
      have hAw := Lib.hid (fun V (hl : 65536 ≤ r + r + bt) => away_any false false (r + r + bt) 65536 V hl (by omega))
      obtain ⟨a, ha⟩ : ∃ n, Hid (k / 16 = n) := ⟨_, rfl⟩
      obtain ⟨m, hm⟩ : ∃ n, Hid (k % 16 = n) := ⟨_, rfl⟩
      obtain ⟨D, hD⟩ : ∃ n, Hid (dig X a = n) := ⟨_, rfl⟩
      have hD6 : D < 65536 := by rw [← hD.out]; exact dig_lt _ _
      rw [ha.out, hm.out, hD.out] at hbit
      have ha9 : a < 9 := by rw [← ha.out]; omega
      have hm16 : m < 16 := by rw [← hm.out]; omega
      have hka : (k : Int) / 16 = (a : Int) := by rw [← ha.out]; omega
      have hkm : (k : Int) % 16 = (m : Int) := by rw [← hm.out]; omega
      have hki : (k : Int) ≤ 143 := by omega
      replace hst := Lib.hid hst
      replace hbit := Lib.hid hbit
      have k8 := hd.r8
      go_wp2_with (first | refine wpList_load_row rfl _ _ rfl B rfl _ _ (0, 0) _ k8 Try.underlying167 rfl (size_big _ _) ?_)
      refine (hM8.out _).mono ?_
      rintro e w2 ⟨rfl, h2⟩
      replace hd := (hd.next h2).row8 (r' := r + r) hR7
      have k8b := k8.later h2
      clear k8 hM8
      go_upto_region 11 with (refine wpList_store_row rfl 167 _ _ rfl B (bigV false (dig (r + r))) rfl rfl 167 (bigV false (dig r)) k8b (size_big _ _) (by rw [bigV_size, bigV_size]) (bigV_one _ _) ?_)
      obtain ⟨Y1, hY1⟩ : ∃ Y, Y = w2.setRow B (bigV false (dig (r + r))) := ⟨_, rfl⟩
      rw [← hY1] at hd ⊢
      clear hY1 k8b h2
      have cD : Y1.cell? ⟨P, 1 + a, none⟩ = some (.int .u64 (D : Nat)) := by rw [← hD.out]; exact BigB.at1 hd.p (by omega)
      obtain ⟨g, hg⟩ : ∃ n, Hid ((r + r) % 65536 = n) := ⟨_, rfl⟩
      have hg6 : g ≤ 65534 := by rw [← hg.out]; omega
      have c8 : Y1.cell? ⟨B, 1, none⟩ = some (.int .u64 (g : Nat)) := by rw [← hg.out, ← dig_z]; exact hd.r8.at1 (k := 0) (by omega)
      have f8 := hd.r8.frozen 1
      have hd2 := hd.low8 (b := bt) hR7 (by rw [hg.out]; omega)
      rw [hg.out] at hd2
      go_wp2_with fail
      go_loopw [12, 11] (fun y z wr => ∃ kk : Nat, kk ≤ m ∧ y = .int .i64 kk ∧ z = .int .u64 ((D / 2 ^ kk : Nat) : Int) ∧ wr = Y1) (fun y _ _ => (300 - intOf y).toNat)
      case atStart => exact ⟨0, by omega, rfl, by rw [Nat.pow_zero, Nat.div_one], rfl⟩
      case round =>
        obtain ⟨kk, hkk, rfl, rfl, rfl⟩ := hrel
        by_cases hkm2 : kk < m
        · obtain ⟨e, he⟩ : ∃ n, Hid (D / 2 ^ kk = n) := ⟨_, rfl⟩
          have he6 : e < 65536 := by rw [← he.out]; exact Nat.lt_of_le_of_lt (Nat.div_le_self _ _) hD6
          rw [he.out]
          have hkmi : (kk : Int) < m := by omega
          go_wp2_with fail
          go_roundw
          case rel =>
            have h1 : (e : Int) / 2 = ((D / 2 ^ (kk + 1) : Nat) : Int) := by rw [Nat.pow_succ, ← Nat.div_div_eq_div_mul, he.out]; omega
            rw [h1]
            exact ⟨kk + 1, by omega, by go_num, rfl, by first | trivial | rfl⟩
          case measure => simp [intOf]; omega
        · obtain rfl : kk = m := by omega
          obtain ⟨bb, hbb⟩ : ∃ n, Hid (D / 2 ^ kk = n) := ⟨_, rfl⟩
          have hbb6 : bb < 65536 := by rw [← hbb.out]; exact Nat.lt_of_le_of_lt (Nat.div_le_self _ _) hD6
          have hbm : (bb : Int) % 2 = (bt : Int) := by have := hbit.out; rw [hbb.out] at this; omega
          rw [hbb.out]
          have hsum : ((g : Nat) : Int) + ((bt : Nat) : Int) = ((g + bt : Nat) : Int) := by omega
          replace hsum := Lib.hid hsum
          replace hd2 := Lib.hid hd2
          clear cD hbit
          go_upto_region 17 with fail
          rw [hsum.out]
          replace hd2 := hd2.out
          obtain ⟨Y2, hY2⟩ : ∃ Y, Y = wr.setCell ⟨B, 1, none⟩ (.int .u64 ((g + bt : Nat) : Int)) := ⟨_, rfl⟩
          rw [← hY2] at hd2 ⊢
          clear hY2 c8 f8 hd
          have k7 := hd2.q7
          first | go_step3 | skip
          go_wp2_with (first | refine wpList_load_row rfl _ _ rfl A rfl _ _ (0, 0) _ k7 Try.underlying167 rfl (size_big _ _) ?_)
          refine (hM7.out _).mono ?_
          rintro e w3 ⟨rfl, h3⟩
          have k7b := k7.later h3
          replace hd2 := (hd2.next h3).row7 (q' := q + q) hR7
          clear k7 hM7
          go_upto_region 18 with (refine wpList_store_row rfl 167 _ _ rfl A (bigV false (dig (q + q))) rfl rfl 167 (bigV false (dig q)) k7b (size_big _ _) (by rw [bigV_size, bigV_size]) (bigV_one _ _) ?_)
          obtain ⟨Y3, hY3⟩ : ∃ Y, Y = w3.setRow A (bigV false (dig (q + q))) := ⟨_, rfl⟩
          rw [← hY3] at hd2 ⊢
          clear hY3 k7b h3
          have k8 := hd2.r8
          have k9 := hd2.d9
          obtain ⟨l, hl⟩ : ∃ l, Hid (decide (r + r + bt < 65536) = l) := ⟨_, rfl⟩
          rw [hl.out] at hLs
          first | go_step3 | skip
          go_wp2_with (first | refine wpList_load_row rfl _ _ rfl B rfl _ _ (0, 0) _ k8 Try.underlying167 rfl (size_big _ _) ?_ | refine wpList_load_row rfl _ _ rfl C rfl _ _ (0, 0) _ k9 Try.underlying167 rfl (size_big _ _) ?_)
          refine (hLs.out _).mono ?_
          rintro e w4 ⟨rfl, h4⟩
          replace hd2 := hd2.next h4
          clear k8 k9 h4 hLs
          cases l
          · have hge : 65536 ≤ r + r + bt := by have := of_decide_eq_false hl.out; omega
            have k8 := hd2.r8
            have k9 := hd2.d9
            go_wp2_with (first | refine wpList_load_row rfl _ _ rfl B rfl _ _ (0, 0) _ k8 Try.underlying167 rfl (size_big _ _) ?_ | refine wpList_load_row rfl _ _ rfl C rfl _ _ (0, 0) _ k9 Try.underlying167 rfl (size_big _ _) ?_)
            refine (hAw.out _ hge).mono ?_
            rintro e w5 ⟨rfl, h5⟩
            have k8b := k8.later h5
            replace hd2 := (hd2.next h5).row8 (r' := r + r + bt - 65536) hR7
            clear k8 k9 hAw
            go_upto_region 20 with (refine wpList_store_row rfl 167 _ _ rfl B (bigV false (dig (r + r + bt - 65536))) rfl rfl 167 (bigV false (dig (r + r + bt))) k8b (size_big _ _) (by rw [bigV_size, bigV_size]) (bigV_one _ _) ?_)
            obtain ⟨Y5, hY5⟩ : ∃ Y, Y = w5.setRow B (bigV false (dig (r + r + bt - 65536))) := ⟨_, rfl⟩
            rw [← hY5] at hd2 ⊢
            clear hY5 k8b h5
            obtain ⟨g7, hg7⟩ : ∃ n, Hid ((q + q) % 65536 = n) := ⟨_, rfl⟩
            have hg76 : g7 ≤ 65534 := by rw [← hg7.out]; omega
            have c7 : Y5.cell? ⟨A, 1, none⟩ = some (.int .u64 (g7 : Nat)) := by rw [← hg7.out, ← dig_z]; exact hd2.q7.at1 (k := 0) (by omega)
            have f7 := hd2.q7.frozen 1
            have hd3 := hd2.low7 (b := 1) hR7 (by rw [hg7.out]; omega)
            rw [hg7.out] at hd3
            have hs7 : ((g7 : Nat) : Int) + 1 = ((g7 + 1 : Nat) : Int) := by omega
            rw [← hs7] at hd3
            replace hd3 := Lib.hid hd3
            clear hs7
            go_wp2_with fail
            go_roundw
            case rel =>
              have hqq : h' / 65536 = q + q + 1 ∧ h' % 65536 = r + r + bt - 65536 := by
                have h1 := hst.out
                have h2 := hq.out
                have h3 := hr.out
                omega
              exact ⟨k, by omega, by go_num, by rw [hh'.out, hqq.1, hqq.2]; exact hd3.out⟩
            case measure => simp [intOf]
          · have hlt : r + r + bt < 65536 := of_decide_eq_true hl.out
            go_wp2_with fail
            go_roundw
            case rel =>
              have hqq : h' / 65536 = q + q ∧ h' % 65536 = r + r + bt := by
                have h1 := hst.out
                have h2 := hq.out
                have h3 := hr.out
                omega
              exact ⟨k, by omega, by go_num, by rw [hh'.out, hqq.1, hqq.2]; exact hd2⟩
            case measure => simp [intOf]
end Go.Proofs.Ytackbajbladhhaa
