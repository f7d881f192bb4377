/-
  Chapter 6: the library's IndexFunc and ContainsFunc, with the scene's closures.
-/
import Derived.Test.YtackbajbladhhaaScA
namespace Go.Proofs.Ytackbajbladhhaa
open Go.RowKit Go.Shelf
set_option linter.unusedVariables false
set_option linter.unusedSimpArgs false
attribute [local go_sem] Oper.semAt_some

set_option maxRecDepth 100000 in
set_option maxHeartbeats 2000000 in
theorem ixf_same (B : Nat) (L : List (List Value)) (v : Value) (p : Nat → Bool) (W : World) (hv : RowsV 19 W v L) (hlen : L.length ≤ 1000000) (hsz : ∀ x ∈ L, x.length = 19)
    (hc : ∀ k x V, L[k]? = some x → Later W V → Calls Try.prog 97 (#[.agg x.toArray] ++ #[wp B]) V fun e w' => e = .returned (.bool (p k)) ∧ Later V w') :
    Calls Try.prog 35 #[v, .func (.func 97) #[] #[wp B]] W fun e w' => e = .returned (.int .i64 (fst p L.length 0)) ∧ Later W w' := by
  have hs0 : (Try.prog.info? 37).map (·.size) = some 19 := by kernel_rfl
  obtain ⟨ao, cap, rfl⟩ := hv.form
  have hv := Lib.hid hv
  have hc := Lib.hid hc
  have hsz := Lib.hid hsz
  obtain ⟨n, hn⟩ : ∃ n, Hid (L.length = n) := ⟨_, rfl⟩
  rw [hn.out] at hlen ⊢
  obtain ⟨r, hr⟩ : ∃ r, Hid (fst p n 0 = r) := ⟨_, rfl⟩
  rw [hr.out]
  go_enter Try.func35, Try.ntmps35
  go_wp2_with fail
  go_loopw [8] (fun y wr => ∃ k : Nat, k ≤ n ∧ y = .int .i64 k ∧ fst p (n - k) k = r ∧ Later W wr) (fun y _ => (2000000 - intOf y).toNat)
  case atStart => exact ⟨0, by omega, rfl, hr.out, Later.refl _⟩
  case round =>
    obtain ⟨k, hk, rfl, hfr, hl⟩ := hrel
    have hfr := Lib.hid hfr
    obtain ⟨wo, rfl⟩ : ∃ wo : World, wo = wr := ⟨_, rfl⟩
    by_cases hkN : k < n
    · have hkL : k < L.length := by rw [hn.out]; exact hkN
      obtain ⟨x, hx⟩ : ∃ x, Hid (L[k]? = some x) := ⟨_, Lib.hid (List.getElem?_eq_getElem hkL)⟩
      obtain ⟨g, o, rfl, hrg⟩ := hv.out.at hx.out
      replace hrg := rangeAt_later hrg hl
      have hxs : (Try.prog.info? 37).map (·.size) = some x.length := by rw [hs0, hsz.out x (List.mem_of_getElem? hx.out)]
      have hki : (k : Int) < n := by omega
      have hC := Lib.hid (hc.out k x wo hx.out hl)
      obtain ⟨b, hb⟩ : ∃ b, Hid (p k = b) := ⟨_, rfl⟩
      rw [hb.out] at hC
      clear hs0
      go_wp2_with (refine wpList_load_mid rfl _ _ rfl g (o + k * 19) rfl x _ hrg Try.underlying37 rfl hxs ?_)
      refine hC.out.mono ?_
      rintro e w2 ⟨rfl, hl2⟩
      cases b
      · have hfr2 : fst p (n - (k + 1)) (k + 1) = r := by
          have h := hfr.out
          rw [show n - k = (n - (k + 1)) + 1 by omega, fst_miss p _ _ hb.out] at h
          exact h
        clear hC hfr hrg hxs
        go_wp2_with fail
        go_roundw
        case rel => exact ⟨k + 1, by omega, by go_num, hfr2, hl.trans hl2⟩
        case measure => simp [intOf]; omega
      · have hfr2 : (k : Int) = r := by
          have h := hfr.out
          rw [show n - k = (n - (k + 1)) + 1 by omega, fst_hit p _ _ hb.out] at h
          exact h
        replace hfr2 := Lib.hid hfr2
        clear hC hfr hrg hxs
        go_wp2_with fail
        go_ret
        exact ⟨ret_int hfr2.out, hl.trans hl2⟩
    · obtain rfl : k = n := by omega
      go_wp2_with fail
      go_ret
      exact ⟨ret_int (by rw [← hfr.out, Nat.sub_self]; rfl), hl⟩
set_option maxRecDepth 100000 in
set_option maxHeartbeats 2000000 in
theorem ixf_far  (L : List (List Value)) (v : Value) (p : Nat → Bool) (W : World) (hv : RowsV 3 W v L) (hlen : L.length ≤ 1000000) (hsz : ∀ x ∈ L, x.length = 3)
    (hc : ∀ k x V, L[k]? = some x → Later W V → Calls Try.prog 99 (#[.agg x.toArray] ++ #[]) V fun e w' => e = .returned (.bool (p k)) ∧ Later V w') :
    Calls Try.prog 119 #[v, .func (.func 99) #[] #[]] W fun e w' => e = .returned (.int .i64 (fst p L.length 0)) ∧ Later W w' := by
  have hs0 : (Try.prog.info? 40).map (·.size) = some 3 := by kernel_rfl
  obtain ⟨ao, cap, rfl⟩ := hv.form
  have hv := Lib.hid hv
  have hc := Lib.hid hc
  have hsz := Lib.hid hsz
  obtain ⟨n, hn⟩ : ∃ n, Hid (L.length = n) := ⟨_, rfl⟩
  rw [hn.out] at hlen ⊢
  obtain ⟨r, hr⟩ : ∃ r, Hid (fst p n 0 = r) := ⟨_, rfl⟩
  rw [hr.out]
  go_enter Try.func119, Try.ntmps119
  go_wp2_with fail
  go_loopw [8] (fun y wr => ∃ k : Nat, k ≤ n ∧ y = .int .i64 k ∧ fst p (n - k) k = r ∧ Later W wr) (fun y _ => (2000000 - intOf y).toNat)
  case atStart => exact ⟨0, by omega, rfl, hr.out, Later.refl _⟩
  case round =>
    obtain ⟨k, hk, rfl, hfr, hl⟩ := hrel
    have hfr := Lib.hid hfr
    obtain ⟨wo, rfl⟩ : ∃ wo : World, wo = wr := ⟨_, rfl⟩
    by_cases hkN : k < n
    · have hkL : k < L.length := by rw [hn.out]; exact hkN
      obtain ⟨x, hx⟩ : ∃ x, Hid (L[k]? = some x) := ⟨_, Lib.hid (List.getElem?_eq_getElem hkL)⟩
      obtain ⟨g, o, rfl, hrg⟩ := hv.out.at hx.out
      replace hrg := rangeAt_later hrg hl
      have hxs : (Try.prog.info? 40).map (·.size) = some x.length := by rw [hs0, hsz.out x (List.mem_of_getElem? hx.out)]
      have hki : (k : Int) < n := by omega
      have hC := Lib.hid (hc.out k x wo hx.out hl)
      obtain ⟨b, hb⟩ : ∃ b, Hid (p k = b) := ⟨_, rfl⟩
      rw [hb.out] at hC
      clear hs0
      go_wp2_with (refine wpList_load_mid rfl _ _ rfl g (o + k * 3) rfl x _ hrg Try.underlying40 rfl hxs ?_)
      refine hC.out.mono ?_
      rintro e w2 ⟨rfl, hl2⟩
      cases b
      · have hfr2 : fst p (n - (k + 1)) (k + 1) = r := by
          have h := hfr.out
          rw [show n - k = (n - (k + 1)) + 1 by omega, fst_miss p _ _ hb.out] at h
          exact h
        clear hC hfr hrg hxs
        go_wp2_with fail
        go_roundw
        case rel => exact ⟨k + 1, by omega, by go_num, hfr2, hl.trans hl2⟩
        case measure => simp [intOf]; omega
      · have hfr2 : (k : Int) = r := by
          have h := hfr.out
          rw [show n - k = (n - (k + 1)) + 1 by omega, fst_hit p _ _ hb.out] at h
          exact h
        replace hfr2 := Lib.hid hfr2
        clear hC hfr hrg hxs
        go_wp2_with fail
        go_ret
        exact ⟨ret_int hfr2.out, hl.trans hl2⟩
    · obtain rfl : k = n := by omega
      go_wp2_with fail
      go_ret
      exact ⟨ret_int (by rw [← hfr.out, Nat.sub_self]; rfl), hl⟩
set_option maxRecDepth 100000 in
set_option maxHeartbeats 2000000 in
theorem ixf_out (B : Nat) (L : List (List Value)) (v : Value) (p : Nat → Bool) (W : World) (hv : RowsV 4 W v L) (hlen : L.length ≤ 1000000) (hsz : ∀ x ∈ L, x.length = 4)
    (hc : ∀ k x V, L[k]? = some x → Later W V → Calls Try.prog 101 (#[.agg x.toArray] ++ #[wp B]) V fun e w' => e = .returned (.bool (p k)) ∧ Later V w') :
    Calls Try.prog 120 #[v, .func (.func 101) #[] #[wp B]] W fun e w' => e = .returned (.int .i64 (fst p L.length 0)) ∧ Later W w' := by
  have hs0 : (Try.prog.info? 84).map (·.size) = some 4 := by kernel_rfl
  obtain ⟨ao, cap, rfl⟩ := hv.form
  have hv := Lib.hid hv
  have hc := Lib.hid hc
  have hsz := Lib.hid hsz
  obtain ⟨n, hn⟩ : ∃ n, Hid (L.length = n) := ⟨_, rfl⟩
  rw [hn.out] at hlen ⊢
  obtain ⟨r, hr⟩ : ∃ r, Hid (fst p n 0 = r) := ⟨_, rfl⟩
  rw [hr.out]
  go_enter Try.func120, Try.ntmps120
  go_wp2_with fail
  go_loopw [8] (fun y wr => ∃ k : Nat, k ≤ n ∧ y = .int .i64 k ∧ fst p (n - k) k = r ∧ Later W wr) (fun y _ => (2000000 - intOf y).toNat)
  case atStart => exact ⟨0, by omega, rfl, hr.out, Later.refl _⟩
  case round =>
    obtain ⟨k, hk, rfl, hfr, hl⟩ := hrel
    have hfr := Lib.hid hfr
    obtain ⟨wo, rfl⟩ : ∃ wo : World, wo = wr := ⟨_, rfl⟩
    by_cases hkN : k < n
    · have hkL : k < L.length := by rw [hn.out]; exact hkN
      obtain ⟨x, hx⟩ : ∃ x, Hid (L[k]? = some x) := ⟨_, Lib.hid (List.getElem?_eq_getElem hkL)⟩
      obtain ⟨g, o, rfl, hrg⟩ := hv.out.at hx.out
      replace hrg := rangeAt_later hrg hl
      have hxs : (Try.prog.info? 84).map (·.size) = some x.length := by rw [hs0, hsz.out x (List.mem_of_getElem? hx.out)]
      have hki : (k : Int) < n := by omega
      have hC := Lib.hid (hc.out k x wo hx.out hl)
      obtain ⟨b, hb⟩ : ∃ b, Hid (p k = b) := ⟨_, rfl⟩
      rw [hb.out] at hC
      clear hs0
      go_wp2_with (refine wpList_load_mid rfl _ _ rfl g (o + k * 4) rfl x _ hrg Try.underlying84 rfl hxs ?_)
      refine hC.out.mono ?_
      rintro e w2 ⟨rfl, hl2⟩
      cases b
      · have hfr2 : fst p (n - (k + 1)) (k + 1) = r := by
          have h := hfr.out
          rw [show n - k = (n - (k + 1)) + 1 by omega, fst_miss p _ _ hb.out] at h
          exact h
        clear hC hfr hrg hxs
        go_wp2_with fail
        go_roundw
        case rel => exact ⟨k + 1, by omega, by go_num, hfr2, hl.trans hl2⟩
        case measure => simp [intOf]; omega
      · have hfr2 : (k : Int) = r := by
          have h := hfr.out
          rw [show n - k = (n - (k + 1)) + 1 by omega, fst_hit p _ _ hb.out] at h
          exact h
        replace hfr2 := Lib.hid hfr2
        clear hC hfr hrg hxs
        go_wp2_with fail
        go_ret
        exact ⟨ret_int hfr2.out, hl.trans hl2⟩
    · obtain rfl : k = n := by omega
      go_wp2_with fail
      go_ret
      exact ⟨ret_int (by rw [← hfr.out, Nat.sub_self]; rfl), hl⟩
set_option maxRecDepth 100000 in
set_option maxHeartbeats 2000000 in
theorem ixf_in (B C : Nat) (L : List Int) (v : Value) (p : Nat → Bool) (W : World) (hv : RowsV 1 W v (L.map fun x => [.int .i64 x])) (hlen : L.length ≤ 1000000)
    (hc : ∀ k x V, L[k]? = some x → Later W V → Calls Try.prog 71 (#[.int .i64 x] ++ #[wp B, wp C]) V fun e w' => e = .returned (.bool (p k)) ∧ Later V w') :
    Calls Try.prog 96 #[v, .func (.func 71) #[] #[wp B, wp C]] W fun e w' => e = .returned (.int .i64 (fst p L.length 0)) ∧ Later W w' := by
  obtain ⟨ao, cap, rfl⟩ := hv.form
  rw [List.length_map] at hv ⊢
  have hv := Lib.hid hv
  have hc := Lib.hid hc
  obtain ⟨n, hn⟩ : ∃ n, Hid (L.length = n) := ⟨_, rfl⟩
  rw [hn.out] at hlen ⊢
  obtain ⟨r, hr⟩ : ∃ r, Hid (fst p n 0 = r) := ⟨_, rfl⟩
  rw [hr.out]
  go_enter Try.func96, Try.ntmps96
  go_wp2_with fail
  go_loopw [8] (fun y wr => ∃ k : Nat, k ≤ n ∧ y = .int .i64 k ∧ fst p (n - k) k = r ∧ Later W wr) (fun y _ => (2000000 - intOf y).toNat)
  case atStart => exact ⟨0, by omega, rfl, hr.out, Later.refl _⟩
  case round =>
    obtain ⟨k, hk, rfl, hfr, hl⟩ := hrel
    have hfr := Lib.hid hfr
    obtain ⟨wo, rfl⟩ : ∃ wo : World, wo = wr := ⟨_, rfl⟩
    by_cases hkN : k < n
    · have hkL : k < L.length := by rw [hn.out]; exact hkN
      obtain ⟨x, hx⟩ : ∃ x, Hid (L[k]? = some x) := ⟨_, Lib.hid (List.getElem?_eq_getElem hkL)⟩
      obtain ⟨g, o, rfl, hrg⟩ := hv.out.at (x := [.int .i64 x]) (by rw [List.getElem?_map, hx.out]; rfl)
      replace hrg := rangeAt_later hrg hl
      have hcx : wo.cell? ⟨g, o + k, none⟩ = some (.int .i64 x) := by have := hrg 0 _ rfl; rwa [Nat.mul_one, Nat.add_zero] at this
      have hki : (k : Int) < n := by omega
      have hC := Lib.hid (hc.out k x wo hx.out hl)
      obtain ⟨b, hb⟩ : ∃ b, Hid (p k = b) := ⟨_, rfl⟩
      rw [hb.out] at hC
      go_wp2_with fail
      refine hC.out.mono ?_
      rintro e w2 ⟨rfl, hl2⟩
      cases b
      · have hfr2 : fst p (n - (k + 1)) (k + 1) = r := by
          have h := hfr.out
          rw [show n - k = (n - (k + 1)) + 1 by omega, fst_miss p _ _ hb.out] at h
          exact h
        clear hC hfr hrg hcx
        go_wp2_with fail
        go_roundw
        case rel => exact ⟨k + 1, by omega, by go_num, hfr2, hl.trans hl2⟩
        case measure => simp [intOf]; omega
      · have hfr2 : (k : Int) = r := by
          have h := hfr.out
          rw [show n - k = (n - (k + 1)) + 1 by omega, fst_hit p _ _ hb.out] at h
          exact h
        replace hfr2 := Lib.hid hfr2
        clear hC hfr hrg hcx
        go_wp2_with fail
        go_ret
        exact ⟨ret_int hfr2.out, hl.trans hl2⟩
    · obtain rfl : k = n := by omega
      go_wp2_with fail
      go_ret
      exact ⟨ret_int (by rw [← hfr.out, Nat.sub_self]; rfl), hl⟩
theorem cff_same (B : Nat) (L : List (List Value)) (v : Value) (p : Nat → Bool) (W : World) (hv : RowsV 19 W v L) (hlen : L.length ≤ 1000000) (hsz : ∀ x ∈ L, x.length = 19)
    (hc : ∀ k x V, L[k]? = some x → Later W V → Calls Try.prog 97 (#[.agg x.toArray] ++ #[wp B]) V fun e w' => e = .returned (.bool (p k)) ∧ Later V w') :
    Calls Try.prog 98 #[v, .func (.func 97) #[] #[wp B]] W fun e w' => e = .returned (.bool ((List.range L.length).any p)) ∧ Later W w' := by
  have hI := Lib.hid (ixf_same B L v p W hv hlen hsz hc)
  obtain ⟨r, hr⟩ : ∃ r, Hid (fst p L.length 0 = r) := ⟨_, rfl⟩
  rw [hr.out] at hI
  have ha := Lib.hid (fst_any p L.length 0)
  rw [hr.out] at ha
  obtain ⟨ao, cap, rfl⟩ := hv.form
  clear hv hc hsz
  go_enter Try.func98, Try.ntmps98
  go_wp2_with fail
  refine hI.out.mono ?_
  rintro e w2 ⟨rfl, hl2⟩
  go_wp2_with fail
  go_ret
  exact ⟨ret_bool (by rw [ha.out]; simp), hl2⟩
theorem cff_far  (L : List (List Value)) (v : Value) (p : Nat → Bool) (W : World) (hv : RowsV 3 W v L) (hlen : L.length ≤ 1000000) (hsz : ∀ x ∈ L, x.length = 3)
    (hc : ∀ k x V, L[k]? = some x → Later W V → Calls Try.prog 99 (#[.agg x.toArray] ++ #[]) V fun e w' => e = .returned (.bool (p k)) ∧ Later V w') :
    Calls Try.prog 100 #[v, .func (.func 99) #[] #[]] W fun e w' => e = .returned (.bool ((List.range L.length).any p)) ∧ Later W w' := by
  have hI := Lib.hid (ixf_far  L v p W hv hlen hsz hc)
  obtain ⟨r, hr⟩ : ∃ r, Hid (fst p L.length 0 = r) := ⟨_, rfl⟩
  rw [hr.out] at hI
  have ha := Lib.hid (fst_any p L.length 0)
  rw [hr.out] at ha
  obtain ⟨ao, cap, rfl⟩ := hv.form
  clear hv hc hsz
  go_enter Try.func100, Try.ntmps100
  go_wp2_with fail
  refine hI.out.mono ?_
  rintro e w2 ⟨rfl, hl2⟩
  go_wp2_with fail
  go_ret
  exact ⟨ret_bool (by rw [ha.out]; simp), hl2⟩
theorem cff_out (B : Nat) (L : List (List Value)) (v : Value) (p : Nat → Bool) (W : World) (hv : RowsV 4 W v L) (hlen : L.length ≤ 1000000) (hsz : ∀ x ∈ L, x.length = 4)
    (hc : ∀ k x V, L[k]? = some x → Later W V → Calls Try.prog 101 (#[.agg x.toArray] ++ #[wp B]) V fun e w' => e = .returned (.bool (p k)) ∧ Later V w') :
    Calls Try.prog 102 #[v, .func (.func 101) #[] #[wp B]] W fun e w' => e = .returned (.bool ((List.range L.length).any p)) ∧ Later W w' := by
  have hI := Lib.hid (ixf_out B L v p W hv hlen hsz hc)
  obtain ⟨r, hr⟩ : ∃ r, Hid (fst p L.length 0 = r) := ⟨_, rfl⟩
  rw [hr.out] at hI
  have ha := Lib.hid (fst_any p L.length 0)
  rw [hr.out] at ha
  obtain ⟨ao, cap, rfl⟩ := hv.form
  clear hv hc hsz
  go_enter Try.func102, Try.ntmps102
  go_wp2_with fail
  refine hI.out.mono ?_
  rintro e w2 ⟨rfl, hl2⟩
  go_wp2_with fail
  go_ret
  exact ⟨ret_bool (by rw [ha.out]; simp), hl2⟩
theorem cff_in (B C : Nat) (L : List Int) (v : Value) (p : Nat → Bool) (W : World) (hv : RowsV 1 W v (L.map fun x => [.int .i64 x])) (hlen : L.length ≤ 1000000)
    (hc : ∀ k x V, L[k]? = some x → Later W V → Calls Try.prog 71 (#[.int .i64 x] ++ #[wp B, wp C]) V fun e w' => e = .returned (.bool (p k)) ∧ Later V w') :
    Calls Try.prog 70 #[v, .func (.func 71) #[] #[wp B, wp C]] W fun e w' => e = .returned (.bool ((List.range L.length).any p)) ∧ Later W w' := by
  have hI := Lib.hid (ixf_in B C L v p W hv hlen hc)
  obtain ⟨r, hr⟩ : ∃ r, Hid (fst p L.length 0 = r) := ⟨_, rfl⟩
  rw [hr.out] at hI
  have ha := Lib.hid (fst_any p L.length 0)
  rw [hr.out] at ha
  obtain ⟨ao, cap, rfl⟩ := hv.form
  clear hv hc
  rw [List.length_map] at hI ⊢
  go_enter Try.func70, Try.ntmps70
  go_wp2_with fail
  refine hI.out.mono ?_
  rintro e w2 ⟨rfl, hl2⟩
  go_wp2_with fail
  go_ret
  exact ⟨ret_bool (by rw [ha.out]; simp), hl2⟩
end Go.Proofs.Ytackbajbladhhaa
