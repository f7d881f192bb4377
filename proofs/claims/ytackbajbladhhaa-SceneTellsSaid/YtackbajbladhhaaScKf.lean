/-
  Chapter 6: where an object is: the program's answer.
-/
import Derived.Test.YtackbajbladhhaaScK
namespace Go.Proofs.Ytackbajbladhhaa
open Go.RowKit Go.Shelf
set_option linter.unusedVariables false
set_option linter.unusedSimpArgs false
attribute [local go_sem] Oper.semAt_some

attribute [local go_sem] Oper.semAt_some

set_option maxRecDepth 100000 in
set_option maxHeartbeats 2000000 in
theorem ixf_find (B : Nat) (L : List (List Value)) (v : Value) (p : Nat → Bool) (W : World) (hv : RowsV 19 W v L) (hlen : L.length ≤ 1000000) (hsz : ∀ x ∈ L, x.length = 19)
    (hc : ∀ k x V, L[k]? = some x → Later W V → Calls Try.prog 36 (#[.agg x.toArray] ++ #[wp B]) V fun e w' => e = .returned (.bool (p k)) ∧ Later V w') :
    Calls Try.prog 35 #[v, .func (.func 36) #[] #[wp B]] W fun e w' => e = .returned (.int .i64 (fst p L.length 0)) ∧ Later W w' := by
  have hs0 : (Try.prog.info? 37).map (·.size) = some 19 := by kernel_rfl
  obtain ⟨ao, cap, rfl⟩ := hv.form
  have hv := Lib.hid hv
  have hc := Lib.hid hc
  have hsz := Lib.hid hsz
  obtain ⟨n, hn⟩ : ∃ n, Hid (L.length = n) := ⟨_, rfl⟩
  rw [hn.out] at hlen ⊢
  obtain ⟨r, hr⟩ : ∃ r, Hid (fst p n 0 = r) := ⟨_, rfl⟩
  rw [hr.out]
  go_enter Try.func35, Try.ntmps35
  go_wp2_with fail
  go_loopw [8] (fun y wr => ∃ k : Nat, k ≤ n ∧ y = .int .i64 k ∧ fst p (n - k) k = r ∧ Later W wr) (fun y _ => (2000000 - intOf y).toNat)
  case atStart => exact ⟨0, by omega, rfl, hr.out, Later.refl _⟩
  case round =>
    obtain ⟨k, hk, rfl, hfr, hl⟩ := hrel
    have hfr := Lib.hid hfr
    obtain ⟨wo, rfl⟩ : ∃ wo : World, wo = wr := ⟨_, rfl⟩
    by_cases hkN : k < n
    · have hkL : k < L.length := by rw [hn.out]; exact hkN
      obtain ⟨x, hx⟩ : ∃ x, Hid (L[k]? = some x) := ⟨_, Lib.hid (List.getElem?_eq_getElem hkL)⟩
      obtain ⟨g, o, rfl, hrg⟩ := hv.out.at hx.out
      replace hrg := rangeAt_later hrg hl
      have hxs : (Try.prog.info? 37).map (·.size) = some x.length := by rw [hs0, hsz.out x (List.mem_of_getElem? hx.out)]
      have hki : (k : Int) < n := by omega
      have hC := Lib.hid (hc.out k x wo hx.out hl)
      obtain ⟨b, hb⟩ : ∃ b, Hid (p k = b) := ⟨_, rfl⟩
      rw [hb.out] at hC
      clear hs0
      go_wp2_with (refine wpList_load_mid rfl _ _ rfl g (o + k * 19) rfl x _ hrg Try.underlying37 rfl hxs ?_)
      refine hC.out.mono ?_
      rintro e w2 ⟨rfl, hl2⟩
      cases b
      · have hfr2 : fst p (n - (k + 1)) (k + 1) = r := by
          have h := hfr.out
          rw [show n - k = (n - (k + 1)) + 1 by omega, fst_miss p _ _ hb.out] at h
          exact h
        clear hC hfr hrg hxs
        go_wp2_with fail
        go_roundw
        case rel => exact ⟨k + 1, by omega, by go_num, hfr2, hl.trans hl2⟩
        case measure => simp [intOf]; omega
      · have hfr2 : (k : Int) = r := by
          have h := hfr.out
          rw [show n - k = (n - (k + 1)) + 1 by omega, fst_hit p _ _ hb.out] at h
          exact h
        replace hfr2 := Lib.hid hfr2
        clear hC hfr hrg hxs
        go_wp2_with fail
        go_ret
        exact ⟨ret_int hfr2.out, hl.trans hl2⟩
    · obtain rfl : k = n := by omega
      go_wp2_with fail
      go_ret
      exact ⟨ret_int (by rw [← hfr.out, Nat.sub_self]; rfl), hl⟩
theorem find1_any (x : List Value) (i j : Int) (B : Nat) (W : World) (hx : x.length = 19) (hx0 : x[0]? = some (.int .i64 i)) (hB : W.cell? ⟨B, 0, none⟩ = some (.int .i64 j)) :
    Calls Try.prog 36 #[.agg x.toArray, wp B] W fun e w' => e = .returned (.bool (i == j)) ∧ Later W w' := by
  obtain ⟨X, hX⟩ : ∃ X, X = W.alloc (.cells x.toArray 37) := ⟨_, rfl⟩
  have hl : Later W X := by rw [hX]; exact (Later.refl W).alloc _
  have c0 : X.cell? ⟨W.heap.size, 0, none⟩ = some (.int .i64 i) := by
    have h := heap_alloc_new W (.cells x.toArray 37)
    rw [← hX] at h
    have := row_range h 0 _ hx0
    rwa [Nat.add_zero] at this
  have cB := hl.cell hB
  go_enter Try.func36, Try.ntmps36
  go_upto_region 1 with fail
  rw [← hX]
  clear hX hx0 hB
  go_wp2_with fail
  go_ret
  exact ⟨rfl, hl⟩
set_option maxRecDepth 100000 in
theorem find_any (s : Scn) (i : Int) (W : World) (hs : s.Ok W) (hlen : s.os.length ≤ 1000000) :
    Calls Try.prog 11 #[s.V, .int .i64 i] W fun e w' => e = .returned (.tuple #[.int .i64 (max 0 (findQ s i)), .bool (decide (0 ≤ findQ s i))]) ∧ Later W w' := by
  obtain ⟨X, hX⟩ : ∃ X, X = (W.alloc (.cells s.row.toArray 28)).alloc (.cells #[.int .i64 i] 3) := ⟨_, rfl⟩
  have hlX : Later W X := by rw [hX]; exact ((Later.refl W).alloc _).alloc _
  have kS : ScnB X W.heap.size s := by rw [hX]; exact push_one (heap_alloc_new _ _) _
  have cI : X.cell? ⟨W.heap.size + 1, 0, none⟩ = some (.int .i64 i) := by rw [hX]; go_simp
  obtain ⟨ao, cap, hu⟩ := hs.1.form
  rw [List.length_map] at hu
  have so := kS.uo
  rw [hu] at so
  have hv := (hs.later hlX).1
  rw [hu] at hv
  have hI := Lib.hid (ixf_find (W.heap.size + 1) (s.os.map SObj.row) (.slice ao s.os.length cap) (fun k => ((s.os[k]?).map (·.id)).getD 0 == i) X hv (by rw [List.length_map]; exact hlen) (by intro r hr; obtain ⟨z, _, rfl⟩ := List.mem_map.1 hr; exact SObj.row_length z)
    (fun j r Z hr hZ => by
      rw [List.getElem?_map] at hr
      obtain ⟨z, hz, rfl⟩ := Option.map_eq_some_iff.1 hr
      have := find1_any z.row z.id i (W.heap.size + 1) Z (SObj.row_length z) rfl (hZ.cell cI)
      rw [hz]
      exact this))
  rw [List.length_map] at hI
  obtain ⟨r, hr⟩ : ∃ r, Hid (findQ s i = r) := ⟨_, rfl⟩
  rw [show fst (fun k => ((s.os[k]?).map (·.id)).getD 0 == i) s.os.length 0 = r from hr.out] at hI
  rw [hr.out]
  have hmax : ∀ ts t W, (Builtin.max_ ts t #[.int .i64 0, .int .i64 r]).run Try.prog W = .ok (.int .i64 (max 0 r)) W := fun ts t W => by
    rw [run_max_int2]
    congr 2
    by_cases h : r > 0
    · rw [if_pos h]; omega
    · rw [if_neg h]; omega
  obtain ⟨n, hn⟩ : ∃ n, Hid (s.os.length = n) := ⟨_, rfl⟩
  rw [hn.out] at so hI
  clear hs hv hu kS
  go_enter Try.func11, Try.ntmps11
  go_upto_region 1 with fail
  rw [← hX]
  clear hX
  go_wp2_with fail
  refine hI.out.mono ?_
  rintro e w2 ⟨rfl, hl2⟩
  go_wp2_with fail
  go_ret2
  exact ⟨rfl, hlX.trans hl2⟩
end Go.Proofs.Ytackbajbladhhaa
