/-
  Chapter 8: the document's answers: members; an object's owner.
  Chapter 8: the document's answers: an object's owner; a node's objects; what changes hands.
-/
import Derived.Test.YtackbajbladhhaaGreatShM1
import Derived.Test.YtackbajbladhhaaGreatSeB
import Derived.Test.YtackbajbladhhaaGreatSdA1
namespace Go.Proofs.YtackbajbladhhaaGreat
open Go.RowKit Go.Shelf
set_option linter.unusedVariables false
set_option linter.unusedSimpArgs false
attribute [local go_sem] Oper.semAt_some
attribute [-simp] Tryz.sizeOf123 Tryz.typeInfo123

set_option maxRecDepth 100000 in
set_option maxHeartbeats 2000000 in
theorem rmembers_any (v : Value) (M : List Int) (W : World) (hv : IntsO W v M) (hlen : M.length ≤ 70) :
    Calls Tryz.prog 12 #[v] W fun e w' => e = .returned (.bool (memB M)) ∧ Later W w' := by
  obtain ⟨ao, cap, rfl, hc⟩ := hv
  obtain ⟨n, hn⟩ : ∃ n, Hid (M.length = n) := ⟨_, rfl⟩
  rw [hn.out] at hc hlen ⊢
  by_cases hn0 : n = 0
  · have hb : memB M = false := by
      have : M = [] := List.eq_nil_of_length_eq_zero (by rw [hn.out]; exact hn0)
      rw [this]; rfl
    rw [hb]
    subst hn0
    clear hc
    go_enter Tryz.func12, Tryz.ntmps12
    go_wp2_with fail
    go_ret
    exact ⟨rfl, Later.refl _⟩
  have hni : ¬ ((n : Int) = 0) := by omega
  have hne : ((n : Int) == 0) = false := by simpa using hni
  go_enter Tryz.func12, Tryz.ntmps12
  go_wp2_with fail
  go_loopw [3] (fun y wr => ∃ k : Nat, k ≤ n ∧ y = .int .i64 k ∧ Hid (∀ j, j < k → memFrom M j = true) ∧ Later W wr) (fun y _ => (300 - intOf y).toNat)
  case atStart => exact ⟨0, by omega, rfl, Lib.hid (fun j hj => by omega), Later.refl _⟩
  case round =>
    obtain ⟨k, hk, rfl, hall, hl⟩ := hrel
    obtain ⟨wi, rfl⟩ : ∃ wo : World, wo = wr := ⟨_, rfl⟩
    by_cases hkn : k < n
    · have hki : (k : Int) < n := by omega
      obtain ⟨g, o, rfl, d0⟩ := hc k hkn
      obtain ⟨x, hx⟩ : ∃ z, Hid (M.getD k 0 = z) := ⟨_, rfl⟩
      rw [hx.out] at d0
      have d1 := hl.cell d0
      clear d0
      by_cases h0 : x < 0
      · have hno := Lib.hid (memB_no (M := M) (k := k) (by rw [hn.out]; exact hkn) (by unfold memFrom; rw [hx.out]; simp; omega))
        clear hall
        go_upto_region 6 with fail
        go_region
        go_wp2_with fail
        go_ret
        exact ⟨by rw [hno.out]; rfl, hl.drew⟩
      by_cases h64 : 63 < x
      · have hno := Lib.hid (memB_no (M := M) (k := k) (by rw [hn.out]; exact hkn) (by unfold memFrom; rw [hx.out]; simp; omega))
        clear hall
        go_upto_region 6 with fail
        go_region
        go_wp2_with fail
        go_ret
        exact ⟨by rw [hno.out]; rfl, hl.drew⟩
      cases k with
      | zero =>
        replace d1 : wi.cell? ⟨g, o, none⟩ = some (.int .i64 x) := d1
        have h2 : Hid (∀ j, j < 1 → memFrom M j = true) := Lib.hid (fun j hj => by
          obtain rfl : j = 0 := by omega
          unfold memFrom; rw [hx.out]; simp; omega)
        clear hall
        go_upto_region 6 with fail
        go_region
        go_wp2_with fail
        go_roundw
        case rel => exact ⟨1, by omega, rfl, h2, hl.drew⟩
        case measure => simp [intOf]
      | succ i =>
        obtain ⟨_, _, e1, d30⟩ := hc i (by omega)
        injection e1 with e1
        injection e1 with e1 e2
        subst e1
        subst e2
        obtain ⟨q, hq⟩ : ∃ z, Hid (M.getD i 0 = z) := ⟨_, rfl⟩
        rw [hq.out] at d30
        have d3 := hl.cell d30
        clear d30
        have hii : (i : Int) < n := by omega
        have hii1 : (i : Int) + 1 < n := by omega
        have hgt0 : (0 : Int) < (i : Int) + 1 := by omega
        by_cases hle : x ≤ q
        · have hno := Lib.hid (memB_no (M := M) (k := i + 1) (by rw [hn.out]; exact hkn) (by unfold memFrom; rw [hx.out, Nat.add_sub_cancel, hq.out]; simp; omega))
          clear hall
          go_upto_region 6 with fail
          go_region
          go_wp2_with fail
          go_ret
          exact ⟨by rw [hno.out]; rfl, hl.drew⟩
        · have h2 : Hid (∀ j, j < i + 1 + 1 → memFrom M j = true) := Lib.hid (fun j hj => by
            by_cases e : j = i + 1
            · rw [e]
              unfold memFrom; rw [hx.out, Nat.add_sub_cancel, hq.out]; simp; omega
            · exact hall.out j (by omega))
          clear hall
          go_upto_region 6 with fail
          go_region
          go_wp2_with fail
          go_roundw
          case rel => exact ⟨i + 1 + 1, by omega, by go_num, h2, hl.drew⟩
          case measure => simp [intOf]; omega
    · obtain rfl : k = n := by omega
      have hm : Hid (memB M = true) := Lib.hid (by
        rw [memB_yes (fun j hj => hall.out j (by rw [← hn.out]; exact hj)), hn.out]; simp; omega)
      clear hall
      go_wp2_with fail
      go_ret
      exact ⟨by rw [hm.out]; rfl, hl⟩

/-! The rank of an ID. -/
theorem rises_lt {I : List Int} (h : Rises I) {i j : Nat} (hij : i < j) (hj : j < I.length) : I.getD i 0 < I.getD j 0 := h i j hij hj
theorem getD_of {I : List Int} {i : Nat} (h : i < I.length) : I[i] = I.getD i 0 := by rw [List.getD_eq_getElem?_getD, List.getElem?_eq_getElem h]; rfl
theorem rises_count {I : List Int} (h : Rises I) {i : Nat} (hi : i < I.length) : I.countP (fun x => decide (x < I.getD i 0)) = i := by
  have e := congrArg (fun L : List Int => L.countP (fun x => decide (x < I.getD i 0))) (List.take_append_drop i I).symm
  have h1 : (I.take i).countP (fun x => decide (x < I.getD i 0)) = i := by
    have hl : (I.take i).length = i := by rw [List.length_take]; omega
    rw [List.countP_eq_length.2 (fun a ha => by
      obtain ⟨j, hj, rfl⟩ := List.getElem_of_mem ha
      rw [hl] at hj
      rw [List.getElem_take, getD_of (by omega)]
      exact decide_eq_true (h j i hj hi)), hl]
  have h2 : (I.drop i).countP (fun x => decide (x < I.getD i 0)) = 0 := by
    rw [List.countP_eq_zero]
    intro a ha
    obtain ⟨j, hj, rfl⟩ := List.getElem_of_mem ha
    rw [List.length_drop] at hj
    rw [List.getElem_drop, getD_of (by omega)]
    simp only [decide_eq_true_eq]
    rcases Nat.eq_zero_or_pos j with rfl | h0
    · rw [Nat.add_zero]; omega
    · have := h i (i + j) (by omega) (by omega); omega
  calc I.countP (fun x => decide (x < I.getD i 0)) = (I.take i ++ I.drop i).countP (fun x => decide (x < I.getD i 0)) := e
    _ = i := by rw [List.countP_append, h1, h2]; rfl
def rankK (s : Scn) (id : Int) (k : Nat) : Nat := ((idL s).take k).countP (fun x => decide (x < id))
theorem rankK_succ {s : Scn} {id : Int} {k : Nat} {x : SObj} (hx : s.os[k]? = some x) : rankK s id (k + 1) = rankK s id k + (if x.id < id then 1 else 0) := by
  unfold rankK
  rw [idL_snoc hx, List.countP_append]
  by_cases h : x.id < id <;> simp [h]
theorem rankK_le (s : Scn) (id : Int) (k : Nat) : rankK s id k ≤ k := by
  unfold rankK
  refine Nat.le_trans List.countP_le_length ?_
  rw [List.length_take]; omega
theorem rankK_all {s : Scn} {id : Int} {n : Nat} (hn : s.os.length = n) : rankK s id n = (srt (idL s)).countP (fun x => decide (x < id)) := by
  unfold rankK
  rw [List.take_of_length_le (by unfold idL; rw [List.length_map, hn]; exact Nat.le_refl _)]
  exact (List.mergeSort_perm (idL s) _).symm.countP_eq _
theorem find_has (s : Scn) (id : Int) : (0 ≤ findQ s id) ↔ ∃ i, i < (srt (idL s)).length ∧ (srt (idL s)).getD i 0 = id := by
  have h1 : (0 ≤ findQ s id) ↔ id ∈ idL s := by
    have h : decide (0 ≤ findQ s id) = (List.range s.os.length).any (fun j => ((s.os[0 + j]?).map (·.id)).getD 0 == id) := fst_any (fun k => ((s.os[k]?).map (·.id)).getD 0 == id) s.os.length 0
    rw [← decide_eq_true_iff (p := 0 ≤ findQ s id), h, List.any_eq_true]
    constructor
    · rintro ⟨j, hj, he⟩
      have hj' := List.mem_range.1 hj
      simp only [Nat.zero_add, List.getElem?_eq_getElem hj', Option.map_some, Option.getD_some, beq_iff_eq] at he
      exact List.mem_map.2 ⟨_, List.getElem_mem hj', he⟩
    · intro hm
      obtain ⟨x, hx, he⟩ := List.mem_map.1 hm
      obtain ⟨j, hj, rfl⟩ := List.getElem_of_mem hx
      refine ⟨j, List.mem_range.2 hj, ?_⟩
      simp only [Nat.zero_add, List.getElem?_eq_getElem hj, Option.map_some, Option.getD_some, beq_iff_eq]
      exact he
  rw [h1]
  have h3 : id ∈ idL s ↔ id ∈ srt (idL s) := (List.mergeSort_perm (idL s) _).mem_iff.symm
  rw [h3]
  constructor
  · intro hm
    obtain ⟨i, hi, rfl⟩ := List.getElem_of_mem hm
    exact ⟨i, hi, (getD_of hi).symm⟩
  · rintro ⟨i, hi, rfl⟩
    rw [← getD_of hi]; exact List.getElem_mem hi
theorem may_of {s : Scn} {M : List Int} (h1 : memB M = true) (h2 : (wrongQ s).1 = 0) : mayQ s M = true := by
  unfold mayQ
  simp only [Bool.and_eq_true, decide_eq_true_eq]
  exact ⟨h1, h2⟩
theorem may_mem {s : Scn} {M : List Int} (h : memB M = false) : mayQ s M = false := by unfold mayQ; rw [h]; rfl
theorem may_wr {s : Scn} {M : List Int} (h : (wrongQ s).1 ≠ 0) : mayQ s M = false := by
  unfold mayQ
  rw [Bool.and_eq_false_iff]
  exact Or.inr (@decide_eq_false _ (Classical.propDecidable _) h)
theorem own_yes {s : Scn} {M : List Int} {id : Int} (h1 : memB M = true) (h2 : (wrongQ s).1 = 0) (h3 : 0 ≤ findQ s id) : ownE s M id = (ow M (rankK s id s.os.length), 0) := by
  obtain ⟨i, hi, rfl⟩ := (find_has s id).1 h3
  have hr := ids_rise h2
  unfold ownE
  rw [if_pos (may_of h1 h2), ownQ_at hr hi, if_neg (by have := ow_may h1 i; omega), rankK_all rfl, rises_count hr hi]
theorem own_lost {s : Scn} {M : List Int} {id : Int} (h1 : memB M = true) (h2 : (wrongQ s).1 = 0) (h3 : ¬ 0 ≤ findQ s id) : ownE s M id = (0, 80) := by
  unfold ownE
  rw [if_pos (may_of h1 h2), ownQ_none (fun i hi he => h3 ((find_has s id).2 ⟨i, hi, he⟩)), if_pos (by decide)]
theorem own_not {s : Scn} {M : List Int} {id : Int} (h : mayQ s M = false) : ownE s M id = (0, 80) := by
  unfold ownE
  rw [if_neg (by rw [h]; decide)]
end Go.Proofs.YtackbajbladhhaaGreat
namespace Go.Proofs.YtackbajbladhhaaGreat
open Go.RowKit Go.Shelf
set_option linter.unusedVariables false
set_option linter.unusedSimpArgs false
attribute [local go_sem] Oper.semAt_some
attribute [-simp] Tryz.sizeOf123 Tryz.typeInfo123

set_option maxRecDepth 100000 in
set_option maxHeartbeats 2000000 in
theorem rowner_any (s : Scn) (M : List Int) (v : Value) (id : Int) (W : World) (hs : s.Ok W) (hv : IntsO W v M) (hsm : SmallS s) (hlen : M.length ≤ 70) :
    Calls Tryz.prog 6 #[s.V, v, .int .i64 id] W fun e w' => e = .returned (.tuple #[.int .i64 (ownE s M id).1, .int .i64 (ownE s M id).2]) ∧ Later W w' := by
  obtain ⟨X, hX⟩ : ∃ X, X = W.alloc (.cells s.row.toArray 28) := ⟨_, rfl⟩
  have hlX : Later W X := by rw [hX]; exact (Later.refl W).alloc _
  have kS : ScnB X W.heap.size s := by rw [hX]; exact heap_alloc_new _ _
  have hS2 := size_scn2 s
  have hCk := Lib.hid (fun V (h : Later X V) => rcheck_any s V (hs.later (hlX.trans h)) hsm)
  have hM := Lib.hid (rmembers_any v M X (hv.later hlX) hlen)
  have hF := Lib.hid (fun V (h : Later X V) => rfind_any s id V (hs.later (hlX.trans h)) (by have := hsm.1; omega))
  obtain ⟨fq, hfq⟩ : ∃ f, Hid (max 0 (findQ s id) = f) := ⟨_, rfl⟩
  obtain ⟨fb, hfb⟩ : ∃ f, Hid (decide (0 ≤ findQ s id) = f) := ⟨_, rfl⟩
  obtain ⟨b, hb⟩ : ∃ f, Hid (memB M = f) := ⟨_, rfl⟩
  obtain ⟨wq, hwq⟩ : ∃ f, Hid ((wrongQ s).1 = f) := ⟨_, rfl⟩
  obtain ⟨c, hc⟩ : ∃ c : Int, Hid ((if wq = 0 then 0 else 60) = c) := ⟨_, rfl⟩
  rw [hfq.out, hfb.out] at hF
  rw [hb.out] at hM
  rw [hwq.out, hc.out] at hCk
  obtain ⟨r, hr⟩ : ∃ r, Hid (ownE s M id = r) := ⟨_, rfl⟩
  obtain ⟨r1, r2⟩ := r
  rw [hr.out]
  have hv2 := hv
  obtain ⟨am, mc, rfl, hcells⟩ := hv2
  obtain ⟨m, hm⟩ : ∃ m, Hid (M.length = m) := ⟨_, rfl⟩
  rw [hm.out] at hM hcells hlen ⊢
  replace hcells := Lib.hid hcells
  obtain ⟨ao, cap, hu⟩ := hs.1.form
  rw [List.length_map] at hu
  obtain ⟨n, hn⟩ : ∃ n, Hid (s.os.length = n) := ⟨_, rfl⟩
  have hn20 : n ≤ 20 := by rw [← hn.out]; exact hsm.1
  have so := kS.uo
  rw [hu] at so
  rw [hn.out] at so
  have hrv := (hs.later hlX).1
  rw [hu] at hrv
  clear hv
  replace hu := Lib.hid hu
  go_enter Tryz.func6, Tryz.ntmps6
  go_upto_region 1 with fail
  rw [← hX]
  clear hX
  obtain ⟨N, hN⟩ : ∃ N, Hid (W.heap.size = N) := ⟨_, rfl⟩
  rw [hN.out] at kS so ⊢
  go_wp2_with fail
  refine hM.out.mono ?_
  rintro e w1 ⟨rfl, hl1⟩
  have kS1 := hl1.row kS
  go_wp2_with (refine wpList_load_row rfl _ _ rfl N rfl _ _ (0, 0) _ kS1 Tryz.underlying28 rfl hS2 ?_)
  refine (hCk.out _ hl1).mono ?_
  rintro e w2 ⟨rfl, hl2⟩
  have kS2 := hl2.row kS1
  go_wp2_with (refine wpList_load_row rfl _ _ rfl N rfl _ _ (0, 0) _ kS2 Tryz.underlying28 rfl hS2 ?_)
  refine (hF.out _ (hl1.trans hl2)).mono ?_
  rintro e w3 ⟨rfl, hl3⟩
  have hl123 := (hl1.trans hl2).trans hl3
  have hlW := hlX.trans hl123
  have so3 := hl123.cell so
  have hrv3 := hrv.later hl123
  clear hM hCk hF hl1 hl2 hl3 kS kS1 kS2 hrv so hlX hl123
  cases b
  · have hres : Hid (r1 = 0 ∧ r2 = 80) := Lib.hid (by have h0 := hr.out; rw [own_not (may_mem hb.out)] at h0; cases h0; exact ⟨rfl, rfl⟩)
    go_wp2_with fail
    go_ret2
    exact ⟨by rw [hres.out.1, hres.out.2]; rfl, hlW⟩
  · by_cases hc0 : c = 0
    · subst hc0
      have hw0 : Hid ((wrongQ s).1 = 0) := Lib.hid (by
        rw [hwq.out]
        refine Classical.byContradiction (fun h => ?_)
        have := hc.out
        rw [if_neg h] at this
        exact absurd this (by decide))
      cases fb
      · have hres : Hid (r1 = 0 ∧ r2 = 80) := Lib.hid (by have h0 := hr.out; rw [own_lost hb.out hw0.out (of_decide_eq_false hfb.out)] at h0; cases h0; exact ⟨rfl, rfl⟩)
        go_wp2_with fail
        go_ret2
        exact ⟨by rw [hres.out.1, hres.out.2]; rfl, hlW⟩
      · have hres : Hid (r1 = ow M (rankK s id n) ∧ r2 = 0) := Lib.hid (by
          have h0 := hr.out
          rw [own_yes hb.out hw0.out (of_decide_eq_true hfb.out), hn.out] at h0
          cases h0
          exact ⟨rfl, rfl⟩)
        have hmpos : 0 < m := by rw [← hm.out]; exact (mem_may hb.out).1
        go_wp2_with fail
        go_loopw [12, 13] (fun z y wr => ∃ k : Nat, k ≤ n ∧ y = .int .i64 k ∧ z = .int .i64 (rankK s id k : Nat) ∧ wr = w3) (fun _ y _ => (300 - intOf y).toNat)
        case atStart => exact ⟨0, by omega, rfl, rfl, rfl⟩
        case round =>
          obtain ⟨k, hk, rfl, rfl, rfl⟩ := hrel
          obtain ⟨wi, rfl⟩ : ∃ wo : World, wo = wr := ⟨_, rfl⟩
          obtain ⟨rk, hrk⟩ : ∃ q, Hid (rankK s id k = q) := ⟨_, rfl⟩
          have hrk20 : rk ≤ k := by rw [← hrk.out]; exact rankK_le _ _ _
          rw [hrk.out]
          by_cases hkN : k < n
          · have hkL : k < s.os.length := by rw [hn.out]; exact hkN
            obtain ⟨x, hx⟩ : ∃ x, Hid (s.os[k]? = some x) := ⟨_, Lib.hid (List.getElem?_eq_getElem hkL)⟩
            obtain ⟨g, o, rfl, hrg⟩ := hrv3.at (k := k) (x := x.row) (by rw [List.getElem?_map, hx.out]; rfl)
            have ci : wi.cell? ⟨g, o + k * 19, none⟩ = some (.int .i64 x.id) := hrg 0 _ rfl
            obtain ⟨xi, hxi⟩ : ∃ b, Hid (x.id = b) := ⟨_, rfl⟩
            rw [hxi.out] at ci
            have hki : (k : Int) < n := by omega
            clear hrg
            by_cases hlt : xi < id
            · have h2 : Hid (rankK s id (k + 1) = rk + 1) := Lib.hid (by rw [rankK_succ hx.out, hrk.out, hxi.out, if_pos hlt])
              go_wp2_with fail
              go_roundw
              case rel => exact ⟨k + 1, by omega, by go_num, by rw [h2.out]; go_num, by first | trivial | rfl⟩
              case measure => simp [intOf]; omega
            · have h2 : Hid (rankK s id (k + 1) = rk) := Lib.hid (by rw [rankK_succ hx.out, hrk.out, hxi.out, if_neg hlt]; rfl)
              go_wp2_with fail
              go_roundw
              case rel => exact ⟨k + 1, by omega, by go_num, by rw [h2.out], by first | trivial | rfl⟩
              case measure => simp [intOf]; omega
          · obtain rfl : k = n := by omega
            obtain ⟨j, hj⟩ : ∃ j, Hid (rk % m = j) := ⟨_, rfl⟩
            have hjm : j < m := by rw [← hj.out]; exact Nat.mod_lt _ hmpos
            have htm : Int.tmod (rk : Int) (m : Int) = (j : Int) := by rw [← hj.out]; rfl
            obtain ⟨g2, o2, rfl, cm0⟩ := hcells.out j hjm
            have cm := hlW.cell cm0
            obtain ⟨x, hx⟩ : ∃ x, Hid (M.getD j 0 = x) := ⟨_, rfl⟩
            rw [hx.out] at cm
            have hx2 : Hid (r1 = x) := Lib.hid (by rw [hres.out.1, hrk.out]; unfold ow; rw [hm.out, hj.out, hx.out])
            have hji : (j : Int) < m := by omega
            have hmne : ((m : Int) == 0) = false := by simp; omega
            clear cm0 hcells
            go_wp2_with fail
            go_ret2
            exact ⟨by rw [hx2.out, hres.out.2]; rfl, hlW⟩
    · have hres : Hid (r1 = 0 ∧ r2 = 80) := Lib.hid (by
        have h0 := hr.out
        rw [own_not (may_wr (by
          rw [hwq.out]
          intro h
          have := hc.out
          rw [if_pos h] at this
          exact hc0 this.symm))] at h0
        cases h0; exact ⟨rfl, rfl⟩)
      have hne : (c != 0) = true := by simpa using hc0
      replace hc0 := Lib.hid hc0
      go_wp2_with fail
      go_ret2
      exact ⟨by rw [hres.out.1, hres.out.2]; rfl, hlW⟩
end Go.Proofs.YtackbajbladhhaaGreat
