/-
  Chapter 6: the document's answers: where an object is; all IDs.
-/
import Derived.Test.YtackbajbladhhaaGreatScW
import Derived.Deep.Onto
namespace Go.Proofs.YtackbajbladhhaaGreat
open Go.RowKit Go.Shelf
set_option linter.unusedVariables false
set_option linter.unusedSimpArgs false
attribute [local go_sem] Oper.semAt_some

set_option maxRecDepth 100000 in
set_option maxHeartbeats 2000000 in
theorem rfind_any (s : Scn) (i : Int) (W : World) (hs : s.Ok W) (hlen : s.os.length ≤ 1000000) :
    Calls Tryz.prog 19 #[s.V, .int .i64 i] W fun e w' => e = .returned (.tuple #[.int .i64 (max 0 (findQ s i)), .bool (decide (0 ≤ findQ s i))]) ∧ Later W w' := by
  obtain ⟨X, hX⟩ : ∃ X, X = W.alloc (.cells s.row.toArray 28) := ⟨_, rfl⟩
  have hlX : Later W X := by rw [hX]; exact (Later.refl W).alloc _
  have kS : ScnB X W.heap.size s := by rw [hX]; exact heap_alloc_new _ _
  obtain ⟨ao, cap, hu⟩ := hs.1.form
  rw [List.length_map] at hu
  have so := kS.uo
  rw [hu] at so
  have hv := (hs.later hlX).1
  rw [hu] at hv
  obtain ⟨n, hn⟩ : ∃ n, Hid (s.os.length = n) := ⟨_, rfl⟩
  rw [hn.out] at so hlen hv
  obtain ⟨r, hr⟩ : ∃ r, Hid (findQ s i = r) := ⟨_, rfl⟩
  rw [hr.out]
  have hst : Hid (fst (fun k => ((s.os[k]?).map (·.id)).getD 0 == i) n 0 = r) := Lib.hid (by rw [← hr.out]; unfold findQ; rw [hn.out])
  clear hu hr kS hs
  go_enter Tryz.func19, Tryz.ntmps19
  go_upto_region 1 with fail
  rw [← hX]
  clear hX
  go_wp2_with fail
  go_loopw [6] (fun y wr => ∃ k : Nat, k ≤ n ∧ y = .int .i64 k ∧ Hid (fst (fun k => ((s.os[k]?).map (·.id)).getD 0 == i) (n - k) k = r) ∧ wr = X) (fun y _ => (2000000 - intOf y).toNat)
  case atStart => exact ⟨0, by omega, rfl, hst, rfl⟩
  case round =>
    obtain ⟨k, hk, rfl, hf, rfl⟩ := hrel
    obtain ⟨wi, rfl⟩ : ∃ wo : World, wo = wr := ⟨_, rfl⟩
    clear hst
    by_cases hkN : k < n
    · have hkL : k < s.os.length := by rw [hn.out]; exact hkN
      obtain ⟨x, hx⟩ : ∃ x, Hid (s.os[k]? = some x) := ⟨_, Lib.hid (List.getElem?_eq_getElem hkL)⟩
      obtain ⟨g, o, rfl, hrg⟩ := hv.at (k := k) (x := x.row) (by rw [List.getElem?_map, hx.out]; rfl)
      have ci : wi.cell? ⟨g, o + k * 19, none⟩ = some (.int .i64 x.id) := hrg 0 _ rfl
      obtain ⟨xi, hxi⟩ : ∃ b, Hid (x.id = b) := ⟨_, rfl⟩
      rw [hxi.out] at ci
      have hki : (k : Int) < n := by omega
      have hpk : Hid ((fun k => ((s.os[k]?).map (·.id)).getD 0 == i) k = (xi == i)) := Lib.hid (by show (((s.os[k]?).map (·.id)).getD 0 == i) = (xi == i); rw [hx.out, ← hxi.out]; rfl)
      clear hrg
      by_cases heq : xi = i
      · have hd : (xi == i) = true := by simpa using heq
        have hres : Hid (r = k) := Lib.hid (by
          have h0 := hf.out
          rw [show n - k = (n - k - 1) + 1 by omega, fst_hit _ _ _ (hpk.out.trans hd)] at h0
          exact h0.symm)
        clear heq hf hpk
        go_wp2_with fail
        go_ret2
        exact ⟨by rw [hres.out, show max (0 : Int) k = k by omega, decide_eq_true (show (0 : Int) ≤ k by omega)]; rfl, hlX⟩
      · have hd : (xi == i) = false := by simpa using heq
        have hf2 : Hid (fst (fun k => ((s.os[k]?).map (·.id)).getD 0 == i) (n - (k + 1)) (k + 1) = r) := Lib.hid (by
          have h0 := hf.out
          rw [show n - k = (n - (k + 1)) + 1 by omega, fst_miss _ _ _ (hpk.out.trans hd)] at h0
          exact h0)
        clear heq hf hpk
        go_wp2_with fail
        go_roundw
        case rel => exact ⟨k + 1, by omega, by go_num, hf2, by first | trivial | rfl⟩
        case measure => simp [intOf]; omega
    · obtain rfl : k = n := by omega
      have hres : Hid (r = -1) := Lib.hid (by
        have h0 := hf.out
        rw [Nat.sub_self] at h0
        exact h0.symm)
      clear hf
      go_wp2_with fail
      go_ret2
      exact ⟨by rw [hres.out]; rfl, hlX⟩

/-! A number into its place. -/
def insL (x : Int) : List Int → List Int
  | [] => [x]
  | y :: r => if x < y then x :: y :: r else y :: insL x r
def hasL (x : Int) (L : List Int) : Bool := L.any (fun y => decide (x < y))
theorem insL_more (x y : Int) : ∀ (L : List Int), hasL x L = true → insL x (L ++ [y]) = insL x L ++ [y]
  | [], h => by simp [hasL] at h
  | z :: r, h => by
    by_cases hz : x < z
    · simp [insL, hz]
    · have : hasL x r = true := by
        unfold hasL at h ⊢
        rw [List.any_cons, decide_eq_false hz, Bool.false_or] at h; exact h
      show (if x < z then x :: z :: (r ++ [y]) else z :: insL x (r ++ [y])) = (if x < z then x :: z :: r else z :: insL x r) ++ [y]
      rw [if_neg hz, if_neg hz, insL_more x y r this]; rfl
theorem insL_none (x : Int) : ∀ (L : List Int), hasL x L = false → insL x L = L ++ [x]
  | [], _ => rfl
  | z :: r, h => by
    unfold hasL at h
    rw [List.any_cons, Bool.or_eq_false_iff] at h
    have hz := of_decide_eq_false h.1
    show (if x < z then _ else z :: insL x r) = _
    rw [if_neg hz, insL_none x r h.2]; rfl
theorem insL_here (x y : Int) (hxy : x < y) : ∀ (L : List Int), hasL x L = false → insL x (L ++ [y]) = L ++ [x, y]
  | [], _ => by simp [insL, hxy]
  | z :: r, h => by
    unfold hasL at h
    rw [List.any_cons, Bool.or_eq_false_iff] at h
    have hz := of_decide_eq_false h.1
    show (if x < z then _ else z :: insL x (r ++ [y])) = _
    rw [if_neg hz, insL_here x y hxy r h.2]; rfl
theorem hasL_snoc (x y : Int) (L : List Int) : hasL x (L ++ [y]) = (hasL x L || decide (x < y)) := by simp [hasL]
theorem insL_perm (x : Int) : ∀ L : List Int, (insL x L).Perm (x :: L)
  | [] => List.Perm.refl _
  | y :: r => by
    show (if x < y then x :: y :: r else y :: insL x r).Perm _
    split
    · exact List.Perm.refl _
    · exact ((insL_perm x r).cons y).trans (List.Perm.swap x y r)
theorem insL_sorted (x : Int) : ∀ {L : List Int}, L.Pairwise (· ≤ ·) → (insL x L).Pairwise (· ≤ ·)
  | [], _ => by simp [insL]
  | y :: r, h => by
    have hy := List.pairwise_cons.1 h
    show (if x < y then x :: y :: r else y :: insL x r).Pairwise _
    split
    case isTrue hxy =>
      refine List.pairwise_cons.2 ⟨fun z hz => ?_, h⟩
      rcases List.mem_cons.1 hz with rfl | hz
      · omega
      · have := hy.1 z hz; omega
    case isFalse hxy =>
      refine List.pairwise_cons.2 ⟨fun z hz => ?_, insL_sorted x hy.2⟩
      rcases List.mem_cons.1 ((insL_perm x r).mem_iff.1 hz) with rfl | hz
      · omega
      · exact hy.1 z hz
/-- The part of the new list behind so many of the old one. -/
def insP (x : Int) (L : List Int) : List Int := if hasL x L then insL x L else L
def foldI (L : List Int) : List Int := L.foldl (fun a x => insL x a) []
theorem foldI_snoc (L : List Int) (x : Int) : foldI (L ++ [x]) = insL x (foldI L) := by simp [foldI]
theorem foldI_perm (L : List Int) : (foldI L).Perm L ∧ (foldI L).Pairwise (· ≤ ·) := by
  suffices h : ∀ (L A B : List Int), A.Perm B → A.Pairwise (· ≤ ·) → (L.foldl (fun a x => insL x a) A).Perm (B ++ L) ∧ (L.foldl (fun a x => insL x a) A).Pairwise (· ≤ ·) from
    (by unfold foldI; simpa using h L [] [] (List.Perm.refl _) List.Pairwise.nil)
  intro L
  induction L with
  | nil => intro A B h1 h2; rw [List.append_nil]; exact ⟨h1, h2⟩
  | cons x r ih =>
    intro A B h1 h2
    have := ih (insL x A) (B ++ [x]) (((insL_perm x A).trans (h1.cons x)).trans (List.perm_append_comm (l₁ := [x]) (l₂ := B))) (insL_sorted x h2)
    rw [List.append_assoc] at this
    exact this
theorem foldI_srt (L : List Int) : foldI L = srt L :=
  List.Perm.eq_of_pairwise (le := (· ≤ ·)) (fun a b _ _ h1 h2 => Int.le_antisymm h1 h2) (foldI_perm L).2 (srt_sorted L) ((foldI_perm L).1.trans (List.mergeSort_perm L _).symm)
theorem insL_length (x : Int) (L : List Int) : (insL x L).length = L.length + 1 := (insL_perm x L).length_eq
theorem foldI_length (L : List Int) : (foldI L).length = L.length := (foldI_perm L).1.length_eq
theorem insP_le (x : Int) (L : List Int) : (insP x L).length ≤ L.length + 1 := by
  unfold insP; split
  · rw [insL_length]; omega
  · omega
theorem insP_done {x y : Int} {L : List Int} (h : hasL x L = true) : insP x (L ++ [y]) = insP x L ++ [y] ∧ hasL x (L ++ [y]) = true := by
  have h2 : hasL x (L ++ [y]) = true := by rw [hasL_snoc, h]; rfl
  refine ⟨?_, h2⟩
  unfold insP
  rw [if_pos h, if_pos h2, insL_more x y L h]
theorem insP_here {x y : Int} {L : List Int} (h : hasL x L = false) (hxy : x < y) : insP x (L ++ [y]) = insP x L ++ [x, y] ∧ hasL x (L ++ [y]) = true := by
  have h2 : hasL x (L ++ [y]) = true := by rw [hasL_snoc, h, decide_eq_true hxy]; rfl
  refine ⟨?_, h2⟩
  unfold insP
  rw [h, if_pos h2, insL_here x y hxy L h]
  rfl
theorem insP_wait {x y : Int} {L : List Int} (h : hasL x L = false) (hxy : ¬ x < y) : insP x (L ++ [y]) = insP x L ++ [y] ∧ hasL x (L ++ [y]) = false := by
  have h2 : hasL x (L ++ [y]) = false := by rw [hasL_snoc, h, decide_eq_false hxy]; rfl
  refine ⟨?_, h2⟩
  unfold insP
  rw [h, h2]
  rfl
theorem getD_take_snoc {L : List Int} {i : Nat} (h : i < L.length) : L.take (i + 1) = L.take i ++ [L.getD i 0] := by
  rw [List.take_add_one, List.getElem?_eq_getElem h, List.getD_eq_getElem?_getD, List.getElem?_eq_getElem h]; rfl
theorem IntsV.at0 {W : World} {ao : Option Addr} {n cap : Nat} {M : List Int} (h : IntsV W (.slice ao n cap) M) {k : Nat} (hk : k < M.length) : ∃ g, ao = some ⟨g, 0, none⟩ ∧ W.cell? ⟨g, k, none⟩ = some (.int .i64 (M.getD k 0)) := by
  obtain ⟨ao', cap', e, hv⟩ := h
  cases e
  exact hv k hk
set_option maxRecDepth 100000 in
set_option maxHeartbeats 4000000 in
theorem rids_any (s : Scn) (W : World) (hs : s.Ok W) (hlen : s.os.length ≤ 20) :
    Calls Tryz.prog 23 #[s.V] W fun e w' => ∃ v, e = .returned v ∧ IntsF W.heap.size w' v (srt (idL s)) ∧ Later W w' := by
  obtain ⟨i0, hi, hz0, hz1, hz2⟩ := info_parts info_int
  obtain ⟨X, hX⟩ : ∃ X, X = W.alloc (.cells s.row.toArray 28) := ⟨_, rfl⟩
  have hlX : Later W X := by rw [hX]; exact (Later.refl W).alloc _
  have hWX : Hid (W.heap.size + 1 = X.heap.size) := Lib.hid (by rw [hX]; exact (World.size_alloc _ _).symm)
  have kS : ScnB X W.heap.size s := by rw [hX]; exact heap_alloc_new _ _
  obtain ⟨ao, cap, hu⟩ := hs.1.form
  rw [List.length_map] at hu
  obtain ⟨n, hn⟩ : ∃ n, Hid (s.os.length = n) := ⟨_, rfl⟩
  have so := kS.uo
  rw [hu] at so
  rw [hn.out] at so hlen hu
  replace hu := Lib.hid hu
  have hML : 2000 < maxLen := by decide
  go_enter Tryz.func23, Tryz.ntmps23
  go_upto_region 1 with fail
  rw [← hX]
  clear hX kS
  go_wp2_with fail
  go_loopw [3, 4] (fun z y wr => ∃ (k : Nat) (v : Value), k ≤ n ∧ y = .int .i64 k ∧ v = z ∧ Later X wr ∧ wr.ownsRow X.heap.size 3 1 v k (encI (foldI ((idL s).take k)))) (fun _ y _ => (300 - intOf y).toNat)
  case atStart => exact ⟨0, _, by omega, rfl, rfl, Later.refl _, World.ownsRow_nil ..⟩
  case round =>
    obtain ⟨k, v, hk, rfl, rfl, hl0, hrow⟩ := hrel
    obtain ⟨wo, rfl⟩ : ∃ wo : World, wo = wr := ⟨_, rfl⟩
    by_cases hkN : k < n
    · have hkL : k < s.os.length := by rw [hn.out]; exact hkN
      obtain ⟨x, hx⟩ : ∃ x, Hid (s.os[k]? = some x) := ⟨_, Lib.hid (List.getElem?_eq_getElem hkL)⟩
      obtain ⟨xi, hxi⟩ : ∃ b, Hid (x.id = b) := ⟨_, rfl⟩
      obtain ⟨O, hO⟩ : ∃ O, Hid (foldI ((idL s).take k) = O) := ⟨_, rfl⟩
      have hOl : O.length = k := by rw [← hO.out, foldI_length, List.length_take]; unfold idL; rw [List.length_map]; omega
      have hO2 : Hid (foldI ((idL s).take (k + 1)) = insL xi O) := Lib.hid (by rw [idL_snoc hx.out, foldI_snoc, hO.out, hxi.out])
      rw [hO.out] at hrow
      have hiv : IntsV wo v O := by
        have := hrow
        rw [← hOl] at this
        exact intsV_of_row this
      obtain ⟨av, cv, rfl⟩ : ∃ ao cap, v = .slice ao k cap := by
        obtain ⟨ao, cap, e, _⟩ := hiv
        exact ⟨ao, cap, by rw [e, hOl]⟩
      have hOk := hs.later (hlX.trans hl0)
      have hrv := hOk.1
      rw [hu.out] at hrv
      obtain ⟨g, o, rfl, hrg⟩ := hrv.at (k := k) (x := x.row) (by rw [List.getElem?_map, hx.out]; rfl)
      have ci0 : wo.cell? ⟨g, o + k * 19, none⟩ = some (.int .i64 xi) := by rw [← hxi.out]; exact hrg 0 _ rfl
      have hki : (k : Int) < n := by omega
      have hn2 : X.heap.size ≤ wo.heap.size := hl0.size
      have so0 := hl0.cell so
      clear hrg hOk hrv hrow
      go_wp2_with fail
      go_loopw [5, 6, 7] (fun z d y wr => ∃ (i : Nat) (u : Value), i ≤ k ∧ y = .int .i64 i ∧ d = .bool (hasL xi (O.take i)) ∧ u = z ∧ Later wo wr ∧ wr.ownsRow wo.heap.size 3 1 u (insP xi (O.take i)).length (encI (insP xi (O.take i)))) (fun _ _ y _ => (300 - intOf y).toNat)
      case atStart => exact ⟨0, _, by omega, rfl, rfl, rfl, Later.refl _, World.ownsRow_nil ..⟩
      case round =>
        obtain ⟨i, u, hik, rfl, rfl, rfl, hl1, hrow⟩ := hrel
        obtain ⟨wi, rfl⟩ : ∃ wo : World, wo = wr := ⟨_, rfl⟩
        obtain ⟨m, hm⟩ : ∃ m, Hid ((insP xi (O.take i)).length = m) := ⟨_, rfl⟩
        have hm21 : m ≤ 21 := by have := insP_le xi (O.take i); rw [List.length_take] at this; have := hm.out; omega
        have hn3 : wo.heap.size ≤ wi.heap.size := hl1.size
        have soi := hl1.cell so0
        have cii := hl1.cell ci0
        rw [hm.out] at hrow
        by_cases hiK : i < k
        · obtain ⟨gv, rfl, cy0⟩ := hiv.at0 (k := i) (by rw [hOl]; exact hiK)
          have cy := hl1.cell cy0
          have cy00 := cy0
          obtain ⟨y, hy⟩ : ∃ y, Hid (O.getD i 0 = y) := ⟨_, rfl⟩
          rw [hy.out] at cy cy00
          have htk : Hid (O.take (i + 1) = O.take i ++ [y]) := Lib.hid (by rw [getD_take_snoc (by rw [hOl]; exact hiK), hy.out])
          have hiki : (i : Int) < k := by omega
          clear cy0
          cases hd : hasL xi (O.take i)
          · replace hd := Lib.hid hd
            by_cases hxy : xi < y
            · obtain ⟨e1, e2⟩ := insP_here hd.out hxy
              have f1 : Hid (insP xi (O.take (i + 1)) = insP xi (O.take i) ++ [xi, y]) := Lib.hid (by rw [htk.out, e1])
              have f2 : Hid (hasL xi (O.take (i + 1)) = true) := Lib.hid (by rw [htk.out, e2])
              clear e1 e2
              go_upto_region 10 with fail
              go_region
              obtain ⟨wd, hwd⟩ : ∃ w, w = wi.drew := ⟨_, rfl⟩
              have hld : Later wi wd := by rw [hwd]; exact (Later.refl wi).drew
              have hrowd : wd.ownsRow wo.heap.size 3 1 u m (encI (insP xi (O.take i))) := by rw [hwd]; exact hrow.drew
              rw [← hwd]
              clear hwd
              replace cy := hld.cell cy
              replace soi := hld.cell soi
              replace cii := hld.cell cii
              have hn4 : wo.heap.size ≤ wd.heap.size := Nat.le_trans hn3 hld.size
              go_upto_region 12 with (at_builtin; refine wpList_append_own _ rfl _ _ 29 rfl wo.heap.size 3 i0 (.int .i64 0) 1 8 Tryz.underlying29 hi hz0 hz1 hz2 rfl (by decide) u m _ rfl (hrowd.alloc _) ⟨wd.heap.size, 0, none⟩ 1 1 [.int .i64 xi] rfl rfl (World.news_of_block (heap_alloc_new _ _)) (by simp [Value.oneCell']) (by omega) (by omega) (by simp; omega) ?_; intro v2 w2 hr2 hg2 hn9)
              have hlm : Later wo w2 := later_row ((hl1.trans hld).alloc _) (hrowd.alloc _) (Nat.le_refl _) hg2
              have hn5 : wo.heap.size ≤ w2.heap.size := hlm.size
              replace cy := hlm.cell cy00
              go_wp2_with (at_builtin; refine wpList_append_own _ rfl _ _ 29 rfl wo.heap.size 3 i0 (.int .i64 0) 1 8 Tryz.underlying29 hi hz0 hz1 hz2 rfl (by decide) v2 (m + 1) _ rfl (hr2.alloc _) ⟨w2.heap.size, 0, none⟩ 1 1 [.int .i64 y] rfl rfl (World.news_of_block (heap_alloc_new _ _)) (by simp [Value.oneCell']) (by omega) (by omega) (by simp; omega) ?_; intro v3 w3 hr3 hg3 hn3)
              go_roundw
              case rel =>
                refine ⟨i + 1, _, by omega, by go_num, by rw [f2.out], rfl, ?_, ?_⟩
                · exact later_row (hlm.alloc _) (hr2.alloc _) (Nat.le_refl _) hg3
                · rw [f1.out, List.length_append, hm.out]
                  unfold encI at hr3 ⊢
                  rw [List.map_append]
                  simpa using hr3
              case measure => simp [intOf]; omega
            · obtain ⟨e1, e2⟩ := insP_wait hd.out hxy
              have f1 : Hid (insP xi (O.take (i + 1)) = insP xi (O.take i) ++ [y]) := Lib.hid (by rw [htk.out, e1])
              have f2 : Hid (hasL xi (O.take (i + 1)) = false) := Lib.hid (by rw [htk.out, e2])
              clear e1 e2
              go_upto_region 10 with fail
              go_region
              obtain ⟨wd, hwd⟩ : ∃ w, w = wi.drew := ⟨_, rfl⟩
              have hld : Later wi wd := by rw [hwd]; exact (Later.refl wi).drew
              have hrowd : wd.ownsRow wo.heap.size 3 1 u m (encI (insP xi (O.take i))) := by rw [hwd]; exact hrow.drew
              rw [← hwd]
              clear hwd
              replace cy := hld.cell cy
              replace soi := hld.cell soi
              replace cii := hld.cell cii
              have hn4 : wo.heap.size ≤ wd.heap.size := Nat.le_trans hn3 hld.size
              go_wp2_with (at_builtin; refine wpList_append_own _ rfl _ _ 29 rfl wo.heap.size 3 i0 (.int .i64 0) 1 8 Tryz.underlying29 hi hz0 hz1 hz2 rfl (by decide) u m _ rfl (hrowd.alloc _) ⟨wd.heap.size, 0, none⟩ 1 1 [.int .i64 y] rfl rfl (World.news_of_block (heap_alloc_new _ _)) (by simp [Value.oneCell']) (by omega) (by omega) (by simp; omega) ?_; intro v2 w2 hr2 hg2 hn2)
              go_roundw
              case rel =>
                refine ⟨i + 1, _, by omega, by go_num, by rw [f2.out], rfl, ?_, ?_⟩
                · exact later_row ((hl1.trans hld).alloc _) (hrowd.alloc _) (Nat.le_refl _) hg2
                · rw [f1.out, List.length_append, hm.out]
                  unfold encI at hr2 ⊢
                  rw [List.map_append]
                  exact hr2
              case measure => simp [intOf]; omega
          · obtain ⟨e1, e2⟩ := insP_done (y := y) hd
            have f1 : Hid (insP xi (O.take (i + 1)) = insP xi (O.take i) ++ [y]) := Lib.hid (by rw [htk.out, e1])
            have f2 : Hid (hasL xi (O.take (i + 1)) = true) := Lib.hid (by rw [htk.out, e2])
            replace hd := Lib.hid hd
            clear e1 e2
            go_upto_region 10 with fail
            go_region
            obtain ⟨wd, hwd⟩ : ∃ w, w = wi.drew := ⟨_, rfl⟩
            have hld : Later wi wd := by rw [hwd]; exact (Later.refl wi).drew
            have hrowd : wd.ownsRow wo.heap.size 3 1 u m (encI (insP xi (O.take i))) := by rw [hwd]; exact hrow.drew
            rw [← hwd]
            clear hwd
            replace cy := hld.cell cy
            replace soi := hld.cell soi
            replace cii := hld.cell cii
            have hn4 : wo.heap.size ≤ wd.heap.size := Nat.le_trans hn3 hld.size
            go_wp2_with (at_builtin; refine wpList_append_own _ rfl _ _ 29 rfl wo.heap.size 3 i0 (.int .i64 0) 1 8 Tryz.underlying29 hi hz0 hz1 hz2 rfl (by decide) u m _ rfl (hrowd.alloc _) ⟨wd.heap.size, 0, none⟩ 1 1 [.int .i64 y] rfl rfl (World.news_of_block (heap_alloc_new _ _)) (by simp [Value.oneCell']) (by omega) (by omega) (by simp; omega) ?_; intro v2 w2 hr2 hg2 hn2)
            go_roundw
            case rel =>
              refine ⟨i + 1, _, by omega, by go_num, by rw [f2.out], rfl, ?_, ?_⟩
              · exact later_row ((hl1.trans hld).alloc _) (hrowd.alloc _) (Nat.le_refl _) hg2
              · rw [f1.out, List.length_append, hm.out]
                unfold encI at hr2 ⊢
                rw [List.map_append]
                exact hr2
            case measure => simp [intOf]; omega
        · obtain rfl : i = k := by omega
          rw [List.take_of_length_le (by rw [hOl]; omega)] at hrow hm ⊢
          cases hd : hasL xi O
          · have e1 : Hid (insL xi O = insP xi O ++ [xi]) := Lib.hid (by unfold insP; rw [hd, insL_none xi O hd]; rfl)
            replace hd := Lib.hid hd
            go_wp2_with (at_builtin; refine wpList_append_own _ rfl _ _ 29 rfl wo.heap.size 3 i0 (.int .i64 0) 1 8 Tryz.underlying29 hi hz0 hz1 hz2 rfl (by decide) u m _ rfl (hrow.alloc _) ⟨wi.heap.size, 0, none⟩ 1 1 [.int .i64 xi] rfl rfl (World.news_of_block (heap_alloc_new _ _)) (by simp [Value.oneCell']) (by omega) (by omega) (by simp; omega) ?_; intro v2 w2 hr2 hg2 hn9)
            go_roundw
            case rel =>
              refine ⟨i + 1, _, by omega, by go_num, rfl, ?_, ?_⟩
              · exact hl0.trans (later_row (hl1.alloc _) (hrow.alloc _) (Nat.le_refl _) hg2)
              · have hmk : Hid (m = i) := Lib.hid (by rw [← hm.out]; unfold insP; rw [hd.out]; exact hOl)
                rw [hO2.out, e1.out]
                unfold encI at hr2 ⊢
                rw [List.map_append]
                rw [hmk.out] at hr2
                exact hr2.mono hn2
            case measure => simp [intOf]; omega
          · have e1 : Hid (insL xi O = insP xi O) := Lib.hid (by unfold insP; rw [hd]; rfl)
            have hmk : Hid (m = i + 1) := Lib.hid (by rw [← hm.out, ← e1.out, insL_length, hOl])
            replace hd := Lib.hid hd
            go_wp2_with fail
            go_roundw
            case rel =>
              refine ⟨i + 1, _, by omega, by go_num, rfl, hl0.trans hl1, ?_⟩
              rw [hO2.out, e1.out, ← hmk.out]
              exact hrow.mono hn2
            case measure => simp [intOf]; omega
    · obtain rfl : k = n := by omega
      have so0 := hl0.cell so
      rw [List.take_of_length_le (by unfold idL; rw [List.length_map, hn.out]; omega), foldI_srt] at hrow
      have hlr : (srt (idL s)).length = k := by unfold srt idL; rw [List.length_mergeSort, List.length_map]; exact hn.out
      go_wp2_with fail
      go_ret
      rw [← hlr] at hrow
      exact ⟨_, rfl, intsF_of_row hrow (by have := hWX.out; omega), hlX.trans hl0⟩
end Go.Proofs.YtackbajbladhhaaGreat
