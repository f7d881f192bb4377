/-
  Chapter 28, the document's answer: a message is read.
-/
import Derived.Test.YtjelfiljebamgaaNdHd
namespace Go.Proofs.Ytjelfiljebamgaa
open Go.RowKit Go.Shelf
set_option linter.unusedVariables false
set_option linter.unusedSimpArgs false
attribute [local go_sem] Oper.semAt_some

theorem may_msg (m : Msg) (um ud : Value) (W : World) (hm : IntsV W um m.Ms) (hd : BytV W ud m.D) (hml : m.Ms.length ≤ 1000000) (hdl : m.D.length ≤ 1000000) :
    Calls Try.prog 71 #[m.V um ud] W fun e w' => e = .returned (.bool (decide m.May)) ∧ Later W w' :=
  may28_any m.k m.eN m.eB um m.fr m.ro m.mf m.mt m.sf m.st ud m.Ms m.D W hm hd hml hdl
/-- The document's reader at work, and the message that is filled. -/
structure QX (W : World) (u : Value) (b : List Int) (z q c : Nat) (cs : Array Value) (L : List Int) (lost : Bool) (w : World) : Prop where
  rd : ∃ a, RrB w q u b a lost ∧ b.drop a = L
  kz : w.heap[z]? = some (.cells (Msg.zero.C (.slice none 0 0) (.slice none 0 0)) 88 (0, 0))
  kc : w.heap[c]? = some (.cells cs 88 (0, 0))
  ls : Later W w
  hz : W.heap.size ≤ z
  hq : W.heap.size ≤ q
  hc : W.heap.size ≤ c
  zq : z ≠ q
  cq : c ≠ q
  zc : z ≠ c
  hL : b.length ≤ 1000000
  hb : Byt b
  iu : In u (· < W.heap.size)
section
variable {W w w' : World} {u : Value} {b : List Int} {z q c : Nat} {cs : Array Value} {L L' : List Int} {lost lost' : Bool}
theorem QX.took (h : QX W u b z q c cs L lost w) (hr : ∃ a, RrB w' q u b a lost' ∧ b.drop a = L') (hg : w.grownBy w' (some q)) : QX W u b z q c cs L' lost' w' :=
  ⟨hr, (hg.block z (Array.getElem?_eq_some_iff.1 h.kz).1 (fun e => h.zq (Option.some.inj e))).trans h.kz, (hg.block c (Array.getElem?_eq_some_iff.1 h.kc).1 (fun e => h.cq (Option.some.inj e))).trans h.kc,
    rw_step h.ls hg h.hq, h.hz, h.hq, h.hc, h.zq, h.cq, h.zc, h.hL, h.hb, h.iu⟩
theorem QX.small {m x : Nat} (h : QX W u b z q c cs L lost w) (hm : m ≤ 1000000000000) (hR : rU m L lost = (x, L', lost')) :
    Calls Try.prog 56 #[wp q, .int .i64 m] w fun e w' => e = .returned (.int .i64 x) ∧ QX W u b z q c cs L' lost' w' := by
  obtain ⟨a, hv, hd⟩ := h.rd
  have := rsmall05_any q m u b a lost w hv hm h.hL
  rw [hd, hR] at this
  refine this.mono ?_
  rintro e w' ⟨rfl, hr, hg⟩
  exact ⟨rfl, h.took hr hg⟩
theorem QX.small' {m x : Nat} (h : QX W u b z q c cs L lost w) (hm : m ≤ 1000000000000) (hR : rU m L lost = (x, L', lost')) :
    Calls Try.prog 56 #[wp q, .int .i64 m] w fun e w' => e = .returned (.int .i64 x) ∧ QX W u b z q c cs L' lost' w' ∧ w.grownBy w' (some q) := by
  obtain ⟨a, hv, hd⟩ := h.rd
  have := rsmall05_any q m u b a lost w hv hm h.hL
  rw [hd, hR] at this
  refine this.mono ?_
  rintro e w' ⟨rfl, hr, hg⟩
  exact ⟨rfl, h.took hr hg, hg⟩
theorem QX.text {D : List Int} (h : QX W u b z q c cs L lost w) (hR : rT 70000 L lost = (D, L', lost')) :
    Calls Try.prog 57 #[wp q, .int .i64 70000] w fun e w' => ∃ u', e = .returned u' ∧ QX W u b z q c cs L' lost' w' ∧ w'.ownsRow w.heap.size 5 1 u' D.length (encB D) := by
  obtain ⟨a, hv, hd⟩ := h.rd
  have := rtext05_any q 70000 u b a lost w hv (by omega) h.hL
  rw [hd, hR] at this
  refine this.mono ?_
  rintro e w' ⟨u', rfl, hr, hrow, hg⟩
  exact ⟨u', rfl, h.took hr hg, hrow⟩
theorem QX.end_ (h : QX W u b z q c cs L lost w) :
    Calls Try.prog 58 #[wp q] w fun e w' => e = .returned (.int .i64 (rE L lost)) ∧ Later w w' := by
  obtain ⟨a, hv, hd⟩ := h.rd
  have := rend05_any q u b a lost w hv h.hL
  rw [hd] at this
  exact this
theorem QX.lt (h : QX W u b z q c cs L lost w) : c < w.heap.size := (Array.getElem?_eq_some_iff.1 h.kc).1
theorem QX.byt (h : QX W u b z q c cs L lost w) : Byt L := by obtain ⟨a, _, hd⟩ := h.rd; rw [← hd]; exact h.hb.drop a
theorem QX.set (h : QX W u b z q c cs L lost w) (k : Nat) (x : Value) : QX W u b z q c (cs.setIfInBounds k x) L lost (w.setCell ⟨c, k, none⟩ x) := by
  obtain ⟨a, hv, hd⟩ := h.rd
  have hc := h.hc
  exact ⟨⟨a, hv.other h.cq (h.iu.mono (fun g hg => by have hg : g < W.heap.size := hg; omega)) k x, hd⟩, (Below.heap_setCell w ⟨c, k, none⟩ x z (by first | exact h.zc | exact h.zc.symm)).trans h.kz, heap_set4 h.kc k x, h.ls.setCell h.hc _, h.hz, h.hq, h.hc, h.zq, h.cq, h.zc, h.hL, h.hb, h.iu⟩
theorem QX.later (h : QX W u b z q c cs L lost w) (hl : Later w w') : QX W u b z q c cs L lost w' := by
  obtain ⟨a, hv, hd⟩ := h.rd
  exact ⟨⟨a, hv.later hl, hd⟩, (hl.block _ (Array.getElem?_eq_some_iff.1 h.kz).1).trans h.kz, (hl.block _ (Array.getElem?_eq_some_iff.1 h.kc).1).trans h.kc, h.ls.trans hl, h.hz, h.hq, h.hc, h.zq, h.cq, h.zc, h.hL, h.hb, h.iu⟩
theorem QX.own {n : Nat} {vo : Value} {xs : List Value} (h : QX W u b z q c cs L lost w) (hr : w.ownsRow (c + 1) 3 1 vo n xs) (hg : w.grownBy w' vo.ownBlock) : QX W u b z q c cs L lost w' := by
  obtain ⟨a, hv, hd⟩ := h.rd
  have hc := h.hc
  have keep : ∀ (k : Nat) (c' : Array Value) (t : TypeId) (fr : Nat × Nat), w.heap[k]? = some (Obj.cells c' t fr) → t ≠ 3 → w'.heap[k]? = some (Obj.cells c' t fr) := fun k c' t fr hk ht =>
    (hg.block k (Array.getElem?_eq_some_iff.1 hk).1 (row_ne hr hk ht).symm).trans hk
  have low : ∀ g, g < W.heap.size → g < w.heap.size → w'.heap[g]? = w.heap[g]? := fun g hg' hl => hg.block g hl (own_ge hr (by omega))
  exact ⟨⟨a, ⟨keep _ _ _ _ hv.head (by decide), hv.val.stay h.iu low, hv.ne, hv.le⟩, hd⟩, keep _ _ _ _ h.kz (by decide), keep _ _ _ _ h.kc (by decide), later_own h.ls hr (by omega) hg, h.hz, h.hq, h.hc, h.zq, h.cq, h.zc, h.hL, h.hb, h.iu⟩
theorem QX.cell (h : QX W u b z q c cs L lost w) (k : Nat) : w.cell? ⟨c, k, none⟩ = cs[k]? := cell_of_row w c k _ _ _ h.kc
theorem QX.fz (h : QX W u b z q c cs L lost w) (k : Nat) : w.frozen? ⟨c, k, none⟩ = false := frozen_row h.kc k
end
set_option maxRecDepth 100000 in
set_option maxHeartbeats 8000000 in
theorem read28_any (u : Value) (b : List Int) (W : World) (hu : BytV W u b) (hb : b.length ≤ 1000000) :
    Calls Try.prog 38 #[u] W fun e w' => ReadPost (rdM b) W e w' ∧ Later W w' := by
  obtain ⟨ao, cap, hue⟩ := bytV_form hu
  obtain ⟨nn, hnn⟩ : ∃ n, Hid (b.length = n) := ⟨_, rfl⟩
  rw [hnn.out] at hue
  obtain ⟨M, hM⟩ : ∃ M, Hid (rdM b = M) := ⟨_, rfl⟩
  rw [hM.out]
  obtain ⟨⟨k, L1, b1⟩, hR1⟩ : ∃ R, rU 6 b false = R := ⟨_, rfl⟩
  obtain ⟨⟨n, L2, b2⟩, hR2⟩ : ∃ R, rU 4294967295 L1 b1 = R := ⟨_, rfl⟩
  obtain ⟨⟨y, L3, b3⟩, hR3⟩ : ∃ R, rU 63 L2 b2 = R := ⟨_, rfl⟩
  have hk6 : k ≤ 6 := by have := rU_le 6 b false; rw [hR1] at this; exact this
  have hn6 : n ≤ 4294967295 := by have := rU_le 4294967295 L1 b1; rw [hR2] at this; exact this
  have hMe : Hid (rdBM k n y L3 b3 = M) := Lib.hid (by rw [← hM.out]; unfold rdM; rw [hR1]; dsimp only; rw [hR2]; dsimp only; rw [hR3])
  clear hM
  obtain ⟨i0, hi0, hz0, hz1, hz2⟩ := info_parts info_int
  have q2 := Try.underlying60
  have hML : 4097 < maxLen := by decide
  subst hue
  have hu := Lib.hid hu
  go_enter Try.func38, Try.ntmps38
  go_upto_region 3 with fail
  obtain ⟨X0, hX0⟩ : ∃ X, X = ((W.alloc (.cells (Msg.zero.C (.slice none 0 0) (.slice none 0 0)) 88)).alloc (.cells #[.slice ao nn cap, .int .i64 0, .bool false] 115)).alloc (.cells (Msg.zero.C (.slice none 0 0) (.slice none 0 0)) 88) := ⟨_, rfl⟩
  have hl0 : Later W X0 := by rw [hX0]; exact (((Later.refl _).alloc _).alloc _).alloc _
  have z0 : X0.heap[W.heap.size]? = some (.cells (Msg.zero.C (.slice none 0 0) (.slice none 0 0)) 88 (0, 0)) := by rw [hX0]; exact push_old (push_old (heap_alloc_new _ _))
  have q0 : X0.heap[W.heap.size + 1]? = some (.cells #[.slice ao nn cap, .int .i64 0, .bool false] 115 (0, 0)) := by rw [hX0]; exact push_old (push_new _ _ (by simp))
  have c0 : X0.heap[W.heap.size + 1 + 1]? = some (.cells (Msg.zero.C (.slice none 0 0) (.slice none 0 0)) 88 (0, 0)) := by rw [hX0]; exact push_new _ _ (by simp)
  have hiu := hu.out.lt
  have hX : QX W (.slice ao nn cap) b W.heap.size (W.heap.size + 1) (W.heap.size + 1 + 1) (Msg.zero.C (.slice none 0 0) (.slice none 0 0)) b false X0 :=
    ⟨⟨0, ⟨q0, hu.out.later hl0, hiu.mono (fun g hg => by have hg : g < W.heap.size := hg; omega), Nat.zero_le _⟩, rfl⟩, z0, c0, hl0, Nat.le_refl _, by omega, by omega, by omega, by omega, by omega, hb, hu.out.1, hiu⟩
  show Code.wp _ _ _ _ (((W.alloc _).alloc _).alloc _)
  change Code.wp _ _ _ _ (((W.alloc (.cells (Msg.zero.C (.slice none 0 0) (.slice none 0 0)) 88)).alloc (.cells #[.slice ao nn cap, .int .i64 0, .bool false] 115)).alloc (.cells (Msg.zero.C (.slice none 0 0) (.slice none 0 0)) 88))
  rw [← hX0]
  clear hX0 z0 q0 c0 hl0 hiu hu
  obtain ⟨z, hz⟩ : ∃ z, Hid (W.heap.size = z) := ⟨_, rfl⟩
  obtain ⟨q, hq⟩ : ∃ q, Hid (z + 1 = q) := ⟨_, rfl⟩
  obtain ⟨c, hc⟩ : ∃ c, Hid (q + 1 = c) := ⟨_, rfl⟩
  have hWz : W.heap.size ≤ z := Nat.le_of_eq hz.out
  rw [hz.out, hq.out, hc.out] at hX
  simp only [hz.out, hq.out, hc.out]
  have hzc : z < c + 1 := by have := hq.out; have := hc.out; omega
  have hWc : W.heap.size ≤ c + 1 := by omega
  have hqc0 : q < c := by have := hc.out; omega
  clear hq hc
  have hk6' : (k : Int) ≤ 6 := by omega
  have hn6' : (n : Int) ≤ 4294967295 := by omega
  have c0 : X0.cell? ⟨c, 0, none⟩ = some _ := hX.cell 0
  have c1 : X0.cell? ⟨c, 1, none⟩ = some _ := hX.cell 1
  have c2 : X0.cell? ⟨c, 2, none⟩ = some _ := hX.cell 2
  have c3 : X0.cell? ⟨c, 3, none⟩ = some _ := hX.cell 3
  have c4 : X0.cell? ⟨c, 4, none⟩ = some _ := hX.cell 4
  have c5 : X0.cell? ⟨c, 5, none⟩ = some _ := hX.cell 5
  have c6 : X0.cell? ⟨c, 6, none⟩ = some _ := hX.cell 6
  have c7 : X0.cell? ⟨c, 7, none⟩ = some _ := hX.cell 7
  have c8 : X0.cell? ⟨c, 8, none⟩ = some _ := hX.cell 8
  have c9 : X0.cell? ⟨c, 9, none⟩ = some _ := hX.cell 9
  have c10 : X0.cell? ⟨c, 10, none⟩ = some _ := hX.cell 10
  go_wp2_with fail
  refine (hX.small (by omega) hR1).mono ?_
  rintro e w2 ⟨rfl, hX⟩
  clear c0 c1 c2 c3 c4 c5 c6 c7 c8 c9 c10
  have c0 : w2.cell? ⟨c, 0, none⟩ = some _ := hX.cell 0
  have c1 : w2.cell? ⟨c, 1, none⟩ = some _ := hX.cell 1
  have c2 : w2.cell? ⟨c, 2, none⟩ = some _ := hX.cell 2
  have c3 : w2.cell? ⟨c, 3, none⟩ = some _ := hX.cell 3
  have c4 : w2.cell? ⟨c, 4, none⟩ = some _ := hX.cell 4
  have c5 : w2.cell? ⟨c, 5, none⟩ = some _ := hX.cell 5
  have c6 : w2.cell? ⟨c, 6, none⟩ = some _ := hX.cell 6
  have c7 : w2.cell? ⟨c, 7, none⟩ = some _ := hX.cell 7
  have c8 : w2.cell? ⟨c, 8, none⟩ = some _ := hX.cell 8
  have c9 : w2.cell? ⟨c, 9, none⟩ = some _ := hX.cell 9
  have c10 : w2.cell? ⟨c, 10, none⟩ = some _ := hX.cell 10
  have ff := hX.fz 0
  replace hX := hX.set 0 (.int .i64 k)
  simp only [List.setIfInBounds_toArray, List.set_cons_zero, List.set_cons_succ] at hX
  go_wp2_with fail
  refine (hX.small (by omega) hR2).mono ?_
  rintro e w3 ⟨rfl, hX⟩
  clear c0 c1 c2 c3 c4 c5 c6 c7 c8 c9 c10
  have c0 : w3.cell? ⟨c, 0, none⟩ = some _ := hX.cell 0
  have c1 : w3.cell? ⟨c, 1, none⟩ = some _ := hX.cell 1
  have c2 : w3.cell? ⟨c, 2, none⟩ = some _ := hX.cell 2
  have c3 : w3.cell? ⟨c, 3, none⟩ = some _ := hX.cell 3
  have c4 : w3.cell? ⟨c, 4, none⟩ = some _ := hX.cell 4
  have c5 : w3.cell? ⟨c, 5, none⟩ = some _ := hX.cell 5
  have c6 : w3.cell? ⟨c, 6, none⟩ = some _ := hX.cell 6
  have c7 : w3.cell? ⟨c, 7, none⟩ = some _ := hX.cell 7
  have c8 : w3.cell? ⟨c, 8, none⟩ = some _ := hX.cell 8
  have c9 : w3.cell? ⟨c, 9, none⟩ = some _ := hX.cell 9
  have c10 : w3.cell? ⟨c, 10, none⟩ = some _ := hX.cell 10
  have ff := hX.fz 1
  replace hX := hX.set 1 (.int .u32 n)
  simp only [List.setIfInBounds_toArray, List.set_cons_zero, List.set_cons_succ] at hX
  go_wp2_with fail
  refine (hX.small (by omega) hR3).mono ?_
  rintro e w4 ⟨rfl, hX⟩
  clear c0 c1 c2 c3 c4 c5 c6 c7 c8 c9 c10
  have c0 : w4.cell? ⟨c, 0, none⟩ = some _ := hX.cell 0
  have c1 : w4.cell? ⟨c, 1, none⟩ = some _ := hX.cell 1
  have c2 : w4.cell? ⟨c, 2, none⟩ = some _ := hX.cell 2
  have c3 : w4.cell? ⟨c, 3, none⟩ = some _ := hX.cell 3
  have c4 : w4.cell? ⟨c, 4, none⟩ = some _ := hX.cell 4
  have c5 : w4.cell? ⟨c, 5, none⟩ = some _ := hX.cell 5
  have c6 : w4.cell? ⟨c, 6, none⟩ = some _ := hX.cell 6
  have c7 : w4.cell? ⟨c, 7, none⟩ = some _ := hX.cell 7
  have c8 : w4.cell? ⟨c, 8, none⟩ = some _ := hX.cell 8
  have c9 : w4.cell? ⟨c, 9, none⟩ = some _ := hX.cell 9
  have c10 : w4.cell? ⟨c, 10, none⟩ = some _ := hX.cell 10
  have ff := hX.fz 2
  replace hX := hX.set 2 (.int .i64 y)
  simp only [List.setIfInBounds_toArray, List.set_cons_zero, List.set_cons_succ] at hX
  go_upto_region 7 with fail
  obtain ⟨X5, hX5⟩ : ∃ X, X = w4.setCell ⟨c, 2, none⟩ (.int .i64 y) := ⟨_, rfl⟩
  rw [← hX5] at hX ⊢
  clear hX5 c0 c1 c2 c3 c4 c5 c6 c7 c8 c9 c10 ff
  have c0 : X5.cell? ⟨c, 0, none⟩ = some _ := hX.cell 0
  have c1 : X5.cell? ⟨c, 1, none⟩ = some _ := hX.cell 1
  have c2 : X5.cell? ⟨c, 2, none⟩ = some _ := hX.cell 2
  have c3 : X5.cell? ⟨c, 3, none⟩ = some _ := hX.cell 3
  have c4 : X5.cell? ⟨c, 4, none⟩ = some _ := hX.cell 4
  have c5 : X5.cell? ⟨c, 5, none⟩ = some _ := hX.cell 5
  have c6 : X5.cell? ⟨c, 6, none⟩ = some _ := hX.cell 6
  have c7 : X5.cell? ⟨c, 7, none⟩ = some _ := hX.cell 7
  have c8 : X5.cell? ⟨c, 8, none⟩ = some _ := hX.cell 8
  have c9 : X5.cell? ⟨c, 9, none⟩ = some _ := hX.cell 9
  have c10 : X5.cell? ⟨c, 10, none⟩ = some _ := hX.cell 10
  by_cases k1 : k = 1
  · subst k1
    obtain ⟨⟨mn, L4, b4⟩, hR4⟩ : ∃ R, rU 64 L3 b3 = R := ⟨_, rfl⟩
    have hmn : mn ≤ 64 := by have := rU_le 64 L3 b3; rw [hR4] at this; exact this
    obtain ⟨⟨S1, S2, S3⟩, hS⟩ : ∃ S, rL mn L4 b4 = S := ⟨_, rfl⟩
    obtain ⟨mm, hmm⟩ : ∃ mm : Msg, Hid (mm = ⟨1, n, y, S1, 0, 0, 0, 0, 0, 0, []⟩) := ⟨_, Lib.hid rfl⟩
    have hfin : Hid (fin mm S2 S3 = M) := Lib.hid (by
      rw [hmm.out, ← hMe.out]; unfold rdBM; rw [if_pos rfl]; unfold rd1M; rw [hR4]; dsimp only; rw [hS])
    have hSl : S1.length = mn := by have h1 := rL_length mn L4 b4; rw [hS] at h1; exact h1
    clear hMe
    go_wp2_with fail
    refine (hX.small (by omega) hR4).mono ?_
    rintro e w6 ⟨rfl, hX⟩
    clear c0 c1 c2 c3 c4 c5 c6 c7 c8 c9 c10
    go_upto_region 10 with fail
    go_loopg [8, 9] (mn + 1) (fun g y8 y9 wr => ∃ (i : Nat) (pre Li : List Int) (lo : Bool) (um : Value), g = mn + 1 - i ∧ i ≤ mn ∧ y8 = .int .i64 i ∧ pre.length = i ∧ QX W (.slice ao nn cap) b z q c #[.int .i64 1, .int .u32 n, .int .i64 y, um, .int .i64 0, .int .i64 0, .int .i64 0, .int .i64 0, .int .i64 0, .int .i64 0, .slice none 0 0] Li lo wr ∧
      Hid ((S1, S2, S3) = (pre ++ (rL (mn - i) Li lo).1, (rL (mn - i) Li lo).2)) ∧ wr.ownsRow (c + 1) 3 1 um pre.length (encI pre))
    case atStart => exact ⟨0, [], L4, b4, .slice none 0 0, by omega, Nat.zero_le _, rfl, rfl, hX, Lib.hid (by rw [← hS]; rfl), World.ownsRow_nil _ _ _ _⟩
    case round =>
      clear hX hS
      obtain ⟨i, pre, Li, lo, um, rfl, hin, rfl, hpl, hX, hSe, hrow⟩ := hrel
      obtain ⟨wo, rfl⟩ : ∃ wo : World, wo = wr := ⟨_, rfl⟩
      obtain ⟨um0, umc, rfl⟩ := own_form hrow
      rw [hpl] at hrow hX
      by_cases hi : i < mn
      · have hii : (i : Int) < (mn : Int) := by omega
        have hun : rL (mn - i) Li lo = (((rU 63 Li lo).1 : Int) :: (rL (mn - (i + 1)) (rU 63 Li lo).2.1 (rU 63 Li lo).2.2).1, (rL (mn - (i + 1)) (rU 63 Li lo).2.1 (rU 63 Li lo).2.2).2) := by
          rw [show mn - i = (mn - (i + 1)) + 1 by omega]; rfl
        replace hSe := hSe.out
        rw [hun] at hSe
        obtain ⟨⟨x, Lx, lx⟩, hRx⟩ : ∃ R, rU 63 Li lo = R := ⟨_, rfl⟩
        rw [hRx] at hSe
        dsimp only at hSe
        replace hSe := Lib.hid hSe
        have hql := hX.lt
        have hq3 := (Array.getElem?_eq_some_iff.1 hX.rd.choose_spec.1.head).1
        have HS := Lib.hid (hX.small' (m := 63) (by omega) hRx)
        have hrow' := Lib.hid hrow
        have hqc : q < c + 1 := by have := hqc0; omega
        clear hun hRx hX hrow
        go_wp2_with fail
        refine HS.out.mono ?_
        rintro e w7 ⟨rfl, hX, hg7⟩
        obtain ⟨xx, hxx⟩ : ∃ xx : Int, Hid ((x : Int) = xx) := ⟨_, rfl⟩
        rw [hxx.out] at hSe
        have hrow7 := hrow'.out.kept hg7 (.inr (own_ge hrow'.out hqc).symm)
        have hl8 : Later w7 (w7.alloc (.cells #[.int .i64 xx] 3)) := (Later.refl _).alloc _
        have m3 : (w7.alloc (.cells #[.int .i64 xx] 3)).cell? ⟨c, 3, none⟩ = some (.slice um0 i umc) := hl8.cell (hX.cell 3)
        have m3' : w7.cell? ⟨c, 3, none⟩ = some (.slice um0 i umc) := hX.cell 3
        have q1 := hrow7.alloc (.cells #[.int .i64 xx] 3)
        have q3 : ∀ u ∈ [Value.int .i64 xx], u.oneCell' = true := fun u hu => by rw [List.mem_singleton] at hu; rw [hu]; rfl
        have q4 : i + 1 ≤ maxLen := by omega
        have q5 : ∀ j u, [Value.int .i64 xx][j]? = some u → (w7.alloc (.cells #[.int .i64 xx] 3)).cell? ((⟨w7.heap.size, 0, none⟩ : Addr).add j) = some u := World.news_of_block (heap_alloc_new _ _)
        have q6 : (i + 1) * 8 ≤ 140737488355328 := by omega
        have q7 : c + 1 ≤ (w7.alloc (.cells #[.int .i64 xx] 3)).heap.size := by have := hX.lt; simp; omega
        have hX8 := Lib.hid (hX.later hl8)
        clear hg7 hrow7 HS hX hl8
        rw [hxx.out]
        go_wp2_with (at_builtin; refine wpList_append_own _ rfl _ _ 60 rfl (c + 1) 3 i0 (.int .i64 0) 1 8 q2 hi0 hz0 hz1 hz2 rfl (by decide) _ _ _ rfl q1 ⟨w7.heap.size, 0, none⟩ 1 1 [.int .i64 xx] rfl rfl q5 q3 q4 q6 q7 ?_; intro v' w8 hown' hgrow _; have hX9 := Lib.hid (hX8.out.own q1 hgrow); have j3 : w8.cell? ⟨c, 3, none⟩ = some (.slice um0 i umc) := hX9.out.cell 3; have jf := hX9.out.fz 3; obtain ⟨v9m, v9a, v9q, rfl⟩ := row_form hown')
        go_roundg (mn - i)
        case measure => omega
        case rel =>
          refine ⟨i + 1, pre ++ [xx], Lx, lx, .slice v9a v9m v9q, by omega, by omega, by go_num, by rw [List.length_append, hpl]; rfl, hX9.out.set 3 _, Lib.hid (by rw [hSe.out, List.append_assoc]; rfl), ?_⟩
          refine ownsRow_setCell_below (a := ⟨c, 3, none⟩) ?_ (Nat.lt_succ_self c) _
          rw [List.length_append, hpl]; unfold encI at hown' ⊢; rw [List.map_append]; exact hown'
      · obtain rfl : mn = i := by omega
        have hii : ¬ (mn : Int) < (mn : Int) := by omega
        have e1 := hSe.out
        rw [Nat.sub_self] at e1
        injection e1 with e1 e2
        injection e2 with e2 e3
        have e4 : S1 = pre := by rw [e1]; show pre ++ [] = pre; exact List.append_nil _
        have hrow2 : wo.ownsRow (c + 1) 3 1 (.slice um0 mn umc) S1.length (encI S1) := by rw [e4, hpl]; exact hrow
        rw [show Li = S2 from e2.symm, show lo = S3 from e3.symm] at hX
        replace hrow2 := Lib.hid hrow2
        clear e1 e2 e3 e4 hrow hSe
        have c0 : wo.cell? ⟨c, 0, none⟩ = some _ := hX.cell 0
        have c1 : wo.cell? ⟨c, 1, none⟩ = some _ := hX.cell 1
        have c2 : wo.cell? ⟨c, 2, none⟩ = some _ := hX.cell 2
        have c3 : wo.cell? ⟨c, 3, none⟩ = some _ := hX.cell 3
        have c4 : wo.cell? ⟨c, 4, none⟩ = some _ := hX.cell 4
        have c5 : wo.cell? ⟨c, 5, none⟩ = some _ := hX.cell 5
        have c6 : wo.cell? ⟨c, 6, none⟩ = some _ := hX.cell 6
        have c7 : wo.cell? ⟨c, 7, none⟩ = some _ := hX.cell 7
        have c8 : wo.cell? ⟨c, 8, none⟩ = some _ := hX.cell 8
        have c9 : wo.cell? ⟨c, 9, none⟩ = some _ := hX.cell 9
        have c10 : wo.cell? ⟨c, 10, none⟩ = some _ := hX.cell 10
        go_upto_region 25 with fail
        clear c0 c1 c2 c3 c4 c5 c6 c7 c8 c9 c10
        have HE := Lib.hid (hX.end_)
        have hrm : Hid (World.ownsRow wo (c + 1) 3 1 (.slice um0 mn umc) (S1).length (encI S1)) := Lib.hid hrow2.out
        have hrd : Hid (World.ownsRow wo (c + 1) 5 1 (.slice none 0 0) (([] : List Int)).length (encB ([] : List Int))) := Lib.hid (World.ownsRow_nil _ (c + 1) _ _)
        have HF := fun w' (hl : Later wo w') => may_msg mm (.slice um0 mn umc) (.slice none 0 0) w' (by rw [hmm.out]; exact (intsV_of_row hrm.out).later hl) (by rw [hmm.out]; exact ((bytV_of_row (fun x hx => by simp at hx) hrd.out).1).later hl) (by rw [hmm.out]; exact (show S1.length ≤ 1000000 by omega)) (by rw [hmm.out]; exact (show ([] : List Int).length ≤ 1000000 by simp))
        have hVV : Msg.V mm (.slice um0 mn umc) (.slice none 0 0) = Msg.V ⟨1, n, y, S1, 0, 0, 0, 0, 0, 0, []⟩ (.slice um0 mn umc) (.slice none 0 0) := by rw [hmm.out]
        rw [hVV] at HF
        replace HF := Lib.hid HF
        obtain ⟨dm, hdm⟩ : ∃ dm, decide (Msg.May mm) = dm := ⟨_, rfl⟩
        rw [hdm] at HF
        replace hdm := Lib.hid hdm
        clear hVV
        have kzX := hX.kz
        have kcX := hX.kc
        have hls := hX.ls
        clear hX
        go_wp2_with fail
        refine HE.out.mono ?_
        rintro e w20 ⟨rfl, hl20⟩
        replace kzX := (hl20.block z (Array.getElem?_eq_some_iff.1 kzX).1).trans kzX
        replace kcX := (hl20.block c (Array.getElem?_eq_some_iff.1 kcX).1).trans kcX
        have HF2 := Lib.hid (HF.out w20 hl20)
        have z0 : w20.cell? ⟨z, 0, none⟩ = some _ := cell_of_row w20 _ 0 _ _ _ kzX
        have y0 := frozen_row kzX 0
        have z1 : w20.cell? ⟨z, 1, none⟩ = some _ := cell_of_row w20 _ 1 _ _ _ kzX
        have y1 := frozen_row kzX 1
        have z2 : w20.cell? ⟨z, 2, none⟩ = some _ := cell_of_row w20 _ 2 _ _ _ kzX
        have y2 := frozen_row kzX 2
        have z3 : w20.cell? ⟨z, 3, none⟩ = some _ := cell_of_row w20 _ 3 _ _ _ kzX
        have y3 := frozen_row kzX 3
        have z4 : w20.cell? ⟨z, 4, none⟩ = some _ := cell_of_row w20 _ 4 _ _ _ kzX
        have y4 := frozen_row kzX 4
        have z5 : w20.cell? ⟨z, 5, none⟩ = some _ := cell_of_row w20 _ 5 _ _ _ kzX
        have y5 := frozen_row kzX 5
        have z6 : w20.cell? ⟨z, 6, none⟩ = some _ := cell_of_row w20 _ 6 _ _ _ kzX
        have y6 := frozen_row kzX 6
        have z7 : w20.cell? ⟨z, 7, none⟩ = some _ := cell_of_row w20 _ 7 _ _ _ kzX
        have y7 := frozen_row kzX 7
        have z8 : w20.cell? ⟨z, 8, none⟩ = some _ := cell_of_row w20 _ 8 _ _ _ kzX
        have y8 := frozen_row kzX 8
        have z9 : w20.cell? ⟨z, 9, none⟩ = some _ := cell_of_row w20 _ 9 _ _ _ kzX
        have y9 := frozen_row kzX 9
        have z10 : w20.cell? ⟨z, 10, none⟩ = some _ := cell_of_row w20 _ 10 _ _ _ kzX
        have y10 := frozen_row kzX 10
        have c0 : w20.cell? ⟨c, 0, none⟩ = some _ := cell_of_row w20 _ 0 _ _ _ kcX
        have c1 : w20.cell? ⟨c, 1, none⟩ = some _ := cell_of_row w20 _ 1 _ _ _ kcX
        have c2 : w20.cell? ⟨c, 2, none⟩ = some _ := cell_of_row w20 _ 2 _ _ _ kcX
        have c3 : w20.cell? ⟨c, 3, none⟩ = some _ := cell_of_row w20 _ 3 _ _ _ kcX
        have c4 : w20.cell? ⟨c, 4, none⟩ = some _ := cell_of_row w20 _ 4 _ _ _ kcX
        have c5 : w20.cell? ⟨c, 5, none⟩ = some _ := cell_of_row w20 _ 5 _ _ _ kcX
        have c6 : w20.cell? ⟨c, 6, none⟩ = some _ := cell_of_row w20 _ 6 _ _ _ kcX
        have c7 : w20.cell? ⟨c, 7, none⟩ = some _ := cell_of_row w20 _ 7 _ _ _ kcX
        have c8 : w20.cell? ⟨c, 8, none⟩ = some _ := cell_of_row w20 _ 8 _ _ _ kcX
        have c9 : w20.cell? ⟨c, 9, none⟩ = some _ := cell_of_row w20 _ 9 _ _ _ kcX
        have c10 : w20.cell? ⟨c, 10, none⟩ = some _ := cell_of_row w20 _ 10 _ _ _ kcX
        clear HE HF
        go_upto_region 26 with fail
        go_wp2_with fail
        refine HF2.out.mono ?_
        rintro e w8 ⟨rfl, hl8⟩
        replace kzX := (hl8.block z (Array.getElem?_eq_some_iff.1 kzX).1).trans kzX
        replace kcX := (hl8.block c (Array.getElem?_eq_some_iff.1 kcX).1).trans kcX
        clear z0 z1 z2 z3 z4 z5 z6 z7 z8 z9 z10 y0 y1 y2 y3 y4 y5 y6 y7 y8 y9 y10 c0 c1 c2 c3 c4 c5 c6 c7 c8 c9 c10 HF2
        have z0 : w8.cell? ⟨z, 0, none⟩ = some _ := cell_of_row w8 _ 0 _ _ _ kzX
        have y0 := frozen_row kzX 0
        have z1 : w8.cell? ⟨z, 1, none⟩ = some _ := cell_of_row w8 _ 1 _ _ _ kzX
        have y1 := frozen_row kzX 1
        have z2 : w8.cell? ⟨z, 2, none⟩ = some _ := cell_of_row w8 _ 2 _ _ _ kzX
        have y2 := frozen_row kzX 2
        have z3 : w8.cell? ⟨z, 3, none⟩ = some _ := cell_of_row w8 _ 3 _ _ _ kzX
        have y3 := frozen_row kzX 3
        have z4 : w8.cell? ⟨z, 4, none⟩ = some _ := cell_of_row w8 _ 4 _ _ _ kzX
        have y4 := frozen_row kzX 4
        have z5 : w8.cell? ⟨z, 5, none⟩ = some _ := cell_of_row w8 _ 5 _ _ _ kzX
        have y5 := frozen_row kzX 5
        have z6 : w8.cell? ⟨z, 6, none⟩ = some _ := cell_of_row w8 _ 6 _ _ _ kzX
        have y6 := frozen_row kzX 6
        have z7 : w8.cell? ⟨z, 7, none⟩ = some _ := cell_of_row w8 _ 7 _ _ _ kzX
        have y7 := frozen_row kzX 7
        have z8 : w8.cell? ⟨z, 8, none⟩ = some _ := cell_of_row w8 _ 8 _ _ _ kzX
        have y8 := frozen_row kzX 8
        have z9 : w8.cell? ⟨z, 9, none⟩ = some _ := cell_of_row w8 _ 9 _ _ _ kzX
        have y9 := frozen_row kzX 9
        have z10 : w8.cell? ⟨z, 10, none⟩ = some _ := cell_of_row w8 _ 10 _ _ _ kzX
        have y10 := frozen_row kzX 10
        have c0 : w8.cell? ⟨c, 0, none⟩ = some _ := cell_of_row w8 _ 0 _ _ _ kcX
        have c1 : w8.cell? ⟨c, 1, none⟩ = some _ := cell_of_row w8 _ 1 _ _ _ kcX
        have c2 : w8.cell? ⟨c, 2, none⟩ = some _ := cell_of_row w8 _ 2 _ _ _ kcX
        have c3 : w8.cell? ⟨c, 3, none⟩ = some _ := cell_of_row w8 _ 3 _ _ _ kcX
        have c4 : w8.cell? ⟨c, 4, none⟩ = some _ := cell_of_row w8 _ 4 _ _ _ kcX
        have c5 : w8.cell? ⟨c, 5, none⟩ = some _ := cell_of_row w8 _ 5 _ _ _ kcX
        have c6 : w8.cell? ⟨c, 6, none⟩ = some _ := cell_of_row w8 _ 6 _ _ _ kcX
        have c7 : w8.cell? ⟨c, 7, none⟩ = some _ := cell_of_row w8 _ 7 _ _ _ kcX
        have c8 : w8.cell? ⟨c, 8, none⟩ = some _ := cell_of_row w8 _ 8 _ _ _ kcX
        have c9 : w8.cell? ⟨c, 9, none⟩ = some _ := cell_of_row w8 _ 9 _ _ _ kcX
        have c10 : w8.cell? ⟨c, 10, none⟩ = some _ := cell_of_row w8 _ 10 _ _ _ kcX
        have hlw := (hls.trans hl20).trans hl8
        have hrm8 := Lib.hid (row_later hrm.out (hl20.trans hl8))
        have hrd8 := Lib.hid (row_later hrd.out (hl20.trans hl8))
        clear kzX kcX hls hl8 hl20 hrm hrd
        by_cases hE : rE S2 S3 = 0
        · by_cases hMay : Msg.May mm
          · have hf2 := Lib.hid ((fin_yes (m := mm) hE hMay).symm.trans hfin.out)
            obtain rfl : dm = true := by rw [← hdm.out]; exact decide_eq_true hMay
            clear hfin hMay
            rw [hE]
            clear hE hdm
            go_wp2_with fail
            refine bodyPost_ret (v := .tuple #[Msg.V ⟨1, n, y, S1, 0, 0, 0, 0, 0, 0, []⟩ (.slice um0 mn umc) (.slice none 0 0), .int .i64 0]) ?_ rfl ?_
            · simp only [results]
              go_simp
            · rw [← hf2.out, hmm.out]
              refine ⟨⟨(.slice um0 mn umc), (.slice none 0 0), rfl, row_mono ?_ hWc, row_mono ?_ hWc⟩, ?_⟩
              · iterate 11 refine ownsRow_setCell_below (a := ⟨z, _, none⟩) ?_ hzc _
                exact hrm8.out
              · iterate 11 refine ownsRow_setCell_below (a := ⟨z, _, none⟩) ?_ hzc _
                exact hrd8.out
              · iterate 11 refine Later.setCell ?_ hWz _
                exact hlw
          · have hf2 := Lib.hid ((fin_m (m := mm) hMay).symm.trans hfin.out)
            obtain rfl : dm = false := by rw [← hdm.out]; exact decide_eq_false hMay
            clear hfin hMay hrm8 hrd8
            rw [hE]
            clear hE hdm
            go_wp2_with fail
            refine bodyPost_ret (v := .tuple #[Msg.V Msg.zero (.slice none 0 0) (.slice none 0 0), .int .i64 281]) ?_ rfl ?_
            · simp only [results]
              go_simp
            · rw [← hf2.out]
              refine ⟨rfl, ?_⟩
              iterate 11 refine Later.setCell ?_ hWz _
              exact hlw
        · have hf2 := Lib.hid ((fin_e (m := mm) hE).symm.trans hfin.out)
          have h50 := rE_50 hE
          rw [h50]
          clear hfin hE h50 hdm hrm8 hrd8
          go_wp2_with fail
          refine bodyPost_ret (v := .tuple #[Msg.V Msg.zero (.slice none 0 0) (.slice none 0 0), .int .i64 281]) ?_ rfl ?_
          · simp only [results]
            go_simp
          · rw [← hf2.out]
            refine ⟨rfl, ?_⟩
            iterate 11 refine Later.setCell ?_ hWz _
            exact hlw
  · have hk1 : ((k : Int) == 1) = false := by rw [beq_eq_false_iff_ne]; omega
    obtain ⟨⟨f, L4, b4⟩, hR4⟩ : ∃ R, rU 1000 L3 b3 = R := ⟨_, rfl⟩
    have hMf : Hid (rdFM k n y f L4 b4 = M) := Lib.hid (by rw [← hMe.out]; unfold rdBM; rw [if_neg k1, hR4])
    clear hMe
    go_wp2_with fail
    refine (hX.small (by omega) hR4).mono ?_
    rintro e w6 ⟨rfl, hX⟩
    clear c0 c1 c2 c3 c4 c5 c6 c7 c8 c9 c10
    have c0 : w6.cell? ⟨c, 0, none⟩ = some _ := hX.cell 0
    have c1 : w6.cell? ⟨c, 1, none⟩ = some _ := hX.cell 1
    have c2 : w6.cell? ⟨c, 2, none⟩ = some _ := hX.cell 2
    have c3 : w6.cell? ⟨c, 3, none⟩ = some _ := hX.cell 3
    have c4 : w6.cell? ⟨c, 4, none⟩ = some _ := hX.cell 4
    have c5 : w6.cell? ⟨c, 5, none⟩ = some _ := hX.cell 5
    have c6 : w6.cell? ⟨c, 6, none⟩ = some _ := hX.cell 6
    have c7 : w6.cell? ⟨c, 7, none⟩ = some _ := hX.cell 7
    have c8 : w6.cell? ⟨c, 8, none⟩ = some _ := hX.cell 8
    have c9 : w6.cell? ⟨c, 9, none⟩ = some _ := hX.cell 9
    have c10 : w6.cell? ⟨c, 10, none⟩ = some _ := hX.cell 10
    have ff := hX.fz 4
    replace hX := hX.set 4 (.int .i64 f)
    simp only [List.setIfInBounds_toArray, List.set_cons_zero, List.set_cons_succ] at hX
    by_cases k4 : k = 4
    · subst k4
      obtain ⟨⟨r5, L5, b5⟩, hR5⟩ : ∃ R, rU 6 L4 b4 = R := ⟨_, rfl⟩
      obtain ⟨⟨r6, L6, b6⟩, hR6⟩ : ∃ R, rU 63 L5 b5 = R := ⟨_, rfl⟩
      obtain ⟨⟨r7, L7, b7⟩, hR7⟩ : ∃ R, rU 63 L6 b6 = R := ⟨_, rfl⟩
      obtain ⟨⟨r8, L8, b8⟩, hR8⟩ : ∃ R, rU 4096 L7 b7 = R := ⟨_, rfl⟩
      obtain ⟨⟨r9, L9, b9⟩, hR9⟩ : ∃ R, rU 4096 L8 b8 = R := ⟨_, rfl⟩
      obtain ⟨⟨D, LT, bT⟩, hRT⟩ : ∃ R, rT 70000 L9 b9 = R := ⟨_, rfl⟩
      obtain ⟨mm, hmm⟩ : ∃ mm : Msg, Hid (mm = ⟨4, n, y, [], f, r5, r6, r7, r8, r9, D⟩) := ⟨_, Lib.hid rfl⟩
      have hfin : Hid (fin mm LT bT = M) := Lib.hid (by
        rw [hmm.out, ← hMf.out]; unfold rdFM; rw [if_pos rfl]; unfold rd4M rdT
        rw [hR5]; dsimp only; rw [hR6]; dsimp only; rw [hR7]; dsimp only; rw [hR8]; dsimp only; rw [hR9]; dsimp only; rw [hRT])
      clear hMf
      have hDl : D.length ≤ 70000 := by have := rT_most 70000 L9 b9; rw [hRT] at this; exact this
      go_wp2_with fail
      refine (hX.small (by omega) hR5).mono ?_
      rintro e w7 ⟨rfl, hX⟩
      clear c0 c1 c2 c3 c4 c5 c6 c7 c8 c9 c10
      have c0 : w7.cell? ⟨c, 0, none⟩ = some _ := hX.cell 0
      have c1 : w7.cell? ⟨c, 1, none⟩ = some _ := hX.cell 1
      have c2 : w7.cell? ⟨c, 2, none⟩ = some _ := hX.cell 2
      have c3 : w7.cell? ⟨c, 3, none⟩ = some _ := hX.cell 3
      have c4 : w7.cell? ⟨c, 4, none⟩ = some _ := hX.cell 4
      have c5 : w7.cell? ⟨c, 5, none⟩ = some _ := hX.cell 5
      have c6 : w7.cell? ⟨c, 6, none⟩ = some _ := hX.cell 6
      have c7 : w7.cell? ⟨c, 7, none⟩ = some _ := hX.cell 7
      have c8 : w7.cell? ⟨c, 8, none⟩ = some _ := hX.cell 8
      have c9 : w7.cell? ⟨c, 9, none⟩ = some _ := hX.cell 9
      have c10 : w7.cell? ⟨c, 10, none⟩ = some _ := hX.cell 10
      have ff := hX.fz 5
      replace hX := hX.set 5 (.int .i64 r5)
      simp only [List.setIfInBounds_toArray, List.set_cons_zero, List.set_cons_succ] at hX
      go_wp2_with fail
      refine (hX.small (by omega) hR6).mono ?_
      rintro e w8 ⟨rfl, hX⟩
      clear c0 c1 c2 c3 c4 c5 c6 c7 c8 c9 c10
      have c0 : w8.cell? ⟨c, 0, none⟩ = some _ := hX.cell 0
      have c1 : w8.cell? ⟨c, 1, none⟩ = some _ := hX.cell 1
      have c2 : w8.cell? ⟨c, 2, none⟩ = some _ := hX.cell 2
      have c3 : w8.cell? ⟨c, 3, none⟩ = some _ := hX.cell 3
      have c4 : w8.cell? ⟨c, 4, none⟩ = some _ := hX.cell 4
      have c5 : w8.cell? ⟨c, 5, none⟩ = some _ := hX.cell 5
      have c6 : w8.cell? ⟨c, 6, none⟩ = some _ := hX.cell 6
      have c7 : w8.cell? ⟨c, 7, none⟩ = some _ := hX.cell 7
      have c8 : w8.cell? ⟨c, 8, none⟩ = some _ := hX.cell 8
      have c9 : w8.cell? ⟨c, 9, none⟩ = some _ := hX.cell 9
      have c10 : w8.cell? ⟨c, 10, none⟩ = some _ := hX.cell 10
      have ff := hX.fz 6
      replace hX := hX.set 6 (.int .i64 r6)
      simp only [List.setIfInBounds_toArray, List.set_cons_zero, List.set_cons_succ] at hX
      go_wp2_with fail
      refine (hX.small (by omega) hR7).mono ?_
      rintro e w9 ⟨rfl, hX⟩
      clear c0 c1 c2 c3 c4 c5 c6 c7 c8 c9 c10
      have c0 : w9.cell? ⟨c, 0, none⟩ = some _ := hX.cell 0
      have c1 : w9.cell? ⟨c, 1, none⟩ = some _ := hX.cell 1
      have c2 : w9.cell? ⟨c, 2, none⟩ = some _ := hX.cell 2
      have c3 : w9.cell? ⟨c, 3, none⟩ = some _ := hX.cell 3
      have c4 : w9.cell? ⟨c, 4, none⟩ = some _ := hX.cell 4
      have c5 : w9.cell? ⟨c, 5, none⟩ = some _ := hX.cell 5
      have c6 : w9.cell? ⟨c, 6, none⟩ = some _ := hX.cell 6
      have c7 : w9.cell? ⟨c, 7, none⟩ = some _ := hX.cell 7
      have c8 : w9.cell? ⟨c, 8, none⟩ = some _ := hX.cell 8
      have c9 : w9.cell? ⟨c, 9, none⟩ = some _ := hX.cell 9
      have c10 : w9.cell? ⟨c, 10, none⟩ = some _ := hX.cell 10
      have ff := hX.fz 7
      replace hX := hX.set 7 (.int .i64 r7)
      simp only [List.setIfInBounds_toArray, List.set_cons_zero, List.set_cons_succ] at hX
      go_wp2_with fail
      refine (hX.small (by omega) hR8).mono ?_
      rintro e w10 ⟨rfl, hX⟩
      clear c0 c1 c2 c3 c4 c5 c6 c7 c8 c9 c10
      have c0 : w10.cell? ⟨c, 0, none⟩ = some _ := hX.cell 0
      have c1 : w10.cell? ⟨c, 1, none⟩ = some _ := hX.cell 1
      have c2 : w10.cell? ⟨c, 2, none⟩ = some _ := hX.cell 2
      have c3 : w10.cell? ⟨c, 3, none⟩ = some _ := hX.cell 3
      have c4 : w10.cell? ⟨c, 4, none⟩ = some _ := hX.cell 4
      have c5 : w10.cell? ⟨c, 5, none⟩ = some _ := hX.cell 5
      have c6 : w10.cell? ⟨c, 6, none⟩ = some _ := hX.cell 6
      have c7 : w10.cell? ⟨c, 7, none⟩ = some _ := hX.cell 7
      have c8 : w10.cell? ⟨c, 8, none⟩ = some _ := hX.cell 8
      have c9 : w10.cell? ⟨c, 9, none⟩ = some _ := hX.cell 9
      have c10 : w10.cell? ⟨c, 10, none⟩ = some _ := hX.cell 10
      have ff := hX.fz 8
      replace hX := hX.set 8 (.int .i64 r8)
      simp only [List.setIfInBounds_toArray, List.set_cons_zero, List.set_cons_succ] at hX
      go_wp2_with fail
      refine (hX.small (by omega) hR9).mono ?_
      rintro e w11 ⟨rfl, hX⟩
      clear c0 c1 c2 c3 c4 c5 c6 c7 c8 c9 c10
      have c0 : w11.cell? ⟨c, 0, none⟩ = some _ := hX.cell 0
      have c1 : w11.cell? ⟨c, 1, none⟩ = some _ := hX.cell 1
      have c2 : w11.cell? ⟨c, 2, none⟩ = some _ := hX.cell 2
      have c3 : w11.cell? ⟨c, 3, none⟩ = some _ := hX.cell 3
      have c4 : w11.cell? ⟨c, 4, none⟩ = some _ := hX.cell 4
      have c5 : w11.cell? ⟨c, 5, none⟩ = some _ := hX.cell 5
      have c6 : w11.cell? ⟨c, 6, none⟩ = some _ := hX.cell 6
      have c7 : w11.cell? ⟨c, 7, none⟩ = some _ := hX.cell 7
      have c8 : w11.cell? ⟨c, 8, none⟩ = some _ := hX.cell 8
      have c9 : w11.cell? ⟨c, 9, none⟩ = some _ := hX.cell 9
      have c10 : w11.cell? ⟨c, 10, none⟩ = some _ := hX.cell 10
      have ff := hX.fz 9
      replace hX := hX.set 9 (.int .i64 r9)
      simp only [List.setIfInBounds_toArray, List.set_cons_zero, List.set_cons_succ] at hX
      have hBD : Byt D := by have := rT_byt 70000 L9 b9 hX.byt; rw [hRT] at this; exact this
      have hcl2 := hX.lt
      go_wp2_with fail
      refine (hX.text hRT).mono ?_
      rintro e w12 ⟨uT, rfl, hX, hrow⟩
      obtain ⟨mT, aT, qT, rfl⟩ := row_form hrow
      clear c0 c1 c2 c3 c4 c5 c6 c7 c8 c9 c10
      have c0 : w12.cell? ⟨c, 0, none⟩ = some _ := hX.cell 0
      have c1 : w12.cell? ⟨c, 1, none⟩ = some _ := hX.cell 1
      have c2 : w12.cell? ⟨c, 2, none⟩ = some _ := hX.cell 2
      have c3 : w12.cell? ⟨c, 3, none⟩ = some _ := hX.cell 3
      have c4 : w12.cell? ⟨c, 4, none⟩ = some _ := hX.cell 4
      have c5 : w12.cell? ⟨c, 5, none⟩ = some _ := hX.cell 5
      have c6 : w12.cell? ⟨c, 6, none⟩ = some _ := hX.cell 6
      have c7 : w12.cell? ⟨c, 7, none⟩ = some _ := hX.cell 7
      have c8 : w12.cell? ⟨c, 8, none⟩ = some _ := hX.cell 8
      have c9 : w12.cell? ⟨c, 9, none⟩ = some _ := hX.cell 9
      have c10 : w12.cell? ⟨c, 10, none⟩ = some _ := hX.cell 10
      have ff := hX.fz 10
      replace hX := hX.set 10 (.slice aT mT qT)
      simp only [List.setIfInBounds_toArray, List.set_cons_zero, List.set_cons_succ] at hX
      have hrow2 := ownsRow_setCell_below (a := ⟨c, 10, none⟩) (row_mono hrow (Nat.succ_le_of_lt hcl2)) (Nat.lt_succ_self c) (.slice aT mT qT)
      clear hrow hcl2
      go_upto_region 25 with fail
      obtain ⟨X8, hX8⟩ : ∃ X, X = w12.setCell ⟨c, 10, none⟩ (.slice aT mT qT) := ⟨_, rfl⟩
      rw [← hX8] at hX hrow2 ⊢
      clear hX8 c0 c1 c2 c3 c4 c5 c6 c7 c8 c9 c10 ff
      have HE := Lib.hid (hX.end_)
      have hrm : Hid (World.ownsRow X8 (c + 1) 3 1 (.slice none 0 0) (([] : List Int)).length (encI ([] : List Int))) := Lib.hid (World.ownsRow_nil _ _ _ _)
      have hrd : Hid (World.ownsRow X8 (c + 1) 5 1 (.slice aT mT qT) (D).length (encB D)) := Lib.hid hrow2
      have HF := fun w' (hl : Later X8 w') => may_msg mm (.slice none 0 0) (.slice aT mT qT) w' (by rw [hmm.out]; exact (intsV_of_row hrm.out).later hl) (by rw [hmm.out]; exact ((bytV_of_row hBD hrd.out).1).later hl) (by rw [hmm.out]; exact (show ([] : List Int).length ≤ 1000000 by simp)) (by rw [hmm.out]; exact (show D.length ≤ 1000000 by omega))
      have hVV : Msg.V mm (.slice none 0 0) (.slice aT mT qT) = Msg.V ⟨4, n, y, [], f, r5, r6, r7, r8, r9, D⟩ (.slice none 0 0) (.slice aT mT qT) := by rw [hmm.out]
      rw [hVV] at HF
      replace HF := Lib.hid HF
      obtain ⟨dm, hdm⟩ : ∃ dm, decide (Msg.May mm) = dm := ⟨_, rfl⟩
      rw [hdm] at HF
      replace hdm := Lib.hid hdm
      clear hVV
      have kzX := hX.kz
      have kcX := hX.kc
      have hls := hX.ls
      clear hX
      go_wp2_with fail
      refine HE.out.mono ?_
      rintro e w20 ⟨rfl, hl20⟩
      replace kzX := (hl20.block z (Array.getElem?_eq_some_iff.1 kzX).1).trans kzX
      replace kcX := (hl20.block c (Array.getElem?_eq_some_iff.1 kcX).1).trans kcX
      have HF2 := Lib.hid (HF.out w20 hl20)
      have z0 : w20.cell? ⟨z, 0, none⟩ = some _ := cell_of_row w20 _ 0 _ _ _ kzX
      have y0 := frozen_row kzX 0
      have z1 : w20.cell? ⟨z, 1, none⟩ = some _ := cell_of_row w20 _ 1 _ _ _ kzX
      have y1 := frozen_row kzX 1
      have z2 : w20.cell? ⟨z, 2, none⟩ = some _ := cell_of_row w20 _ 2 _ _ _ kzX
      have y2 := frozen_row kzX 2
      have z3 : w20.cell? ⟨z, 3, none⟩ = some _ := cell_of_row w20 _ 3 _ _ _ kzX
      have y3 := frozen_row kzX 3
      have z4 : w20.cell? ⟨z, 4, none⟩ = some _ := cell_of_row w20 _ 4 _ _ _ kzX
      have y4 := frozen_row kzX 4
      have z5 : w20.cell? ⟨z, 5, none⟩ = some _ := cell_of_row w20 _ 5 _ _ _ kzX
      have y5 := frozen_row kzX 5
      have z6 : w20.cell? ⟨z, 6, none⟩ = some _ := cell_of_row w20 _ 6 _ _ _ kzX
      have y6 := frozen_row kzX 6
      have z7 : w20.cell? ⟨z, 7, none⟩ = some _ := cell_of_row w20 _ 7 _ _ _ kzX
      have y7 := frozen_row kzX 7
      have z8 : w20.cell? ⟨z, 8, none⟩ = some _ := cell_of_row w20 _ 8 _ _ _ kzX
      have y8 := frozen_row kzX 8
      have z9 : w20.cell? ⟨z, 9, none⟩ = some _ := cell_of_row w20 _ 9 _ _ _ kzX
      have y9 := frozen_row kzX 9
      have z10 : w20.cell? ⟨z, 10, none⟩ = some _ := cell_of_row w20 _ 10 _ _ _ kzX
      have y10 := frozen_row kzX 10
      have c0 : w20.cell? ⟨c, 0, none⟩ = some _ := cell_of_row w20 _ 0 _ _ _ kcX
      have c1 : w20.cell? ⟨c, 1, none⟩ = some _ := cell_of_row w20 _ 1 _ _ _ kcX
      have c2 : w20.cell? ⟨c, 2, none⟩ = some _ := cell_of_row w20 _ 2 _ _ _ kcX
      have c3 : w20.cell? ⟨c, 3, none⟩ = some _ := cell_of_row w20 _ 3 _ _ _ kcX
      have c4 : w20.cell? ⟨c, 4, none⟩ = some _ := cell_of_row w20 _ 4 _ _ _ kcX
      have c5 : w20.cell? ⟨c, 5, none⟩ = some _ := cell_of_row w20 _ 5 _ _ _ kcX
      have c6 : w20.cell? ⟨c, 6, none⟩ = some _ := cell_of_row w20 _ 6 _ _ _ kcX
      have c7 : w20.cell? ⟨c, 7, none⟩ = some _ := cell_of_row w20 _ 7 _ _ _ kcX
      have c8 : w20.cell? ⟨c, 8, none⟩ = some _ := cell_of_row w20 _ 8 _ _ _ kcX
      have c9 : w20.cell? ⟨c, 9, none⟩ = some _ := cell_of_row w20 _ 9 _ _ _ kcX
      have c10 : w20.cell? ⟨c, 10, none⟩ = some _ := cell_of_row w20 _ 10 _ _ _ kcX
      clear HE HF
      go_upto_region 26 with fail
      go_wp2_with fail
      refine HF2.out.mono ?_
      rintro e w8 ⟨rfl, hl8⟩
      replace kzX := (hl8.block z (Array.getElem?_eq_some_iff.1 kzX).1).trans kzX
      replace kcX := (hl8.block c (Array.getElem?_eq_some_iff.1 kcX).1).trans kcX
      clear z0 z1 z2 z3 z4 z5 z6 z7 z8 z9 z10 y0 y1 y2 y3 y4 y5 y6 y7 y8 y9 y10 c0 c1 c2 c3 c4 c5 c6 c7 c8 c9 c10 HF2
      have z0 : w8.cell? ⟨z, 0, none⟩ = some _ := cell_of_row w8 _ 0 _ _ _ kzX
      have y0 := frozen_row kzX 0
      have z1 : w8.cell? ⟨z, 1, none⟩ = some _ := cell_of_row w8 _ 1 _ _ _ kzX
      have y1 := frozen_row kzX 1
      have z2 : w8.cell? ⟨z, 2, none⟩ = some _ := cell_of_row w8 _ 2 _ _ _ kzX
      have y2 := frozen_row kzX 2
      have z3 : w8.cell? ⟨z, 3, none⟩ = some _ := cell_of_row w8 _ 3 _ _ _ kzX
      have y3 := frozen_row kzX 3
      have z4 : w8.cell? ⟨z, 4, none⟩ = some _ := cell_of_row w8 _ 4 _ _ _ kzX
      have y4 := frozen_row kzX 4
      have z5 : w8.cell? ⟨z, 5, none⟩ = some _ := cell_of_row w8 _ 5 _ _ _ kzX
      have y5 := frozen_row kzX 5
      have z6 : w8.cell? ⟨z, 6, none⟩ = some _ := cell_of_row w8 _ 6 _ _ _ kzX
      have y6 := frozen_row kzX 6
      have z7 : w8.cell? ⟨z, 7, none⟩ = some _ := cell_of_row w8 _ 7 _ _ _ kzX
      have y7 := frozen_row kzX 7
      have z8 : w8.cell? ⟨z, 8, none⟩ = some _ := cell_of_row w8 _ 8 _ _ _ kzX
      have y8 := frozen_row kzX 8
      have z9 : w8.cell? ⟨z, 9, none⟩ = some _ := cell_of_row w8 _ 9 _ _ _ kzX
      have y9 := frozen_row kzX 9
      have z10 : w8.cell? ⟨z, 10, none⟩ = some _ := cell_of_row w8 _ 10 _ _ _ kzX
      have y10 := frozen_row kzX 10
      have c0 : w8.cell? ⟨c, 0, none⟩ = some _ := cell_of_row w8 _ 0 _ _ _ kcX
      have c1 : w8.cell? ⟨c, 1, none⟩ = some _ := cell_of_row w8 _ 1 _ _ _ kcX
      have c2 : w8.cell? ⟨c, 2, none⟩ = some _ := cell_of_row w8 _ 2 _ _ _ kcX
      have c3 : w8.cell? ⟨c, 3, none⟩ = some _ := cell_of_row w8 _ 3 _ _ _ kcX
      have c4 : w8.cell? ⟨c, 4, none⟩ = some _ := cell_of_row w8 _ 4 _ _ _ kcX
      have c5 : w8.cell? ⟨c, 5, none⟩ = some _ := cell_of_row w8 _ 5 _ _ _ kcX
      have c6 : w8.cell? ⟨c, 6, none⟩ = some _ := cell_of_row w8 _ 6 _ _ _ kcX
      have c7 : w8.cell? ⟨c, 7, none⟩ = some _ := cell_of_row w8 _ 7 _ _ _ kcX
      have c8 : w8.cell? ⟨c, 8, none⟩ = some _ := cell_of_row w8 _ 8 _ _ _ kcX
      have c9 : w8.cell? ⟨c, 9, none⟩ = some _ := cell_of_row w8 _ 9 _ _ _ kcX
      have c10 : w8.cell? ⟨c, 10, none⟩ = some _ := cell_of_row w8 _ 10 _ _ _ kcX
      have hlw := (hls.trans hl20).trans hl8
      have hrm8 := Lib.hid (row_later hrm.out (hl20.trans hl8))
      have hrd8 := Lib.hid (row_later hrd.out (hl20.trans hl8))
      clear kzX kcX hls hl8 hl20 hrm hrd
      by_cases hE : rE LT bT = 0
      · by_cases hMay : Msg.May mm
        · have hf2 := Lib.hid ((fin_yes (m := mm) hE hMay).symm.trans hfin.out)
          obtain rfl : dm = true := by rw [← hdm.out]; exact decide_eq_true hMay
          clear hfin hMay
          rw [hE]
          clear hE hdm
          go_wp2_with fail
          refine bodyPost_ret (v := .tuple #[Msg.V ⟨4, n, y, [], f, r5, r6, r7, r8, r9, D⟩ (.slice none 0 0) (.slice aT mT qT), .int .i64 0]) ?_ rfl ?_
          · simp only [results]
            go_simp
          · rw [← hf2.out, hmm.out]
            refine ⟨⟨(.slice none 0 0), (.slice aT mT qT), rfl, row_mono ?_ hWc, row_mono ?_ hWc⟩, ?_⟩
            · iterate 11 refine ownsRow_setCell_below (a := ⟨z, _, none⟩) ?_ hzc _
              exact hrm8.out
            · iterate 11 refine ownsRow_setCell_below (a := ⟨z, _, none⟩) ?_ hzc _
              exact hrd8.out
            · iterate 11 refine Later.setCell ?_ hWz _
              exact hlw
        · have hf2 := Lib.hid ((fin_m (m := mm) hMay).symm.trans hfin.out)
          obtain rfl : dm = false := by rw [← hdm.out]; exact decide_eq_false hMay
          clear hfin hMay hrm8 hrd8
          rw [hE]
          clear hE hdm
          go_wp2_with fail
          refine bodyPost_ret (v := .tuple #[Msg.V Msg.zero (.slice none 0 0) (.slice none 0 0), .int .i64 281]) ?_ rfl ?_
          · simp only [results]
            go_simp
          · rw [← hf2.out]
            refine ⟨rfl, ?_⟩
            iterate 11 refine Later.setCell ?_ hWz _
            exact hlw
      · have hf2 := Lib.hid ((fin_e (m := mm) hE).symm.trans hfin.out)
        have h50 := rE_50 hE
        rw [h50]
        clear hfin hE h50 hdm hrm8 hrd8
        go_wp2_with fail
        refine bodyPost_ret (v := .tuple #[Msg.V Msg.zero (.slice none 0 0) (.slice none 0 0), .int .i64 281]) ?_ rfl ?_
        · simp only [results]
          go_simp
        · rw [← hf2.out]
          refine ⟨rfl, ?_⟩
          iterate 11 refine Later.setCell ?_ hWz _
          exact hlw
    · have hk4 : ((k : Int) == 4) = false := by rw [beq_eq_false_iff_ne]; omega
      by_cases k5 : k = 5
      · subst k5
        obtain ⟨⟨r6, L6, b6⟩, hR6⟩ : ∃ R, rU 63 L4 b4 = R := ⟨_, rfl⟩
        obtain ⟨⟨r8, L8, b8⟩, hR8⟩ : ∃ R, rU 4096 L6 b6 = R := ⟨_, rfl⟩
        obtain ⟨⟨r9, L9, b9⟩, hR9⟩ : ∃ R, rU 4096 L8 b8 = R := ⟨_, rfl⟩
        obtain ⟨⟨D, LT, bT⟩, hRT⟩ : ∃ R, rT 70000 L9 b9 = R := ⟨_, rfl⟩
        obtain ⟨mm, hmm⟩ : ∃ mm : Msg, Hid (mm = ⟨5, n, y, [], f, 0, r6, 0, r8, r9, D⟩) := ⟨_, Lib.hid rfl⟩
        have hfin : Hid (fin mm LT bT = M) := Lib.hid (by
          rw [hmm.out, ← hMf.out]; unfold rdFM; rw [if_neg k4, if_pos rfl]; unfold rdT
          rw [hR6]; dsimp only; rw [hR8]; dsimp only; rw [hR9]; dsimp only; rw [hRT]; rfl)
        clear hMf
        have hDl : D.length ≤ 70000 := by have := rT_most 70000 L9 b9; rw [hRT] at this; exact this
        go_wp2_with fail
        refine (hX.small (by omega) hR6).mono ?_
        rintro e w8 ⟨rfl, hX⟩
        clear c0 c1 c2 c3 c4 c5 c6 c7 c8 c9 c10
        have c0 : w8.cell? ⟨c, 0, none⟩ = some _ := hX.cell 0
        have c1 : w8.cell? ⟨c, 1, none⟩ = some _ := hX.cell 1
        have c2 : w8.cell? ⟨c, 2, none⟩ = some _ := hX.cell 2
        have c3 : w8.cell? ⟨c, 3, none⟩ = some _ := hX.cell 3
        have c4 : w8.cell? ⟨c, 4, none⟩ = some _ := hX.cell 4
        have c5 : w8.cell? ⟨c, 5, none⟩ = some _ := hX.cell 5
        have c6 : w8.cell? ⟨c, 6, none⟩ = some _ := hX.cell 6
        have c7 : w8.cell? ⟨c, 7, none⟩ = some _ := hX.cell 7
        have c8 : w8.cell? ⟨c, 8, none⟩ = some _ := hX.cell 8
        have c9 : w8.cell? ⟨c, 9, none⟩ = some _ := hX.cell 9
        have c10 : w8.cell? ⟨c, 10, none⟩ = some _ := hX.cell 10
        have ff := hX.fz 6
        replace hX := hX.set 6 (.int .i64 r6)
        simp only [List.setIfInBounds_toArray, List.set_cons_zero, List.set_cons_succ] at hX
        go_wp2_with fail
        refine (hX.small (by omega) hR8).mono ?_
        rintro e w10 ⟨rfl, hX⟩
        clear c0 c1 c2 c3 c4 c5 c6 c7 c8 c9 c10
        have c0 : w10.cell? ⟨c, 0, none⟩ = some _ := hX.cell 0
        have c1 : w10.cell? ⟨c, 1, none⟩ = some _ := hX.cell 1
        have c2 : w10.cell? ⟨c, 2, none⟩ = some _ := hX.cell 2
        have c3 : w10.cell? ⟨c, 3, none⟩ = some _ := hX.cell 3
        have c4 : w10.cell? ⟨c, 4, none⟩ = some _ := hX.cell 4
        have c5 : w10.cell? ⟨c, 5, none⟩ = some _ := hX.cell 5
        have c6 : w10.cell? ⟨c, 6, none⟩ = some _ := hX.cell 6
        have c7 : w10.cell? ⟨c, 7, none⟩ = some _ := hX.cell 7
        have c8 : w10.cell? ⟨c, 8, none⟩ = some _ := hX.cell 8
        have c9 : w10.cell? ⟨c, 9, none⟩ = some _ := hX.cell 9
        have c10 : w10.cell? ⟨c, 10, none⟩ = some _ := hX.cell 10
        have ff := hX.fz 8
        replace hX := hX.set 8 (.int .i64 r8)
        simp only [List.setIfInBounds_toArray, List.set_cons_zero, List.set_cons_succ] at hX
        go_wp2_with fail
        refine (hX.small (by omega) hR9).mono ?_
        rintro e w11 ⟨rfl, hX⟩
        clear c0 c1 c2 c3 c4 c5 c6 c7 c8 c9 c10
        have c0 : w11.cell? ⟨c, 0, none⟩ = some _ := hX.cell 0
        have c1 : w11.cell? ⟨c, 1, none⟩ = some _ := hX.cell 1
        have c2 : w11.cell? ⟨c, 2, none⟩ = some _ := hX.cell 2
        have c3 : w11.cell? ⟨c, 3, none⟩ = some _ := hX.cell 3
        have c4 : w11.cell? ⟨c, 4, none⟩ = some _ := hX.cell 4
        have c5 : w11.cell? ⟨c, 5, none⟩ = some _ := hX.cell 5
        have c6 : w11.cell? ⟨c, 6, none⟩ = some _ := hX.cell 6
        have c7 : w11.cell? ⟨c, 7, none⟩ = some _ := hX.cell 7
        have c8 : w11.cell? ⟨c, 8, none⟩ = some _ := hX.cell 8
        have c9 : w11.cell? ⟨c, 9, none⟩ = some _ := hX.cell 9
        have c10 : w11.cell? ⟨c, 10, none⟩ = some _ := hX.cell 10
        have ff := hX.fz 9
        replace hX := hX.set 9 (.int .i64 r9)
        simp only [List.setIfInBounds_toArray, List.set_cons_zero, List.set_cons_succ] at hX
        have hBD : Byt D := by have := rT_byt 70000 L9 b9 hX.byt; rw [hRT] at this; exact this
        have hcl2 := hX.lt
        go_wp2_with fail
        refine (hX.text hRT).mono ?_
        rintro e w12 ⟨uT, rfl, hX, hrow⟩
        obtain ⟨mT, aT, qT, rfl⟩ := row_form hrow
        clear c0 c1 c2 c3 c4 c5 c6 c7 c8 c9 c10
        have c0 : w12.cell? ⟨c, 0, none⟩ = some _ := hX.cell 0
        have c1 : w12.cell? ⟨c, 1, none⟩ = some _ := hX.cell 1
        have c2 : w12.cell? ⟨c, 2, none⟩ = some _ := hX.cell 2
        have c3 : w12.cell? ⟨c, 3, none⟩ = some _ := hX.cell 3
        have c4 : w12.cell? ⟨c, 4, none⟩ = some _ := hX.cell 4
        have c5 : w12.cell? ⟨c, 5, none⟩ = some _ := hX.cell 5
        have c6 : w12.cell? ⟨c, 6, none⟩ = some _ := hX.cell 6
        have c7 : w12.cell? ⟨c, 7, none⟩ = some _ := hX.cell 7
        have c8 : w12.cell? ⟨c, 8, none⟩ = some _ := hX.cell 8
        have c9 : w12.cell? ⟨c, 9, none⟩ = some _ := hX.cell 9
        have c10 : w12.cell? ⟨c, 10, none⟩ = some _ := hX.cell 10
        have ff := hX.fz 10
        replace hX := hX.set 10 (.slice aT mT qT)
        simp only [List.setIfInBounds_toArray, List.set_cons_zero, List.set_cons_succ] at hX
        have hrow2 := ownsRow_setCell_below (a := ⟨c, 10, none⟩) (row_mono hrow (Nat.succ_le_of_lt hcl2)) (Nat.lt_succ_self c) (.slice aT mT qT)
        clear hrow hcl2
        go_upto_region 25 with fail
        obtain ⟨X8, hX8⟩ : ∃ X, X = w12.setCell ⟨c, 10, none⟩ (.slice aT mT qT) := ⟨_, rfl⟩
        rw [← hX8] at hX hrow2 ⊢
        clear hX8 c0 c1 c2 c3 c4 c5 c6 c7 c8 c9 c10 ff
        have HE := Lib.hid (hX.end_)
        have hrm : Hid (World.ownsRow X8 (c + 1) 3 1 (.slice none 0 0) (([] : List Int)).length (encI ([] : List Int))) := Lib.hid (World.ownsRow_nil _ _ _ _)
        have hrd : Hid (World.ownsRow X8 (c + 1) 5 1 (.slice aT mT qT) (D).length (encB D)) := Lib.hid hrow2
        have HF := fun w' (hl : Later X8 w') => may_msg mm (.slice none 0 0) (.slice aT mT qT) w' (by rw [hmm.out]; exact (intsV_of_row hrm.out).later hl) (by rw [hmm.out]; exact ((bytV_of_row hBD hrd.out).1).later hl) (by rw [hmm.out]; exact (show ([] : List Int).length ≤ 1000000 by simp)) (by rw [hmm.out]; exact (show D.length ≤ 1000000 by omega))
        have hVV : Msg.V mm (.slice none 0 0) (.slice aT mT qT) = Msg.V ⟨5, n, y, [], f, 0, r6, 0, r8, r9, D⟩ (.slice none 0 0) (.slice aT mT qT) := by rw [hmm.out]
        rw [hVV] at HF
        replace HF := Lib.hid HF
        obtain ⟨dm, hdm⟩ : ∃ dm, decide (Msg.May mm) = dm := ⟨_, rfl⟩
        rw [hdm] at HF
        replace hdm := Lib.hid hdm
        clear hVV
        have kzX := hX.kz
        have kcX := hX.kc
        have hls := hX.ls
        clear hX
        go_wp2_with fail
        refine HE.out.mono ?_
        rintro e w20 ⟨rfl, hl20⟩
        replace kzX := (hl20.block z (Array.getElem?_eq_some_iff.1 kzX).1).trans kzX
        replace kcX := (hl20.block c (Array.getElem?_eq_some_iff.1 kcX).1).trans kcX
        have HF2 := Lib.hid (HF.out w20 hl20)
        have z0 : w20.cell? ⟨z, 0, none⟩ = some _ := cell_of_row w20 _ 0 _ _ _ kzX
        have y0 := frozen_row kzX 0
        have z1 : w20.cell? ⟨z, 1, none⟩ = some _ := cell_of_row w20 _ 1 _ _ _ kzX
        have y1 := frozen_row kzX 1
        have z2 : w20.cell? ⟨z, 2, none⟩ = some _ := cell_of_row w20 _ 2 _ _ _ kzX
        have y2 := frozen_row kzX 2
        have z3 : w20.cell? ⟨z, 3, none⟩ = some _ := cell_of_row w20 _ 3 _ _ _ kzX
        have y3 := frozen_row kzX 3
        have z4 : w20.cell? ⟨z, 4, none⟩ = some _ := cell_of_row w20 _ 4 _ _ _ kzX
        have y4 := frozen_row kzX 4
        have z5 : w20.cell? ⟨z, 5, none⟩ = some _ := cell_of_row w20 _ 5 _ _ _ kzX
        have y5 := frozen_row kzX 5
        have z6 : w20.cell? ⟨z, 6, none⟩ = some _ := cell_of_row w20 _ 6 _ _ _ kzX
        have y6 := frozen_row kzX 6
        have z7 : w20.cell? ⟨z, 7, none⟩ = some _ := cell_of_row w20 _ 7 _ _ _ kzX
        have y7 := frozen_row kzX 7
        have z8 : w20.cell? ⟨z, 8, none⟩ = some _ := cell_of_row w20 _ 8 _ _ _ kzX
        have y8 := frozen_row kzX 8
        have z9 : w20.cell? ⟨z, 9, none⟩ = some _ := cell_of_row w20 _ 9 _ _ _ kzX
        have y9 := frozen_row kzX 9
        have z10 : w20.cell? ⟨z, 10, none⟩ = some _ := cell_of_row w20 _ 10 _ _ _ kzX
        have y10 := frozen_row kzX 10
        have c0 : w20.cell? ⟨c, 0, none⟩ = some _ := cell_of_row w20 _ 0 _ _ _ kcX
        have c1 : w20.cell? ⟨c, 1, none⟩ = some _ := cell_of_row w20 _ 1 _ _ _ kcX
        have c2 : w20.cell? ⟨c, 2, none⟩ = some _ := cell_of_row w20 _ 2 _ _ _ kcX
        have c3 : w20.cell? ⟨c, 3, none⟩ = some _ := cell_of_row w20 _ 3 _ _ _ kcX
        have c4 : w20.cell? ⟨c, 4, none⟩ = some _ := cell_of_row w20 _ 4 _ _ _ kcX
        have c5 : w20.cell? ⟨c, 5, none⟩ = some _ := cell_of_row w20 _ 5 _ _ _ kcX
        have c6 : w20.cell? ⟨c, 6, none⟩ = some _ := cell_of_row w20 _ 6 _ _ _ kcX
        have c7 : w20.cell? ⟨c, 7, none⟩ = some _ := cell_of_row w20 _ 7 _ _ _ kcX
        have c8 : w20.cell? ⟨c, 8, none⟩ = some _ := cell_of_row w20 _ 8 _ _ _ kcX
        have c9 : w20.cell? ⟨c, 9, none⟩ = some _ := cell_of_row w20 _ 9 _ _ _ kcX
        have c10 : w20.cell? ⟨c, 10, none⟩ = some _ := cell_of_row w20 _ 10 _ _ _ kcX
        clear HE HF
        go_upto_region 26 with fail
        go_wp2_with fail
        refine HF2.out.mono ?_
        rintro e w8 ⟨rfl, hl8⟩
        replace kzX := (hl8.block z (Array.getElem?_eq_some_iff.1 kzX).1).trans kzX
        replace kcX := (hl8.block c (Array.getElem?_eq_some_iff.1 kcX).1).trans kcX
        clear z0 z1 z2 z3 z4 z5 z6 z7 z8 z9 z10 y0 y1 y2 y3 y4 y5 y6 y7 y8 y9 y10 c0 c1 c2 c3 c4 c5 c6 c7 c8 c9 c10 HF2
        have z0 : w8.cell? ⟨z, 0, none⟩ = some _ := cell_of_row w8 _ 0 _ _ _ kzX
        have y0 := frozen_row kzX 0
        have z1 : w8.cell? ⟨z, 1, none⟩ = some _ := cell_of_row w8 _ 1 _ _ _ kzX
        have y1 := frozen_row kzX 1
        have z2 : w8.cell? ⟨z, 2, none⟩ = some _ := cell_of_row w8 _ 2 _ _ _ kzX
        have y2 := frozen_row kzX 2
        have z3 : w8.cell? ⟨z, 3, none⟩ = some _ := cell_of_row w8 _ 3 _ _ _ kzX
        have y3 := frozen_row kzX 3
        have z4 : w8.cell? ⟨z, 4, none⟩ = some _ := cell_of_row w8 _ 4 _ _ _ kzX
        have y4 := frozen_row kzX 4
        have z5 : w8.cell? ⟨z, 5, none⟩ = some _ := cell_of_row w8 _ 5 _ _ _ kzX
        have y5 := frozen_row kzX 5
        have z6 : w8.cell? ⟨z, 6, none⟩ = some _ := cell_of_row w8 _ 6 _ _ _ kzX
        have y6 := frozen_row kzX 6
        have z7 : w8.cell? ⟨z, 7, none⟩ = some _ := cell_of_row w8 _ 7 _ _ _ kzX
        have y7 := frozen_row kzX 7
        have z8 : w8.cell? ⟨z, 8, none⟩ = some _ := cell_of_row w8 _ 8 _ _ _ kzX
        have y8 := frozen_row kzX 8
        have z9 : w8.cell? ⟨z, 9, none⟩ = some _ := cell_of_row w8 _ 9 _ _ _ kzX
        have y9 := frozen_row kzX 9
        have z10 : w8.cell? ⟨z, 10, none⟩ = some _ := cell_of_row w8 _ 10 _ _ _ kzX
        have y10 := frozen_row kzX 10
        have c0 : w8.cell? ⟨c, 0, none⟩ = some _ := cell_of_row w8 _ 0 _ _ _ kcX
        have c1 : w8.cell? ⟨c, 1, none⟩ = some _ := cell_of_row w8 _ 1 _ _ _ kcX
        have c2 : w8.cell? ⟨c, 2, none⟩ = some _ := cell_of_row w8 _ 2 _ _ _ kcX
        have c3 : w8.cell? ⟨c, 3, none⟩ = some _ := cell_of_row w8 _ 3 _ _ _ kcX
        have c4 : w8.cell? ⟨c, 4, none⟩ = some _ := cell_of_row w8 _ 4 _ _ _ kcX
        have c5 : w8.cell? ⟨c, 5, none⟩ = some _ := cell_of_row w8 _ 5 _ _ _ kcX
        have c6 : w8.cell? ⟨c, 6, none⟩ = some _ := cell_of_row w8 _ 6 _ _ _ kcX
        have c7 : w8.cell? ⟨c, 7, none⟩ = some _ := cell_of_row w8 _ 7 _ _ _ kcX
        have c8 : w8.cell? ⟨c, 8, none⟩ = some _ := cell_of_row w8 _ 8 _ _ _ kcX
        have c9 : w8.cell? ⟨c, 9, none⟩ = some _ := cell_of_row w8 _ 9 _ _ _ kcX
        have c10 : w8.cell? ⟨c, 10, none⟩ = some _ := cell_of_row w8 _ 10 _ _ _ kcX
        have hlw := (hls.trans hl20).trans hl8
        have hrm8 := Lib.hid (row_later hrm.out (hl20.trans hl8))
        have hrd8 := Lib.hid (row_later hrd.out (hl20.trans hl8))
        clear kzX kcX hls hl8 hl20 hrm hrd
        by_cases hE : rE LT bT = 0
        · by_cases hMay : Msg.May mm
          · have hf2 := Lib.hid ((fin_yes (m := mm) hE hMay).symm.trans hfin.out)
            obtain rfl : dm = true := by rw [← hdm.out]; exact decide_eq_true hMay
            clear hfin hMay
            rw [hE]
            clear hE hdm
            go_wp2_with fail
            refine bodyPost_ret (v := .tuple #[Msg.V ⟨5, n, y, [], f, 0, r6, 0, r8, r9, D⟩ (.slice none 0 0) (.slice aT mT qT), .int .i64 0]) ?_ rfl ?_
            · simp only [results]
              go_simp
            · rw [← hf2.out, hmm.out]
              refine ⟨⟨(.slice none 0 0), (.slice aT mT qT), rfl, row_mono ?_ hWc, row_mono ?_ hWc⟩, ?_⟩
              · iterate 11 refine ownsRow_setCell_below (a := ⟨z, _, none⟩) ?_ hzc _
                exact hrm8.out
              · iterate 11 refine ownsRow_setCell_below (a := ⟨z, _, none⟩) ?_ hzc _
                exact hrd8.out
              · iterate 11 refine Later.setCell ?_ hWz _
                exact hlw
          · have hf2 := Lib.hid ((fin_m (m := mm) hMay).symm.trans hfin.out)
            obtain rfl : dm = false := by rw [← hdm.out]; exact decide_eq_false hMay
            clear hfin hMay hrm8 hrd8
            rw [hE]
            clear hE hdm
            go_wp2_with fail
            refine bodyPost_ret (v := .tuple #[Msg.V Msg.zero (.slice none 0 0) (.slice none 0 0), .int .i64 281]) ?_ rfl ?_
            · simp only [results]
              go_simp
            · rw [← hf2.out]
              refine ⟨rfl, ?_⟩
              iterate 11 refine Later.setCell ?_ hWz _
              exact hlw
        · have hf2 := Lib.hid ((fin_e (m := mm) hE).symm.trans hfin.out)
          have h50 := rE_50 hE
          rw [h50]
          clear hfin hE h50 hdm hrm8 hrd8
          go_wp2_with fail
          refine bodyPost_ret (v := .tuple #[Msg.V Msg.zero (.slice none 0 0) (.slice none 0 0), .int .i64 281]) ?_ rfl ?_
          · simp only [results]
            go_simp
          · rw [← hf2.out]
            refine ⟨rfl, ?_⟩
            iterate 11 refine Later.setCell ?_ hWz _
            exact hlw
      · have hk5 : ((k : Int) == 5) = false := by rw [beq_eq_false_iff_ne]; omega
        obtain ⟨mm, hmm⟩ : ∃ mm : Msg, Hid (mm = ⟨k, n, y, [], f, 0, 0, 0, 0, 0, []⟩) := ⟨_, Lib.hid rfl⟩
        have hfin : Hid (fin mm L4 b4 = M) := Lib.hid (by rw [hmm.out, ← hMf.out]; unfold rdFM; rw [if_neg k4, if_neg k5])
        clear hMf
        go_upto_region 25 with fail
        obtain ⟨X8, hX8⟩ : ∃ X, X = w6.setCell ⟨c, 4, none⟩ (.int .i64 f) := ⟨_, rfl⟩
        rw [← hX8] at hX ⊢
        clear hX8 c0 c1 c2 c3 c4 c5 c6 c7 c8 c9 c10 ff
        have HE := Lib.hid (hX.end_)
        have hrm : Hid (World.ownsRow X8 (c + 1) 3 1 (.slice none 0 0) (([] : List Int)).length (encI ([] : List Int))) := Lib.hid (World.ownsRow_nil _ _ _ _)
        have hrd : Hid (World.ownsRow X8 (c + 1) 5 1 (.slice none 0 0) (([] : List Int)).length (encB ([] : List Int))) := Lib.hid (World.ownsRow_nil _ _ _ _)
        have HF := fun w' (hl : Later X8 w') => may_msg mm (.slice none 0 0) (.slice none 0 0) w' (by rw [hmm.out]; exact (intsV_of_row hrm.out).later hl) (by rw [hmm.out]; exact ((bytV_of_row (fun x hx => by simp at hx) hrd.out).1).later hl) (by rw [hmm.out]; exact (show ([] : List Int).length ≤ 1000000 by simp)) (by rw [hmm.out]; exact (show ([] : List Int).length ≤ 1000000 by simp))
        have hVV : Msg.V mm (.slice none 0 0) (.slice none 0 0) = Msg.V ⟨k, n, y, [], f, 0, 0, 0, 0, 0, []⟩ (.slice none 0 0) (.slice none 0 0) := by rw [hmm.out]
        rw [hVV] at HF
        replace HF := Lib.hid HF
        obtain ⟨dm, hdm⟩ : ∃ dm, decide (Msg.May mm) = dm := ⟨_, rfl⟩
        rw [hdm] at HF
        replace hdm := Lib.hid hdm
        clear hVV
        have kzX := hX.kz
        have kcX := hX.kc
        have hls := hX.ls
        clear hX
        go_wp2_with fail
        refine HE.out.mono ?_
        rintro e w20 ⟨rfl, hl20⟩
        replace kzX := (hl20.block z (Array.getElem?_eq_some_iff.1 kzX).1).trans kzX
        replace kcX := (hl20.block c (Array.getElem?_eq_some_iff.1 kcX).1).trans kcX
        have HF2 := Lib.hid (HF.out w20 hl20)
        have z0 : w20.cell? ⟨z, 0, none⟩ = some _ := cell_of_row w20 _ 0 _ _ _ kzX
        have y0 := frozen_row kzX 0
        have z1 : w20.cell? ⟨z, 1, none⟩ = some _ := cell_of_row w20 _ 1 _ _ _ kzX
        have y1 := frozen_row kzX 1
        have z2 : w20.cell? ⟨z, 2, none⟩ = some _ := cell_of_row w20 _ 2 _ _ _ kzX
        have y2 := frozen_row kzX 2
        have z3 : w20.cell? ⟨z, 3, none⟩ = some _ := cell_of_row w20 _ 3 _ _ _ kzX
        have y3 := frozen_row kzX 3
        have z4 : w20.cell? ⟨z, 4, none⟩ = some _ := cell_of_row w20 _ 4 _ _ _ kzX
        have y4 := frozen_row kzX 4
        have z5 : w20.cell? ⟨z, 5, none⟩ = some _ := cell_of_row w20 _ 5 _ _ _ kzX
        have y5 := frozen_row kzX 5
        have z6 : w20.cell? ⟨z, 6, none⟩ = some _ := cell_of_row w20 _ 6 _ _ _ kzX
        have y6 := frozen_row kzX 6
        have z7 : w20.cell? ⟨z, 7, none⟩ = some _ := cell_of_row w20 _ 7 _ _ _ kzX
        have y7 := frozen_row kzX 7
        have z8 : w20.cell? ⟨z, 8, none⟩ = some _ := cell_of_row w20 _ 8 _ _ _ kzX
        have y8 := frozen_row kzX 8
        have z9 : w20.cell? ⟨z, 9, none⟩ = some _ := cell_of_row w20 _ 9 _ _ _ kzX
        have y9 := frozen_row kzX 9
        have z10 : w20.cell? ⟨z, 10, none⟩ = some _ := cell_of_row w20 _ 10 _ _ _ kzX
        have y10 := frozen_row kzX 10
        have c0 : w20.cell? ⟨c, 0, none⟩ = some _ := cell_of_row w20 _ 0 _ _ _ kcX
        have c1 : w20.cell? ⟨c, 1, none⟩ = some _ := cell_of_row w20 _ 1 _ _ _ kcX
        have c2 : w20.cell? ⟨c, 2, none⟩ = some _ := cell_of_row w20 _ 2 _ _ _ kcX
        have c3 : w20.cell? ⟨c, 3, none⟩ = some _ := cell_of_row w20 _ 3 _ _ _ kcX
        have c4 : w20.cell? ⟨c, 4, none⟩ = some _ := cell_of_row w20 _ 4 _ _ _ kcX
        have c5 : w20.cell? ⟨c, 5, none⟩ = some _ := cell_of_row w20 _ 5 _ _ _ kcX
        have c6 : w20.cell? ⟨c, 6, none⟩ = some _ := cell_of_row w20 _ 6 _ _ _ kcX
        have c7 : w20.cell? ⟨c, 7, none⟩ = some _ := cell_of_row w20 _ 7 _ _ _ kcX
        have c8 : w20.cell? ⟨c, 8, none⟩ = some _ := cell_of_row w20 _ 8 _ _ _ kcX
        have c9 : w20.cell? ⟨c, 9, none⟩ = some _ := cell_of_row w20 _ 9 _ _ _ kcX
        have c10 : w20.cell? ⟨c, 10, none⟩ = some _ := cell_of_row w20 _ 10 _ _ _ kcX
        clear HE HF
        go_upto_region 26 with fail
        go_wp2_with fail
        refine HF2.out.mono ?_
        rintro e w8 ⟨rfl, hl8⟩
        replace kzX := (hl8.block z (Array.getElem?_eq_some_iff.1 kzX).1).trans kzX
        replace kcX := (hl8.block c (Array.getElem?_eq_some_iff.1 kcX).1).trans kcX
        clear z0 z1 z2 z3 z4 z5 z6 z7 z8 z9 z10 y0 y1 y2 y3 y4 y5 y6 y7 y8 y9 y10 c0 c1 c2 c3 c4 c5 c6 c7 c8 c9 c10 HF2
        have z0 : w8.cell? ⟨z, 0, none⟩ = some _ := cell_of_row w8 _ 0 _ _ _ kzX
        have y0 := frozen_row kzX 0
        have z1 : w8.cell? ⟨z, 1, none⟩ = some _ := cell_of_row w8 _ 1 _ _ _ kzX
        have y1 := frozen_row kzX 1
        have z2 : w8.cell? ⟨z, 2, none⟩ = some _ := cell_of_row w8 _ 2 _ _ _ kzX
        have y2 := frozen_row kzX 2
        have z3 : w8.cell? ⟨z, 3, none⟩ = some _ := cell_of_row w8 _ 3 _ _ _ kzX
        have y3 := frozen_row kzX 3
        have z4 : w8.cell? ⟨z, 4, none⟩ = some _ := cell_of_row w8 _ 4 _ _ _ kzX
        have y4 := frozen_row kzX 4
        have z5 : w8.cell? ⟨z, 5, none⟩ = some _ := cell_of_row w8 _ 5 _ _ _ kzX
        have y5 := frozen_row kzX 5
        have z6 : w8.cell? ⟨z, 6, none⟩ = some _ := cell_of_row w8 _ 6 _ _ _ kzX
        have y6 := frozen_row kzX 6
        have z7 : w8.cell? ⟨z, 7, none⟩ = some _ := cell_of_row w8 _ 7 _ _ _ kzX
        have y7 := frozen_row kzX 7
        have z8 : w8.cell? ⟨z, 8, none⟩ = some _ := cell_of_row w8 _ 8 _ _ _ kzX
        have y8 := frozen_row kzX 8
        have z9 : w8.cell? ⟨z, 9, none⟩ = some _ := cell_of_row w8 _ 9 _ _ _ kzX
        have y9 := frozen_row kzX 9
        have z10 : w8.cell? ⟨z, 10, none⟩ = some _ := cell_of_row w8 _ 10 _ _ _ kzX
        have y10 := frozen_row kzX 10
        have c0 : w8.cell? ⟨c, 0, none⟩ = some _ := cell_of_row w8 _ 0 _ _ _ kcX
        have c1 : w8.cell? ⟨c, 1, none⟩ = some _ := cell_of_row w8 _ 1 _ _ _ kcX
        have c2 : w8.cell? ⟨c, 2, none⟩ = some _ := cell_of_row w8 _ 2 _ _ _ kcX
        have c3 : w8.cell? ⟨c, 3, none⟩ = some _ := cell_of_row w8 _ 3 _ _ _ kcX
        have c4 : w8.cell? ⟨c, 4, none⟩ = some _ := cell_of_row w8 _ 4 _ _ _ kcX
        have c5 : w8.cell? ⟨c, 5, none⟩ = some _ := cell_of_row w8 _ 5 _ _ _ kcX
        have c6 : w8.cell? ⟨c, 6, none⟩ = some _ := cell_of_row w8 _ 6 _ _ _ kcX
        have c7 : w8.cell? ⟨c, 7, none⟩ = some _ := cell_of_row w8 _ 7 _ _ _ kcX
        have c8 : w8.cell? ⟨c, 8, none⟩ = some _ := cell_of_row w8 _ 8 _ _ _ kcX
        have c9 : w8.cell? ⟨c, 9, none⟩ = some _ := cell_of_row w8 _ 9 _ _ _ kcX
        have c10 : w8.cell? ⟨c, 10, none⟩ = some _ := cell_of_row w8 _ 10 _ _ _ kcX
        have hlw := (hls.trans hl20).trans hl8
        have hrm8 := Lib.hid (row_later hrm.out (hl20.trans hl8))
        have hrd8 := Lib.hid (row_later hrd.out (hl20.trans hl8))
        clear kzX kcX hls hl8 hl20 hrm hrd
        by_cases hE : rE L4 b4 = 0
        · by_cases hMay : Msg.May mm
          · have hf2 := Lib.hid ((fin_yes (m := mm) hE hMay).symm.trans hfin.out)
            obtain rfl : dm = true := by rw [← hdm.out]; exact decide_eq_true hMay
            clear hfin hMay
            rw [hE]
            clear hE hdm
            go_wp2_with fail
            refine bodyPost_ret (v := .tuple #[Msg.V ⟨k, n, y, [], f, 0, 0, 0, 0, 0, []⟩ (.slice none 0 0) (.slice none 0 0), .int .i64 0]) ?_ rfl ?_
            · simp only [results]
              go_simp
            · rw [← hf2.out, hmm.out]
              refine ⟨⟨(.slice none 0 0), (.slice none 0 0), rfl, row_mono ?_ hWc, row_mono ?_ hWc⟩, ?_⟩
              · iterate 11 refine ownsRow_setCell_below (a := ⟨z, _, none⟩) ?_ hzc _
                exact hrm8.out
              · iterate 11 refine ownsRow_setCell_below (a := ⟨z, _, none⟩) ?_ hzc _
                exact hrd8.out
              · iterate 11 refine Later.setCell ?_ hWz _
                exact hlw
          · have hf2 := Lib.hid ((fin_m (m := mm) hMay).symm.trans hfin.out)
            obtain rfl : dm = false := by rw [← hdm.out]; exact decide_eq_false hMay
            clear hfin hMay hrm8 hrd8
            rw [hE]
            clear hE hdm
            go_wp2_with fail
            refine bodyPost_ret (v := .tuple #[Msg.V Msg.zero (.slice none 0 0) (.slice none 0 0), .int .i64 281]) ?_ rfl ?_
            · simp only [results]
              go_simp
            · rw [← hf2.out]
              refine ⟨rfl, ?_⟩
              iterate 11 refine Later.setCell ?_ hWz _
              exact hlw
        · have hf2 := Lib.hid ((fin_e (m := mm) hE).symm.trans hfin.out)
          have h50 := rE_50 hE
          rw [h50]
          clear hfin hE h50 hdm hrm8 hrd8
          go_wp2_with fail
          refine bodyPost_ret (v := .tuple #[Msg.V Msg.zero (.slice none 0 0) (.slice none 0 0), .int .i64 281]) ?_ rfl ?_
          · simp only [results]
            go_simp
          · rw [← hf2.out]
            refine ⟨rfl, ?_⟩
            iterate 11 refine Later.setCell ?_ hWz _
            exact hlw
end Go.Proofs.Ytjelfiljebamgaa
