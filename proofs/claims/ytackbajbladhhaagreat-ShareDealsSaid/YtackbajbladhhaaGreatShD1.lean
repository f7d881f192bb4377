/-
  Chapter 8: objects with their owners: the iterator.
  Chapter 8: the library's Contains of ints, by its contract (laid by the kit's tool); lists of ints that are the same.
  Chapter 8: whose an object is.
-/
import Derived.Maps.OwnIn
import Derived.Test.YtackbajbladhhaaGreatShB1
import Derived.Shelf.Slices.Turned
namespace Go.Proofs.YtackbajbladhhaaGreat
open Go.RowKit Go.Shelf
set_option linter.unusedVariables false
set_option linter.unusedSimpArgs false
attribute [local go_sem] Oper.semAt_some

/-- Which block the slice in a variable's box owns. -/
def outOf (W : World) (B : Nat) : Option Nat := (W.cell? ⟨B, 0, none⟩).bind Value.ownBlock
/-- All cells are as they were, but a variable's box and the row that it owns. -/
structure KeepO (B : Nat) (W W' : World) : Prop where
  size : W.heap.size ≤ W'.heap.size
  block : ∀ k o, W.heap[k]? = some o → o.isCells = true → k ≠ B → outOf W B ≠ some k → W'.heap[k]? = some o
  out : ∀ r, outOf W' B = some r → outOf W B = some r ∨ W.heap.size ≤ r
theorem KeepO.refl (B : Nat) (W : World) : KeepO B W W := ⟨Nat.le_refl _, fun _ _ h _ _ _ => h, fun _ h => .inl h⟩
theorem KeepO.trans {B : Nat} {X Y Z : World} (h : KeepO B X Y) (k : KeepO B Y Z) : KeepO B X Z where
  size := Nat.le_trans h.size k.size
  block i o hi ho hne hn := by
    have h1 := h.block i o hi ho hne hn
    refine k.block i o h1 ho hne (fun e => ?_)
    rcases h.out i e with e2 | e2
    · exact hn e2
    · have := (Array.getElem?_eq_some_iff.1 hi).1; omega
  out r hr := by
    rcases k.out r hr with e | e
    · exact h.out r e
    · exact .inr (Nat.le_trans h.size e)
theorem outOf_block {W W' : World} {B : Nat} (h : W'.heap[B]? = W.heap[B]?) : outOf W' B = outOf W B := by
  unfold outOf; rw [World.cell?_of_block (a := ⟨B, 0, none⟩) h]
theorem outOf_cell {W : World} {B : Nat} {v : Value} (h : W.cell? ⟨B, 0, none⟩ = some v) : outOf W B = v.ownBlock := by
  unfold outOf; rw [h]; rfl
theorem KeepO.later {B : Nat} {W W' : World} (h : Later W W') (hB : B < W.heap.size) : KeepO B W W' :=
  ⟨h.size, fun k o hk _ _ _ => (h.block k (Array.getElem?_eq_some_iff.1 hk).1).trans hk, fun r hr => .inl (by rw [← outOf_block (h.block B hB)]; exact hr)⟩
theorem KeepO.putObj {B l : Nat} {W : World} {o : Obj} (o' : Obj) (hl : W.heap[l]? = some o) (ho : o.isCells = false) (hB : B ≠ l) : KeepO B W (W.putObj l o') :=
  ⟨by simp [World.putObj], fun k x hk hx _ _ => (World.putObj_heap_other (fun e => by
    rw [e, hl] at hk
    injection hk with hk
    rw [hk, hx] at ho
    cases ho)).trans hk, fun r hr => .inl (by rw [← outOf_block (World.putObj_heap_other hB)]; exact hr)⟩
theorem KeepO.set {B : Nat} {W : World} {u v : Value} (hc : W.cell? ⟨B, 0, none⟩ = some u) (hv : v.ownBlock = none) : KeepO B W (W.setCell ⟨B, 0, none⟩ v) :=
  ⟨by simp, fun k o hk _ hne _ => (Below.heap_setCell _ _ _ k hne).trans hk, fun r hr => by
    rw [outOf_cell (cell_setCell_s hc), hv] at hr; cases hr⟩
theorem append_block {W w1 : World} {B k : Nat} {v v' : Value} {tmp : Obj} (hgrow : (W.alloc tmp).grownBy w1 v.ownBlock) (hk : k < W.heap.size) (hne : k ≠ B) (hr : v.ownBlock ≠ some k) :
    (w1.setCell ⟨B, 0, none⟩ v').heap[k]? = W.heap[k]? :=
  (Below.heap_setCell _ _ _ k hne).trans ((hgrow.block k (by simp; omega) (fun e => hr e.symm)).trans (Below.heap_alloc W tmp k hk))
theorem KeepO.append {B : Nat} {W w1 : World} {u v v' : Value} {tmp : Obj} (hv : W.cell? ⟨B, 0, none⟩ = some v) (hv1 : w1.cell? ⟨B, 0, none⟩ = some u) (hg : (W.alloc tmp).grownBy w1 v.ownBlock)
    (hat : v'.ownBlock = v.ownBlock ∨ v'.ownBlock = some (W.alloc tmp).heap.size) : KeepO B W (w1.setCell ⟨B, 0, none⟩ v') :=
  ⟨by have := hg.size; simp at this ⊢; omega, fun k o hk _ hne hn => (append_block hg (Array.getElem?_eq_some_iff.1 hk).1 hne (by rw [← outOf_cell hv]; exact hn)).trans hk, fun r hr => by
    rw [outOf_cell (cell_setCell_s hv1)] at hr
    rw [outOf_cell hv]
    rcases hat with e | e
    · exact .inl (by rw [← e]; exact hr)
    · rw [e] at hr
      injection hr with hr
      simp at hr
      exact .inr (by omega)⟩
theorem KeepO.cell {B b o : Nat} {W W' : World} {v : Value} (h : KeepO B W W') (hO : outOf W B = none) (hb : b ≠ B) (hc : W.cell? ⟨b, o, none⟩ = some v) : W'.cell? ⟨b, o, none⟩ = some v := by
  cases hh : W.heap[b]? with
  | none => simp [World.cell?, hh] at hc
  | some x =>
    have hx : x.isCells = true := by cases x <;> first | rfl | simp [World.cell?, hh] at hc
    have := h.block b x hh hx hb (by rw [hO]; simp)
    exact (World.cell?_of_block (a := ⟨b, o, none⟩) (this.trans hh.symm)).trans hc

theorem dealt_any (s : Scn) (a : Option Addr) (m c : Nat) (W : World) :
    Calls Tryz.prog 18 #[s.V, .slice a m c] W fun e w' => e = .returned (.func (.func 27) #[] #[wp W.heap.size, wp (W.heap.size + 1)]) ∧ w' = (W.alloc (.cells s.row.toArray 28)).alloc (.cells #[.slice a m c] 29) := by
  go_enter Tryz.func18, Tryz.ntmps18
  go_wp2
  go_ret
  exact ⟨rfl, rfl⟩
abbrev encd (I M : List Int) (i : Nat) : Array Value := #[.int .i64 (I.getD i 0), .int .i64 (ow M i)]
set_option maxRecDepth 100000 in
set_option maxHeartbeats 4000000 in
theorem dealt1_in (l S R B : Nat) (s : Scn) (M : List Int) (v : Value) (J Jx : List Nat → World → Prop) (W : World) (hs : s.Ok W) (hlen : s.os.length ≤ 1000000) (hv : IntsO W v M) (hMl : 0 < M.length ∧ M.length ≤ 1000000)
    (hJ : AbidesFrom W.heap.size J) (hB : B < W.heap.size) (hRB : R ≠ B) (hO : outOf W B = none) (hMB : ∀ g o s len cap, v = .slice (some ⟨g, o, s⟩) len cap → g ≠ B)
    (hS : ScnB W S s) (hR : W.heap[R]? = some (.cells #[v] 29 (0, 0)))
    (hY : ∀ pre (i : Nat) W1, i < s.os.length → J pre W1 → pre.length < s.os.length → YieldAt Fence.wide 2 Tryz.prog l (encd (srt (idL s)) M i) W1 fun e W' =>
      (e = .returned (.bool true) ∧ J (pre ++ [i]) W' ∧ KeepO B W1 W') ∨ (e = .returned (.bool false) ∧ Jx (pre ++ [i]) W'))
    (h0 : J [] W) :
    CallsIn Fence.wide 3 Tryz.prog 27 #[.func (.yield l) #[] #[], wp S, wp R] W fun e W' =>
      (∃ v, e = .returned v) ∧ ((∃ xs, xs = List.range s.os.length ∧ J xs W') ∨ (∃ pre, (∃ k, k < s.os.length ∧ pre = List.range (k + 1)) ∧ Jx pre W')) := by
  have HI := Lib.hid (ids_any s W hs hlen)
  have hIl := ids_length s
  obtain ⟨n, hn⟩ : ∃ n, Hid (s.os.length = n) := ⟨_, rfl⟩
  rw [hn.out] at hlen hY hIl ⊢
  obtain ⟨I, hI⟩ : ∃ I, Hid (srt (idL s) = I) := ⟨_, rfl⟩
  rw [hI.out] at HI hY hIl
  obtain ⟨ao, mc, rfl, hc⟩ := hv
  obtain ⟨m, hm⟩ : ∃ m, Hid (M.length = m) := ⟨_, rfl⟩
  rw [hm.out] at hc hMl hR hMB
  have hS2 : (Tryz.prog.info? 28).map (·.size) = some s.row.toArray.size := by rw [List.size_toArray]; exact size_scn s
  refine callsIn_of_wp Tryz.func27 rfl trivial ?_ rfl
  simp only [Tryz.ntmps27, List.size_toArray, List.length_cons, List.length_nil, Nat.reduceAdd, Nat.reduceSub, Array.replicate_succ, Array.replicate_zero, List.push_toArray, List.append_toArray, List.nil_append, List.cons_append]
  refine wpIn_wide.2 ?_
  go_wp2_with (refine wpList_load_row rfl _ _ rfl S rfl _ _ (0, 0) _ hS Tryz.underlying28 rfl hS2 ?_)
  refine HI.out.mono ?_
  rintro e w1 ⟨v2, rfl, hF, h1⟩
  obtain ⟨⟨bo, ic, rfl, hci⟩, hF2⟩ := hF
  have hcI : ∀ k, k < n → ∃ g, bo = some ⟨g, 0, none⟩ ∧ w1.cell? ⟨g, k, none⟩ = some (.int .i64 (I.getD k 0)) ∧ g ≠ B := fun k hk => by
    obtain ⟨g, e, h⟩ := hci k (by omega)
    have := hF2.1 g 0 none _ _ (by rw [e])
    exact ⟨g, e, h, by omega⟩
  have hO1 : outOf w1 B = none := (outOf_block (h1.block B hB)).trans hO
  have hB1 := h1.lt hB
  have hJ0 : J [] w1 := hJ [] _ _ none h0 h1.grown (fun _ e => by cases e)
  have cR := h1.cell (cell_1 hR)
  have hcM : ∀ j, j < m → ∃ g o, ao = some ⟨g, o, none⟩ ∧ w1.cell? ⟨g, o + j, none⟩ = some (.int .i64 (M.getD j 0)) ∧ g ≠ B := fun k hk => by
    obtain ⟨g, o, e, h⟩ := hc k (by omega)
    exact ⟨g, o, e, h1.cell h, hMB g o none _ _ (by rw [e])⟩
  rw [hIl]
  replace hcI := Lib.hid hcI
  replace hcM := Lib.hid hcM
  replace hO1 := Lib.hid hO1
  replace hIl := Lib.hid hIl
  clear hci hF2 hc hMB hS HI hS2 h0
  go_wp2_with fail
  go_loopw [9] (fun y wr => ∃ k : Nat, k ≤ n ∧ y = .int .i64 k ∧ J (List.range k) wr ∧ KeepO B w1 wr) (fun y _ => (2000000 - intOf y).toNat)
  case atStart => exact ⟨0, by omega, rfl, hJ0, KeepO.refl _ _⟩
  case round =>
    obtain ⟨k, hk, rfl, hJk, hbk⟩ := hrel
    obtain ⟨wo, rfl⟩ : ∃ wo : World, wo = wr := ⟨_, rfl⟩
    by_cases hkN : k < n
    · obtain ⟨g, rfl, ci, hgB⟩ := hcI.out k hkN
      replace ci := hbk.cell hO1.out hgB ci
      have cRo := hbk.cell hO1.out hRB cR
      obtain ⟨j, hj⟩ : ∃ j, Hid (k % m = j) := ⟨_, rfl⟩
      have hjm : j < m := by rw [← hj.out]; exact Nat.mod_lt _ hMl.1
      obtain ⟨g2, o2, rfl, cm, hg2B⟩ := hcM.out j hjm
      replace cm := hbk.cell hO1.out hg2B cm
      have htm : Int.tmod (k : Int) (m : Int) = (j : Int) := by rw [← hj.out]; rfl
      obtain ⟨x, hx⟩ : ∃ x, Hid (M.getD j 0 = x) := ⟨_, rfl⟩
      obtain ⟨z, hz⟩ : ∃ z, Hid (I.getD k 0 = z) := ⟨_, rfl⟩
      have hBo := Nat.lt_of_lt_of_le hB1 hbk.size
      have hJd : J (List.range k) wo.drew := hJ _ _ _ none hJk ⟨rfl, rfl, rfl, Nat.le_refl _, fun _ _ _ => rfl⟩ (fun _ e => by cases e)
      obtain ⟨fn, tmps, assign, body, hy, hRd⟩ := hY _ k wo.drew hkN hJd (by rw [List.length_range]; exact hkN)
      rw [show encd I M k = #[.int .i64 z, .int .i64 x] by unfold encd ow; rw [hm.out, hj.out, hx.out, hz.out]] at hy
      rw [hx.out] at cm
      rw [hz.out] at ci
      have hR2 := hRd.mono (R' := fun e W' => ∃ bb : Bool, e = .returned (.bool bb) ∧ (bb = true → J (List.range k ++ [k]) W' ∧ KeepO B wo.drew W') ∧ (bb = false → Jx (List.range k ++ [k]) W')) (by
          rintro e' W3 (⟨rfl, hJ3, hk3⟩ | ⟨rfl, hJx3⟩)
          · exact ⟨true, rfl, fun _ => ⟨hJ3, hk3⟩, fun h => absurd h (by simp)⟩
          · exact ⟨false, rfl, fun h => absurd h (by simp), fun _ => hJx3⟩)
      have hki : (k : Int) < n := by omega
      have hji : (j : Int) < m := by omega
      have hm0 : ((m : Int) == 0) = false := by simp; omega
      have hm1 : (0 : Int) < m := by omega
      have hkd : KeepO B wo wo.drew := KeepO.later ((Later.refl _).drew) hBo
      clear hj hx hz hJd hRd hn hm
      go_upto_region 3 with fail
      refine (wpIn_wide (n := 3)).1 ?_
      have hmx : Tryz.prog.follows .mixedOrders = true := by kernel_rfl
      gi_region_with_o (refine hR2.mono ?_; rintro e' W3 ⟨bb, rfl, hA, hB'⟩)
      clear hy hR2
      all_goals
        clear hY
        cases bb
        · have hBf := hB' rfl
          clear hA hB'
          gi_wp2
          go_wp2_with fail
          (try rw [Exit.noGoto_ret])
          refine bodyPost_ret (results_none rfl _ _ _) rfl ?_
          exact ⟨⟨_, rfl⟩, .inr ⟨_, ⟨k, hkN, rfl⟩, by rw [List.range_succ]; exact hBf⟩⟩
        · obtain ⟨hJ3, hk3⟩ := hA rfl
          clear hA hB'
          gi_wp2
          go_wp2_with fail
          go_roundw
          case rel => exact ⟨k + 1, by omega, by go_num, by rw [List.range_succ]; exact hJ3, hbk.trans (hkd.trans hk3)⟩
          case measure => simp [intOf]; omega
    · obtain rfl : k = n := by omega
      go_wp2_with fail
      (try rw [Exit.noGoto_normal])
      go_end0
      exact ⟨⟨_, rfl⟩, .inl ⟨_, rfl, hJk⟩⟩
theorem dealt_stops (S R B : Nat) (s : Scn) (M : List Int) (v : Value) (w0 : World) (hs : s.Ok w0) (hlen : s.os.length ≤ 1000000) (hv : IntsO w0 v M) (hMl : 0 < M.length ∧ M.length ≤ 1000000)
    (hB : B < w0.heap.size) (hRB : R ≠ B) (hO : outOf w0 B = none) (hMB : ∀ g o s len cap, v = .slice (some ⟨g, o, s⟩) len cap → g ≠ B)
    (hS : ScnB w0 S s) (hR : w0.heap[R]? = some (.cells #[v] 29 (0, 0))) :
    SeqStopsK Fence.wide 3 Tryz.prog 27 #[wp S, wp R] (encd (srt (idL s)) M) (KeepO B)
      (fun ys => ys = List.range s.os.length) (fun pre => ∃ k, k < s.os.length ∧ pre = List.range (k + 1)) s.os.length w0 := fun l J Jx W hW hJ hJx hY h0 => by
  have hl : Later w0 W := hW
  exact (dealt1_in l S R B s M v J Jx W (hs.later hl) hlen (hv.later hl) hMl hJ (hl.lt hB) hRB ((outOf_block (hl.block B hB)).trans hO) hMB (hl.row hS) (hl.row hR) (fun pre i W1 _ hj hlen' => hY pre i W1 hj hlen') h0).mono fun e W' h => h
end Go.Proofs.YtackbajbladhhaaGreat
namespace Go.Proofs.YtackbajbladhhaaGreat
open Go.RowKit Go.Shelf
set_option linter.unusedVariables false
set_option linter.unusedSimpArgs false
def lays107_ren : Go.Shelf.Ren := ⟨fun | 107 => 20 | 108 => 29 | n => n, fun | 28 => 29 | 3 => 3 | 4 => 4 | 0 => 0 | n => n, fun | n => n⟩
theorem lays107 : Go.Proofs.Lays.n107 Tryz.prog lays107_ren := {
  mixed := by kernel_rfl
  f107 := Tryz.func20.trans (congrArg some (by kernel_rfl))
  f108 := Tryz.func29.trans (congrArg some (by kernel_rfl))
  t0 := Tryz.underlying0
  a0 := Tryz.isAgg0
  z0 := Tryz.sizeOf0
  v0 := Tryz.zeroValue0
  t3 := Tryz.underlying3
  a3 := Tryz.isAgg3
  z3 := Tryz.sizeOf3
  v3 := Tryz.zeroValue3
  t4 := Tryz.underlying4
  a4 := Tryz.isAgg4
  z4 := Tryz.sizeOf4
  v4 := Tryz.zeroValue4
  t28 := Tryz.underlying29
  a28 := Tryz.isAgg29
  z28 := Tryz.sizeOf29
  v28 := Tryz.zeroValue29 }
open Go.Lib in
theorem slices_Contains_int (b off n c : Nat) (zs : List Int) (x : Int) (w : World) (hz : n ≤ zs.length) (hbig : n ≤ 9223372036854775807) (hc : ∀ j, j < zs.length → w.cell? ⟨b, off + j, none⟩ = some (.int .i64 (zs.getD j 0))) :
    Calls Tryz.prog 20 #[.slice (some ⟨b, off, none⟩) n c, .int .i64 x] w fun e w' => e = .returned (.bool ((zs.take n).contains x)) ∧ w' = w := Any.slices_Contains_int lays107 b off n c zs x w hz hbig hc
open Go.Lib in
theorem slices_Contains_int_empty (a : Option Addr) (c : Nat) (x : Int) (w : World) :
    Calls Tryz.prog 20 #[.slice a 0 c, .int .i64 x] w fun e w' => e = .returned (.bool false) ∧ w' = w := Any.slices_Contains_int_empty lays107 a c x w
attribute [local go_sem] Oper.semAt_some
theorem contains_any (v : Value) (M : List Int) (x : Int) (W : World) (hv : IntsO W v M) (hlen : M.length ≤ 1000000) (h0 : 0 < M.length) :
    Calls Tryz.prog 20 #[v, .int .i64 x] W fun e w' => e = .returned (.bool (M.contains x)) ∧ w' = W := by
  obtain ⟨ao, cap, rfl, hc⟩ := hv
  obtain ⟨g, o, rfl, _⟩ := hc 0 h0
  have := slices_Contains_int g o M.length cap M x W (Nat.le_refl _) (by omega) (fun j hj => by
    obtain ⟨g', o', e, h⟩ := hc j hj
    injection e with e
    injection e with e e2
    subst e
    subst e2
    first | exact h | (rw [List.getD_eq_getElem?_getD] at h; exact h))
  rw [List.take_length] at this
  exact this
set_option maxRecDepth 100000 in
theorem ints_same (u v : Value) (L : List Int) (W : World) (hu : IntsV W u L) (hv : IntsV W v L) (hL : L.length ≤ 1000000) :
    Calls Tryz.prog 14 #[u, v] W fun e w' => e = .returned (.bool true) ∧ Later W w' := by
  obtain ⟨ao, cap, rfl, hcu⟩ := hu
  obtain ⟨bo, cbp, rfl, hcv⟩ := hv
  obtain ⟨n, hn⟩ : ∃ n, Hid (L.length = n) := ⟨_, rfl⟩
  rw [hn.out] at hL
  have h1 : Hid (∀ k, k < n → ∃ g, ao = some ⟨g, 0, none⟩ ∧ W.cell? ⟨g, k, none⟩ = some (.int .i64 (L.getD k 0))) := Lib.hid (by rw [← hn.out]; exact hcu)
  have h2 : Hid (∀ k, k < n → ∃ g, bo = some ⟨g, 0, none⟩ ∧ W.cell? ⟨g, k, none⟩ = some (.int .i64 (L.getD k 0))) := Lib.hid (by rw [← hn.out]; exact hcv)
  rw [hn.out]
  clear hcu hcv
  go_enter Tryz.func14, Tryz.ntmps14
  go_wp2_with fail
  go_loopg [5] (n + 1) (fun g y wr => Later W wr ∧ ∃ (i : Nat), g = n + 1 - i ∧ i ≤ n ∧ y = .int .i64 i)
  case atStart => exact ⟨Later.refl _, 0, by omega, Nat.zero_le _, rfl⟩
  case round =>
    obtain ⟨hl, i, rfl, hin, rfl⟩ := hrel
    obtain ⟨wo, rfl⟩ : ∃ wo : World, wo = wr := ⟨_, rfl⟩
    by_cases hi : i < n
    · have hii : (i : Int) < (n : Int) := by omega
      obtain ⟨g, rfl, hc⟩ := h1.out i hi
      obtain ⟨g2, rfl, hc2⟩ := h2.out i hi
      obtain ⟨x, hx⟩ : ∃ x, Hid (L.getD i 0 = x) := ⟨_, rfl⟩
      rw [hx.out] at hc hc2
      replace hc := hl.cell hc
      replace hc2 := hl.cell hc2
      go_wp2_with fail
      go_quiet (fail)
      obtain ⟨w2, hw2⟩ : ∃ X, X = wo.drewN nq := ⟨_, rfl⟩
      have hl2 : Later W w2 := by rw [hw2]; exact hl.drewN _
      rw [← hw2]
      clear hw2
      go_wp2_with fail
      go_roundg (n - i)
      case measure => omega
      case rel => exact ⟨hl2, i + 1, by omega, by omega, by go_num⟩
    · obtain rfl : n = i := by omega
      have hii : ¬ (n : Int) < (n : Int) := by omega
      go_wp2_with fail
      go_ret
      exact ⟨rfl, hl⟩
end Go.Proofs.YtackbajbladhhaaGreat
namespace Go.Proofs.YtackbajbladhhaaGreat
open Go.RowKit Go.Shelf
set_option linter.unusedVariables false
set_option linter.unusedSimpArgs false
attribute [local go_sem] Oper.semAt_some

theorem IntsO.block_lt {W : World} {v : Value} {M : List Int} (h : IntsO W v M) (h0 : 0 < M.length) : ∀ g o s len cap, v = .slice (some ⟨g, o, s⟩) len cap → g < W.heap.size := by
  obtain ⟨ao, c, rfl, hc⟩ := h
  obtain ⟨g', o', rfl, hg⟩ := hc 0 h0
  intro g o s len cap e
  injection e with e
  injection e with e
  injection e with e
  subst e
  exact cell_lt hg
noncomputable def ownE (s : Scn) (M : List Int) (id : Int) : Int × Int :=
  if mayQ s M = true then (if ownQ (srt (idL s)) M id < 0 then (0, 80) else (ownQ (srt (idL s)) M id, 0)) else (0, 80)
theorem may_parts {s : Scn} {M : List Int} (h : mayQ s M = true) : memB M = true ∧ (wrongQ s).1 = 0 := by
  unfold mayQ at h
  simp only [Bool.and_eq_true, decide_eq_true_eq] at h
  exact h
/-- What is found among the first places. -/
theorem ownQ_found {I M : List Int} {k : Nat} {id : Int} (hk : k < I.length) (h : ∀ i, i < k → I.getD i 0 ≠ id) (he : I.getD k 0 = id) : ownQ I M id = ow M k := by
  have : plc I id = some k := by
    unfold plc
    rw [List.find?_range_eq_some]
    refine ⟨by simpa using he, List.mem_range.2 hk, fun j hj => ?_⟩
    have := h j hj
    simp only [Bool.not_eq_true', beq_eq_false_iff_ne]
    exact this
  unfold ownQ; rw [this]
theorem ownQ_none {I M : List Int} {id : Int} (h : ∀ i, i < I.length → I.getD i 0 ≠ id) : ownQ I M id = -1 := by
  unfold ownQ; rw [plc_none h]
theorem own_end {n : Nat} {s : Scn} {M : List Int} {id : Int} {W U : World} {D : Nat} {tmps : Array Value} {r k : Int} (hEq : ownE s M id = (r, k)) (hK : U.heap[D]? = some (.deferred (some []))) (uG : W.grownBy U none) (hD : W.heap.size ≤ D)
    (h6 : tmps.getD 6 undef = .int .i64 r) (h7 : tmps.getD 7 undef = .int .i64 k) :
    LeavesInM Fence.wide n Tryz.prog Tryz.f5 tmps (fun e w' => e = .returned (.tuple #[.int .i64 (ownE s M id).1, .int .i64 (ownE s M id).2]) ∧ Later W w') (defsOf [D]) .returning U := by
  refine leaves_all [D] U (fun E hE => by rw [List.mem_singleton.1 hE]; exact hK) (List.nodup_cons.2 ⟨by simp, List.nodup_nil⟩) (fun w' ht => ?_)
  refine ⟨.tuple #[.int .i64 r, .int .i64 k], ?_, by rw [hEq], ⟨ht.os.trans uG.os, ht.tape.trans uG.tape, ht.output.trans uG.output, by rw [ht.size]; exact uG.size, fun b hb' => (ht.block b (by simp; omega)).trans (uG.block b hb' (by simp))⟩⟩
  rw [Array.getD_eq_getD_getElem?] at h6 h7
  simp [results, Tryz.f5, h6, h7, asAddr, Sem.run_bind]
set_option maxRecDepth 100000 in
set_option maxHeartbeats 4000000 in
theorem owner_any (s : Scn) (M : List Int) (v : Value) (id : Int) (W : World) (hs : s.Ok W) (hv : IntsO W v M) :
    Calls Tryz.prog 5 #[s.V, v, .int .i64 id] W fun e w' => e = .returned (.tuple #[.int .i64 (ownE s M id).1, .int .i64 (ownE s M id).2]) ∧ Later W w' := by
  have hM := Lib.hid (fun V (h : Later W V) => may_any s v M V (hs.later h) (hv.later h))
  obtain ⟨b, hb⟩ : ∃ b, Hid (mayQ s M = b) := ⟨_, rfl⟩
  rw [hb.out] at hM
  have hv2 := hv
  obtain ⟨ao, mc, rfl, _⟩ := hv2
  obtain ⟨m, hm⟩ : ∃ m, Hid (M.length = m) := ⟨_, rfl⟩
  rw [hm.out] at hM hv ⊢
  replace hv := Lib.hid hv
  obtain ⟨X, hX⟩ : ∃ X, X = (W.alloc (.cells s.row.toArray 28)).alloc (.cells #[.int .i64 id] 3) := ⟨_, rfl⟩
  have hlX : Later W X := by rw [hX]; exact ((Later.refl W).alloc _).alloc _
  have kS : ScnB X W.heap.size s := by rw [hX]; exact push_one (heap_alloc_new _ _) _
  have kI : X.heap[W.heap.size + 1]? = some (.cells #[.int .i64 id] 3 (0, 0)) := by rw [hX]; exact push_new _ _ (by simp)
  have hXs : X.heap.size = W.heap.size + 2 := by rw [hX]; simp
  have hS2 : (Tryz.prog.info? 28).map (·.size) = some s.row.toArray.size := by rw [List.size_toArray]; exact size_scn s
  refine (callsIn_wide (n := 4)).1 ?_
  refine callsIn_of_wp_marks Tryz.func5 rfl trivial ?_ rfl
  simp only [Tryz.ntmps5, List.size_toArray, List.length_cons, List.length_nil, Nat.reduceAdd, Nat.reduceSub, Array.replicate_succ, Array.replicate_zero, List.push_toArray, List.append_toArray, List.nil_append, List.cons_append]
  refine wpIn_wide.2 ?_
  go_upto_region 1 with fail
  rw [← hX]
  clear hX
  go_step3
  go_wp2_with (refine wpList_load_row rfl _ _ rfl W.heap.size rfl _ _ (0, 0) _ kS Tryz.underlying28 rfl hS2 ?_)
  refine (hM.out _ hlX).mono ?_
  rintro e w1 ⟨rfl, h1⟩
  cases b
  · have hE : Hid (ownE s M id = (0, 80)) := Lib.hid (by unfold ownE; rw [hb.out]; rfl)
    go_wp2_with fail
    (try rw [Exit.noGoto_ret])
    refine ⟨.tuple #[.int .i64 0, .int .i64 80], ?_, ?_, hlX.trans h1⟩
    · simp only [results]; go_simp
    · rw [hE.out]
  · obtain ⟨hmem, hwr⟩ := may_parts hb.out
    have hmem2 := mem_may hmem
    have hos := (right_all hwr).1
    have hMl : 0 < m ∧ m ≤ 1000000 := by rw [← hm.out]; have := mem_length hmem; exact ⟨hmem2.1, by omega⟩
    replace hmem := Lib.hid hmem
    replace hwr := Lib.hid hwr
    go_upto_region 4 with fail
    obtain ⟨Y, hY⟩ : ∃ Y, Y = w1.alloc (.cells #[.int .i64 (-1)] 3) := ⟨_, rfl⟩
    have hlXY : Later X Y := by rw [hY]; exact h1.alloc _
    have yT : Y.heap[w1.heap.size]? = some (.cells #[.int .i64 (-1)] 3 (0, 0)) := by rw [hY]; exact heap_alloc_new _ _
    have yS := hlXY.row kS
    have yI := hlXY.row kI
    have hYs : Y.heap.size = w1.heap.size + 1 := by rw [hY]; simp
    have hX1 := h1.size
    rw [← hY]
    obtain ⟨N, hN⟩ : ∃ N, Hid (W.heap.size = N) := ⟨_, rfl⟩
    obtain ⟨P, hP⟩ : ∃ P, Hid (N + 1 = P) := ⟨_, rfl⟩
    obtain ⟨T, hT⟩ : ∃ T, Hid (w1.heap.size = T) := ⟨_, rfl⟩
    have hNW : W.heap.size ≤ N := Nat.le_of_eq hN.out
    have hPT : P < T := by have := hP.out; have := hN.out; have := hT.out; omega
    have hNP : N < P := by have := hP.out; omega
    have hTY : T < Y.heap.size := by have := hT.out; omega
    have hWT : W.heap.size ≤ T := by omega
    rw [hN.out] at yS yI ⊢
    rw [hP.out] at yI ⊢
    rw [hT.out] at yT ⊢
    have hlWY := hlX.trans hlXY
    clear hY hT hN hYs h1 kS kI hlXY hX1 hM hlX hXs
    refine wp_label ?_
    go_wp2_with (refine wpList_load_row rfl _ _ rfl N rfl _ _ (0, 0) _ yS Tryz.underlying28 rfl hS2 ?_)
    refine (dealt_any s ao m mc _).mono ?_
    rintro e Z1 ⟨rfl, rfl⟩
    obtain ⟨V, hV⟩ : ∃ V, V = (Y.alloc (.cells s.row.toArray 28)).alloc (.cells #[.slice ao m mc] 29) := ⟨_, rfl⟩
    have hlV : Later Y V := by rw [hV]; exact ((Later.refl Y).alloc _).alloc _
    have vS : ScnB V Y.heap.size s := by rw [hV]; exact push_one (heap_alloc_new _ _) _
    have vR : V.heap[Y.heap.size + 1]? = some (.cells #[.slice ao m mc] 29 (0, 0)) := by rw [hV]; exact push_new _ _ (by simp)
    have hVs : Y.heap.size + 1 < V.heap.size := by rw [hV]; simp
    have vT := hlV.row yT
    have vI := hlV.row yI
    have hlWV := hlWY.trans hlV
    rw [← hV]
    clear hV
    have HS := Lib.hid (dealt_stops Y.heap.size (Y.heap.size + 1) T s M _ V (hs.later hlWV) (by omega) (hv.out.later hlWV) (by rw [hm.out]; exact hMl) (by omega) (by omega) (by rw [outOf_cell (cell_1 vT)]; rfl)
      (fun g o st len cap e => by have := hv.out.block_lt hmem2.1 g o st len cap e; omega) vS vR)
    obtain ⟨S', hS'⟩ : ∃ S', Hid (Y.heap.size = S') := ⟨_, rfl⟩
    have hTS : T < S' := by have := hS'.out; omega
    have hSV : S' + 1 < V.heap.size := by have := hS'.out; omega
    rw [hS'.out] at HS ⊢
    clear vS vR hS' hVs
    obtain ⟨I, hI⟩ : ∃ I, Hid (srt (idL s) = I) := ⟨_, rfl⟩
    have hIl := ids_length s
    obtain ⟨n, hn⟩ : ∃ n, Hid (s.os.length = n) := ⟨_, rfl⟩
    rw [hI.out] at HS hIl
    rw [hn.out] at HS hIl hos
    have hEo : Hid (ownE s M id = if ownQ I M id < 0 then (0, 80) else (ownQ I M id, 0)) := Lib.hid (by unfold ownE; rw [if_pos hb.out, hI.out])
    replace hIl := Lib.hid hIl
    clear hI hn
    go_wp2_with fail
    refine (wpIn_wide (n := 4)).1 ?_
    refine wpIn_rangeFunc_ownG rfl (by omega) (gf := 27) (lb := #[wp S', wp (S' + 1)]) rfl trivial (enters_of Tryz.func27 (by kernel_rfl) rfl)
      HS.out KeepO.trans (fun W l o o' hl ho hc _ => KeepO.putObj o' ho hc (by omega)) (Below.refl _ _) (fun _ => rfl)
      (fun (pre : List Nat) U => (∀ i ∈ pre, I.getD i 0 ≠ id) ∧ U.heap[T]? = some (.cells #[.int .i64 (-1)] 3 (0, 0)) ∧ U.heap[P]? = some (.cells #[.int .i64 id] 3 (0, 0)) ∧ W.grownBy U none)
      (fun c pre U => c = .exit 0 ∧ (∃ (k : Nat) (pre' : List Nat), pre = pre' ++ [k] ∧ (∀ i ∈ pre', I.getD i 0 ≠ id) ∧ I.getD k 0 = id ∧ U.heap[T]? = some (.cells #[.int .i64 (ow M k)] 3 (0, 0))) ∧ W.grownBy U none)
      (OwnFrom.and (ownFrom_pure _ _) (OwnFrom.and (ownFrom_row (by omega)) (OwnFrom.and (ownFrom_row (by omega)) (ownFrom_none hlWV.size))))
      (fun c => OwnFrom.and (ownFrom_pure _ _) (OwnFrom.and (fun _ _ _ _ ⟨k, p, h1, h2, h3, h4⟩ hg hr => ⟨k, p, h1, h2, h3, cells_stand hg hr h4⟩) (ownFrom_none hlWV.size)))
      ⟨fun i hi => by simp at hi, vT, vI, hlWV.grown⟩
      (fun x => { tmps := #[s.V, .slice ao m mc, .int .i64 id, wp N, undef, wp P, .int .i64 0, .int .i64 0, wp T, .int .i64 (I.getD x 0), .int .i64 (ow M x), .agg s.row.toArray, .slice ao m mc, .bool true, .bool false, .agg s.row.toArray, .slice ao m mc, (.func (.func 27) #[] #[wp S', wp (S' + 1)]), .int .i64 (I.getD x 0), .int .i64 (ow M x), undef, undef, undef, undef, undef, undef, undef], defers := [] })
      ?assign ?body ?done ?stop
    case assign =>
      intro l x U K hK
      gi_wp2
      exact hK
    case body =>
      rintro l pre x U ⟨hpre, uT, uI, uG⟩ hlt
      have ui := cell_1 uI
      have ut := cell_1 uT
      have utf := fun k => frozen_r uT k
      have e1 := Lib.hid (keepsFrom_set (b := T) (o := 0) (v := .int .i64 (ow M x)) (KeepsFrom.refl V.heap.size U) (by omega))
      have e3 : Hid ((U.setCell ⟨T, 0, none⟩ (.int .i64 (ow M x))).heap[T]? = some (.cells #[.int .i64 (ow M x)] 3 (0, 0))) := Lib.hid (heap_setC uT)
      have e5 := Lib.hid (grown_none uG (grownBy_set U T 0 (.int .i64 (ow M x))) (fun r e => by cases e; omega))
      obtain ⟨z, hz⟩ : ∃ z, Hid (I.getD x 0 = z) := ⟨_, rfl⟩
      obtain ⟨y, hy⟩ : ∃ y, Hid (ow M x = y) := ⟨_, rfl⟩
      rw [hy.out] at e1 e3 e5
      rw [hz.out, hy.out]
      by_cases he : z = id
      · have hq : (z == id) = true := by simp [he]
        replace he := Lib.hid he
        gi_wp2_with fail
        exact ⟨e1.out, rfl, ⟨x, pre, rfl, hpre, by rw [hz.out]; exact he.out, by rw [hy.out]; exact e3.out⟩, e5.out⟩
      · have hq : (z == id) = false := by simp [he]
        replace he := Lib.hid he
        gi_wp2_with fail
        exact ⟨(KeepsOthers.refl _).from _, KeepO.refl _ _, fun i hi => by
          rcases List.mem_append.1 hi with h | h
          · exact hpre i h
          · rw [List.mem_singleton.1 h, hz.out]; exact he.out, uT, uI, uG⟩
    case done =>
      rintro D xs U hD hxs ⟨hpre, uT, uI, uG⟩ hK
      have ut := cell_1 uT
      have hEq : Hid (ownE s M id = (0, 80)) := Lib.hid (by
        rw [hEo.out, ownQ_none (fun i hi => hpre i (by rw [hxs]; exact List.mem_range.2 (by rw [← hIl.out]; exact hi)))]
        rfl)
      go_wp2_with fail
      (try rw [Exit.noGoto_ret])
      exact own_end hEq.out hK uG (by have := hlWV.size; omega) rfl rfl
    case stop =>
      rintro D c pre U hD hsp ⟨rfl, ⟨k, pre', hpe, hpre, hk, uT⟩, uG⟩ hK
      obtain ⟨k', hk', hL⟩ := hsp
      have hL2 : pre' = List.range k' ∧ k = k' := by
        rw [hpe, List.range_succ] at hL
        have h1 := List.append_inj' hL rfl
        exact ⟨h1.1, by simpa using h1.2⟩
      obtain ⟨rfl, rfl⟩ := hL2
      obtain ⟨y, hy⟩ : ∃ y, Hid (ow M k = y) := ⟨_, rfl⟩
      have hy0 := (ow_may hmem.out k).1
      have hEq : Hid (ownE s M id = (y, 0)) := Lib.hid (by
        rw [hEo.out, ownQ_found (by rw [hIl.out]; exact hk') (fun i hi => hpre i (List.mem_range.2 hi)) hk, if_neg (by omega), hy.out])
      rw [hy.out] at uT hy0
      have ut := cell_1 uT
      refine wpIn_wide.2 ?_
      go_wp2_with fail
      (try rw [Exit.noGoto_ret])
      exact own_end hEq.out hK uG (by have := hlWV.size; omega) rfl rfl
end Go.Proofs.YtackbajbladhhaaGreat
