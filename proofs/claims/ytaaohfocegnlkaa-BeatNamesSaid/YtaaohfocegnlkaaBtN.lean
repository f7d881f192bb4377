/-
  BeatSets: for every input the law returns true.
-/
import Derived.Test.YtaaohfocegnlkaaBtM
namespace Go.Proofs.Ytaaohfocegnlkaa
open Go.RowKit Go.Shelf
set_option linter.unusedVariables false
set_option linter.unusedSimpArgs false
attribute [local go_sem] Oper.semAt_some

theorem cnt_snoc {T : List Int} {i : Nat} (hi : i < T.length) (x : Int) : (T.take (i + 1)).count x = (T.take i).count x + if T.getD i 0 = x then 1 else 0 := by
  rw [take_snocI hi, List.count_append, List.count_singleton]
  by_cases e : T.getD i 0 = x
  · rw [if_pos e, if_pos (show ((T.getD i 0) == x) = true from by rw [beq_iff_eq]; exact e)]
  · rw [if_neg e, if_neg (show ¬ ((T.getD i 0) == x) = true from by rw [beq_iff_eq]; exact e)]

theorem isAgg_int (W : World) : (isAgg 3).run Try.prog W = .ok false W := by
  unfold isAgg; rw [Sem.run_bind, run_underlying Try.underlying3 W]; rfl
theorem part_int (W : World) (xs : Array Value) (off : Nat) (v : Value) (h : xs[off]? = some v) : (part 3 xs off).run Try.prog W = .ok v W := by
  unfold part
  simp only [Sem.run_bind, isAgg_int, Result.andThen_ok, Bool.false_eq_true, if_false, h, Sem.run_pure]
theorem eqItems_self {P : Program} (D : Nat) (e : TypeId) (c : Nat) (xs : Array Value) (W : World) : ∀ is : List Nat, (∀ i ∈ is, ∃ a, (part e xs (i * c)).run P W = .ok a W ∧ (Op.equalIn D e a a).run P W = .ok true W) → (Op.eqItems D e c xs xs is).run P W = .ok true W
  | [], _ => by rw [Op.eqItems]; rfl
  | i :: is, h => by
    obtain ⟨a, h1, h2⟩ := h i (by simp)
    have ih := eqItems_self D e c xs W is (fun j hj => h j (by simp [hj]))
    rw [Op.eqItems]
    simp only [Sem.run_bind, h1, Result.andThen_ok, h2, Bool.not_true, Bool.false_eq_true, if_false]
    exact ih
theorem eq_row (d : Nat) (W : World) (xs : Array Value) (h : ∀ i, i < 6 → ∃ v, xs[i]? = some (.int .i64 v)) : (Op.equalIn (d + 2) 28 (.agg xs) (.agg xs)).run Try.prog W = .ok true W := by
  obtain ⟨i, hi⟩ : ∃ i, Try.prog.info? 3 = some i := by
    have : (Try.prog.info? 3).isSome = true := by kernel_rfl
    exact Option.isSome_iff_exists.1 this
  refine (run_equalIn_array W (d + 1) xs xs Try.underlying28 hi).trans ?_
  rw [cells_int]
  refine eqItems_self _ _ _ _ _ _ (fun j hj => ?_)
  obtain ⟨v, hv⟩ := h j (List.mem_range.1 hj)
  refine ⟨_, part_int W xs (j * 1) _ (by rw [Nat.mul_one]; exact hv), ?_⟩
  refine (run_equalIn_int W d 3 .i64 .i64 v v Try.underlying3).trans ?_
  rw [beq_self_eq_true]
theorem eq_six (w : World) : (Op.equalIn 10000 28 (.agg #[.int .i64 1, .int .i64 1, .int .i64 1, .int .i64 1, .int .i64 1, .int .i64 1]) (.agg #[.int .i64 1, .int .i64 1, .int .i64 1, .int .i64 1, .int .i64 1, .int .i64 1])).run Try.prog w = .ok true w :=
  eq_row 9998 w _ (fun i hi => ⟨1, by rcases (show i = 0 ∨ i = 1 ∨ i = 2 ∨ i = 3 ∨ i = 4 ∨ i = 5 by omega) with rfl | rfl | rfl | rfl | rfl | rfl <;> rfl⟩)
theorem wpList_neq {P : Program} {ops : Array Oper} {rest : List Oper} {o : Oper} {a : Act} {w : World} {Q : Exit → Act → World → Prop} (hgd : o.guard = none) (ty ty' : TypeId) (x y : Operand) (ho : o.op = .binOp .neq ty x y ty')
    (vx vy : Value) (hx : a.eval x = vx) (hy : a.eval y = vy) (v : Value) (he : (eqGuard .neq ty x y vx vy).run P w = .ok () w) (hr : (binOp .neq ty vx vy).run P w = .ok v w)
    (h : wpList P ops Q rest (a.put o.dst v) w) : wpList P ops Q (o :: rest) a w := by
  refine wpList_plain hgd fun K hK => ?_
  unfold Oper.wp execOp
  simp only [ho, hx, hy, Sem.run_bind, he, hr, Result.andThen_ok, Sem.run_pure]
  exact hK _ _ h
theorem neq_six (w : World) : (binOp .neq 28 (.agg #[.int .i64 1, .int .i64 1, .int .i64 1, .int .i64 1, .int .i64 1, .int .i64 1]) (.agg #[.int .i64 1, .int .i64 1, .int .i64 1, .int .i64 1, .int .i64 1, .int .i64 1])).run Try.prog w = .ok (.bool false) w := by
  rw [run_neq_struct, eq_six]; rfl
theorem build_six (w : World) : (Instr.build 28 #[(0, .int .i64 1), (1, .int .i64 1), (2, .int .i64 1), (3, .int .i64 1), (4, .int .i64 1), (5, .int .i64 1)]).run Try.prog w = .ok (.agg #[.int .i64 1, .int .i64 1, .int .i64 1, .int .i64 1, .int .i64 1, .int .i64 1]) w := by kernel_rfl
theorem wpList_build {P : Program} {ops : Array Oper} {rest : List Oper} {o : Oper} {a : Act} {w : World} {Q : Exit → Act → World → Prop} (hgd : o.guard = none) (t : TypeId) (parts : Array (Nat × Operand)) (ho : o.op = .build t parts)
    (v : Value) (hr : (Instr.build t (parts.map fun (i, x) => (i, a.eval x))).run P w = .ok v w) (h : wpList P ops Q rest (a.put o.dst v) w) : wpList P ops Q (o :: rest) a w := by
  refine wpList_plain hgd fun K hK => ?_
  unfold Oper.wp execOp
  simp only [ho, Sem.run_bind, hr, Result.andThen_ok, Sem.run_pure]
  exact hK _ _ h
theorem size_six : (Try.prog.info? 28).map (·.size) = some 6 := by kernel_rfl
theorem guard_six : Try.prog.eqGuardType Try.prog.depth 28 = false := by kernel_rfl
theorem IntsF.past {n M : Nat} {w0 w w' : World} {v : Value} {L : List Int} (h : IntsF n w0 v L) (hl : Later w0 w) (hg : w.grownBy w' (some M)) (hM : w0.heap.size ≤ M) : IntsF n w' v L := by
  obtain ⟨⟨ao, cap, rfl, hv⟩, hf⟩ := h
  refine ⟨⟨ao, cap, rfl, fun k hk => ?_⟩, hf⟩
  obtain ⟨g, rfl, hc⟩ := hv k hk
  have := cell_lt hc
  exact ⟨g, rfl, grown_cell hg (hl.cell hc) (by omega)⟩
theorem row_some {W : World} {base e k : Nat} {v : Value} {xs : List Value} (h : W.ownsRow base e 1 v k xs) (hn : v ≠ .slice none 0 0) : ∃ g cap n, Hid (k = n) ∧ v = .slice (some ⟨g, 0, none⟩) n cap := by
  rcases h.2 with ⟨h0, _⟩ | ⟨g, cap, cur, hv, _⟩
  · exact absurd h0 hn
  · exact ⟨g, cap, k, Lib.hid rfl, hv⟩
theorem later_row {X w w' : World} {base e k : Nat} {v : Value} {xs : List Value} (h : Later X w) (hr : w.ownsRow base e 1 v k xs) (hb : X.heap.size ≤ base) (hg : w.grownBy w' v.ownBlock) : Later X w' := by
  refine Later.of_grown (grown_none h.grown hg (fun r e' => ?_))
  rcases hr.2 with ⟨rfl, _⟩ | ⟨g, cap, cur, rfl, hb2, _⟩
  · simp [Value.ownBlock] at e'
  · obtain rfl : g = r := by simpa [Value.ownBlock] using e'
    omega
set_option maxRecDepth 100000 in
set_option maxHeartbeats 2000000 in
theorem beatSets_walk (p : Int) (L : List (Int × Int)) (nd : Int) (u : Value) (W : World) (hp : 0 ≤ p ∧ p ≤ 255) (hnd : 0 ≤ nd ∧ nd ≤ 255) (hu : OpsV W u L) :
    Calls Try.prog 3 #[.int .u8 p, u, .int .u8 nd] W fun e w' => e = .returned (.bool true) ∧ Later W w' := by
  obtain ⟨uo, ucap, rfl, hu'⟩ := id hu
  clear hu'
  obtain ⟨m, hm⟩ : ∃ n, Hid (L.length = n) := ⟨_, rfl⟩
  have hu := Lib.hid hu
  rw [hm.out] at hu ⊢
  obtain ⟨i0, hi0, hz0, hz1, hz2⟩ := info_parts info_int
  go_enter Try.func3, Try.ntmps3
  go_wp2_with fail
  refine (alive_any _).mono ?_
  rintro e w1 ⟨rfl, hl⟩
  by_cases hm2 : 200 < m
  · go_wp2_with fail
    go_ret
    exact ⟨rfl, hl⟩
  have HM := Lib.hid (fun w h => made_any p L (.slice uo m ucap) w hp (by rw [hm.out]; omega) h)
  obtain ⟨g, hgm⟩ : ∃ g, madeG p L = g := ⟨_, rfl⟩
  have m0 : g 0 = 2 := by rw [← hgm]; unfold madeG; rw [foldG_lo _ _ (by omega)]; rfl
  have m1 : g 1 = 6 := by rw [← hgm]; unfold madeG; rw [foldG_lo _ _ (by omega)]; rfl
  have m2 : 4 ≤ g 2 := by rw [← hgm]; unfold madeG; rw [foldG_lo _ _ (by omega)]; show 4 ≤ 4 + p % 20; omega
  rw [hgm] at HM
  clear hgm
  go_wp2_with fail
  refine (HM.out _ (hu.out.later hl)).mono ?_
  rintro e w2 ⟨b, rfl, hw, hb, hl2⟩
  have hWb : W.heap.size ≤ b := Nat.le_trans hl.size hb
  replace hl := hl.trans hl2
  clear HM hl2 hb
  go_wp2_with fail
  refine (suspects_f b g _ hw (by omega)).mono ?_
  rintro e w3 ⟨va, rfl, hva, hl3⟩
  have hbw := hw.lt
  replace hw : WB w3 b g := Row.later hw hl3
  replace hl := hl.trans hl3
  clear hl3
  go_wp2_with fail
  refine (alive_f b g _ hw (by omega)).mono ?_
  rintro e w4 ⟨vb, rfl, hvb, hl4⟩
  rw [alv_eq (by omega)] at hvb
  replace hw : WB w4 b g := Row.later hw hl4
  replace hl := hl.trans hl4
  replace hva := hva.later hl4
  clear hl4
  obtain ⟨A, hA⟩ : ∃ A, Hid (sus g = A) := ⟨_, rfl⟩
  obtain ⟨B, hB⟩ : ∃ A, Hid (alvL g = A) := ⟨_, rfl⟩
  have hAl : A.length ≤ 6 := by rw [← hA.out]; have : (sus g).length ≤ (g 1).toNat := sel_length _ _ _; omega
  have hBl : B.length ≤ 6 := by rw [← hB.out]; unfold alvL; rw [List.length_map]; exact Nat.le_trans (List.length_filter_le _ _) (by rw [List.length_range]; omega)
  rw [hA.out] at hva
  rw [hB.out] at hvb
  go_upto_region 7 with fail
  obtain ⟨X1, hX1⟩ : ∃ X, X = w4.alloc (.cells #[.int .i64 0, .int .i64 0, .int .i64 0, .int .i64 0, .int .i64 0, .int .i64 0] 28) := ⟨_, rfl⟩
  have hR : Row 28 6 X1 w4.heap.size (fun _ => 0) := by rw [hX1]; exact heap_alloc_new _ _
  have hX : Later w4 X1 := by rw [hX1]; exact (Later.refl _).alloc _
  obtain ⟨M, hM⟩ : ∃ M, Hid (w4.heap.size = M) := ⟨_, rfl⟩
  have hMs : Hid (X1.heap.size = M + 1) := by show X1.heap.size = M + 1; rw [hX1, ← hM.out]; simp
  rw [← hX1]
  have hbM : b < M := by have := hw.lt; have := hM.out; omega
  have hWM : W.heap.size ≤ M := by have := hl.size; have := hM.out; omega
  rw [hM.out] at hR ⊢
  replace hw : WB X1 b g := Row.later hw hX
  replace hl := hl.trans hX
  have hvaX : IntsF w2.heap.size (X1.alloc (.cells #[] 3)) va A := hva.later (hX.alloc _)
  have hvbX : IntsF w3.heap.size X1 vb B := hvb.later hX
  have hlX := hX
  have hw4M : w4.heap.size ≤ M := Nat.le_of_eq hM.out
  have hown : (X1.alloc (.cells #[] 3)).ownsRow X1.heap.size 3 1 (.slice (some ⟨X1.heap.size, 0, none⟩) 0 0) ([] : List Int).length (encI []) :=
    ⟨rfl, .inr ⟨_, _, _, rfl, Nat.le_refl _, heap_alloc_new _ _, Nat.le_refl _, by decide, rfl, rfl⟩⟩
  clear hX1 hX
  have hLa : Later X1 (X1.alloc (.cells #[] 3)) := (Later.refl _).alloc _
  go_wp2_with (first | (at_builtin; refine wpList_append_ints rfl _ _ rfl X1.heap.size _ [] rfl hown va rfl A _ hvaX (by simp; omega) (by simp) ?_; intro v1 w5 hr5 hg5 hn5; have hL5 := later_row hLa hown (Nat.le_refl _) hg5) | (at_builtin; refine wpList_append_ints rfl _ _ rfl X1.heap.size _ _ rfl hr5 vb rfl B w3.heap.size (hvbX.later hL5) (by simp; omega) hL5.size ?_; intro v2 w6 hr6 hg6 hn6; have hL6 := later_row hL5 hr5 (Nat.le_refl _) hg6; obtain ⟨gT, cT, n, hn, rfl⟩ := row_some hr6 (hn6 (hn5 (fun h => by cases h)))))
  have hTV := intsV_of_row hr6
  have hgT : M < gT := by
    rcases hr6.2 with ⟨h0, _⟩ | ⟨r, c1, c2, h0, hr, _⟩
    · cases h0
    · cases h0; have := hMs.out; omega
  have hTl : ([] ++ A ++ B).length ≤ 12 := by simp; omega
  have hTm : ∀ x : Int, x ∈ ([] ++ A ++ B : List Int) → ∃ k : Nat, k < 6 ∧ x = (k : Int) := by
    rw [List.nil_append, ← hA.out, ← hB.out]; exact fun x hx => in_six m1 hx
  have hT1 : ∀ k : Nat, k < 6 → ([] ++ A ++ B : List Int).count (k : Int) = 1 := by
    rw [List.nil_append, ← hA.out, ← hB.out]; exact fun k hk => once m1 hk
  obtain ⟨T, hT⟩ : ∃ T : List Int, ([] ++ A ++ B : List Int) = T := ⟨_, rfl⟩
  rw [hT] at hTV hTl hTm hT1 hn
  clear hT
  replace hR := Row.later hR hL6
  replace hw : WB w6 b g := Row.later hw hL6
  have hl46 := hlX.trans hL6
  clear hlX
  replace hl := hl.trans hL6
  obtain ⟨aoT, _, he, hTc⟩ := hTV
  obtain rfl : some ⟨gT, 0, none⟩ = aoT := by injection he
  clear he
  rw [hn.out] at hTl hTc
  have hTc := Lib.hid hTc
  have hTm := Lib.hid hTm
  have hT1 := Lib.hid hT1
  clear hr5 hr6 hg5 hg6 hn5 hn6 hL5 hL6 hLa hown hvaX hvbX hvb hMs
  as_aux_lemma =>
    go_loopw [44] (fun y wr => ∃ i : Nat, i ≤ n ∧ y = .int .i64 i ∧ Row 28 6 wr M (fun k => ((T.take i).count (k : Int) : Int)) ∧ w6.grownBy wr (some M)) (fun y _ => (5000 - intOf y).toNat)
    case atStart => exact ⟨0, by omega, rfl, hR.ext (fun k _ => by simp), World.grownBy.refl _ _⟩
    case round =>
      obtain ⟨i, hi, rfl, hr, hG⟩ := hrel
      obtain ⟨wo, rfl⟩ : ∃ wo : World, wo = wr := ⟨_, rfl⟩
      by_cases hin : i < n
      · have hiT : i < T.length := by rw [hn.out]; exact hin
        obtain ⟨g1, e1, tc⟩ := hTc.out i hin
        cases e1
        replace tc := grown_cell hG tc (by omega)
        obtain ⟨k, hk6, hk⟩ := hTm.out (T.getD i 0) (by rw [List.getD_eq_getElem?_getD, List.getElem?_eq_getElem hiT]; exact List.getElem_mem _)
        have hsn := fun x => cnt_snoc hiT x
        rw [hk] at tc
        rw [hk] at hsn
        have c0 := hr.cell (k := k) (by omega)
        have f0 := hr.frozen k
        obtain ⟨cn, hcn⟩ : ∃ cn, Hid ((T.take i).count (k : Int) = cn) := ⟨_, rfl⟩
        have hcb : cn ≤ 12 := by rw [← hcn.out]; have := List.count_le_length (a := (k : Int)) (l := T.take i); rw [List.length_take] at this; omega
        rw [hcn.out] at c0
        have hk5 : (k : Int) ≤ 5 := by omega
        have hkn : (k : Int) < 6 := by omega
        have hw1 : IntKind.i64.wrap ((cn : Int) + 1) = (cn : Int) + 1 := by rw [IntKind.wrap_i64]; omega
        replace hsn := Lib.hid hsn
        clear hk
        go_wp2_with fail
        go_roundw
        case rel =>
          refine ⟨i + 1, by omega, by go_num, (hr.set (k := k) (by omega) _).ext (fun j hj => ?_), grown_set hG⟩
          have h1 := hsn.out (j : Int)
          rw [h1]
          by_cases e : j = k
          · subst e; rw [if_pos rfl, if_pos rfl, hcn.out]; omega
          · rw [if_neg e, if_neg (fun h => e (by omega))]; omega
        case measure => simp [intOf]; omega
      · obtain rfl : i = n := by omega
        rw [List.take_of_length_le (Nat.le_of_eq hn.out)] at hr
        replace hr := hr.ext (g := fun _ => 1) (fun k hk => by have := hT1.out k hk; omega)
        have hS : wo.heap[M]? = some (.cells #[.int .i64 1, .int .i64 1, .int .i64 1, .int .i64 1, .int .i64 1, .int .i64 1] 28 (0, 0)) := hr
        replace hS := Lib.hid hS
        clear hr
        replace hw := hw.grown hG (by simp; omega)
        replace hva := hva.past hl46 hG hw4M
        clear hTm hTc hT1
        go_upto_region 14 with fail
        have hgq := fun x y => run_eqGuard_agg (P := Try.prog) wo .neq 28 x y #[.int .i64 1, .int .i64 1, .int .i64 1, .int .i64 1, .int .i64 1, .int .i64 1] #[.int .i64 1, .int .i64 1, .int .i64 1, .int .i64 1, .int .i64 1, .int .i64 1] guard_six
        have hnq := neq_six wo
        replace hgq := Lib.hid hgq
        replace hnq := Lib.hid hnq
        refine wp_region_lit ?_
        refine wpList_load_row rfl 28 _ rfl M rfl 28 _ (0, 0) _ hS.out Try.underlying28 rfl size_six ?_
        clear hS
        refine wpList_build rfl 28 _ rfl _ (by simp only [List.map_toArray, List.map_cons, List.map_nil]; exact build_six wo) ?_
        refine wpList_neq rfl 28 28 _ _ rfl (.agg #[.int .i64 1, .int .i64 1, .int .i64 1, .int .i64 1, .int .i64 1, .int .i64 1]) (.agg #[.int .i64 1, .int .i64 1, .int .i64 1, .int .i64 1, .int .i64 1, .int .i64 1]) rfl rfl (.bool false) (hgq.out _ _) hnq.out ?_
        clear hgq hnq
        obtain ⟨q, hq⟩ : ∃ q, Hid (nd % 6 = q) := ⟨_, rfl⟩
        have hq5 : 0 ≤ q ∧ q ≤ 5 := by rw [← hq.out]; omega
        have HH := Lib.hid (fun w h => heard_any b g q w h (by omega))
        have HQ := Lib.hid (fun w h => quiet_any b (hdG g q) q w h (by rw [hdG_lo g q (by omega)]; omega))
        have HS := Lib.hid (fun w h => suspects_any b (hdG g q) w h (by rw [hdG_lo g q (by omega)]; omega))
        have k1 := sus_hd m1 m0 m2 hq5
        have k2 := was_len m1 m0 m2 hq5
        obtain ⟨k3, k4, k5⟩ := qd_hd m1 m0 hq5
        rw [hA.out] at k1 k2
        rw [k2, k5] at HH
        rw [k3, k4] at HQ
        rw [k1] at HS
        obtain ⟨ee, hee⟩ : ∃ ee : Int, Hid ((if q = 2 then 230 else 0) = ee) := ⟨_, rfl⟩
        rw [hee.out] at HH
        clear k1 k2 k3 k4 k5
        as_aux_lemma =>
          go_wp2_with fail
          rw [hq.out]
          refine (HH.out _ hw).mono ?_
          rintro e w7 ⟨rfl, hw7, hg7⟩
          have hvc := hva.grown hg7 hbw
          have hl7 := grown_later (grown_later hl hG hWM) hg7 hWb
          clear HH hw hg7 hva hG
          obtain ⟨ao, cp, rfl, hvc⟩ := hvc
          obtain ⟨na, hna⟩ : ∃ na, Hid (A.length = na) := ⟨_, rfl⟩
          rw [hna.out] at hvc hAl ⊢
          replace hvc := Lib.hid hvc
          go_wp2_with fail
          go_loopw [17, 74] (fun o y wr => ∃ i : Nat, i ≤ na ∧ y = .int .i64 i ∧ wr.ownsRow w7.heap.size 3 1 o ((A.take i).filter (fun x => x != q)).length (encI ((A.take i).filter (fun x => x != q))) ∧ w7.grownBy wr none) (fun _ y _ => (5000 - intOf y).toNat)
          case atStart => exact ⟨0, by omega, rfl, World.ownsRow_nil _ _ _ _, World.grownBy.refl _ _⟩
          case round =>
            obtain ⟨j, hj, rfl, hrow, hG⟩ := hrel
            obtain ⟨wo, rfl⟩ : ∃ wo : World, wo = wr := ⟨_, rfl⟩
            by_cases hjn : j < na
            · have hjA : j < A.length := by rw [hna.out]; exact hjn
              obtain ⟨ga, rfl, ca⟩ := hvc.out j hjn
              replace ca := (Later.of_grown hG).cell ca
              obtain ⟨x, hx⟩ : ∃ x, A.getD j 0 = x := ⟨_, rfl⟩
              rw [hx] at ca
              have hts : A.take (j + 1) = A.take j ++ [x] := by rw [take_snocI hjA, hx]
              obtain ⟨F, hF⟩ : ∃ F, (A.take j).filter (fun x => x != q) = F := ⟨_, rfl⟩
              have hFl : F.length ≤ 6 := by rw [← hF]; exact Nat.le_trans (List.length_filter_le _ _) (by rw [List.length_take]; omega)
              have hfs : (A.take (j + 1)).filter (fun x => x != q) = F ++ (if x = q then [] else [x]) := by
                rw [hts, List.filter_append, hF]
                by_cases e : x = q
                · rw [if_pos e, List.filter_cons_of_neg (by simp [e])]; rfl
                · rw [if_neg e, List.filter_cons_of_pos (by simp [e])]; rfl
              rw [hF] at hrow
              clear hts hx hF
              by_cases e : x = q
              · rw [if_pos e, List.append_nil] at hfs
                have eb : (x == q) = true := by simp [e]
                go_wp2_with fail
                go_roundw
                case rel => exact ⟨j + 1, by omega, by go_num, by rw [hfs]; exact hrow, hG⟩
                case measure => simp [intOf]; omega
              · rw [if_neg e] at hfs
                have eb : (x == q) = false := by simp [e]
                have hML : 4096 < maxLen := by decide
                go_wp2_with (at_builtin; refine wpList_append_own _ rfl _ _ 26 rfl w7.heap.size 3 i0 (.int .i64 0) 1 8 Try.underlying26 hi0 hz0 hz1 hz2 rfl (by decide) _ _ _ rfl (hrow.alloc _) ⟨wo.heap.size, 0, none⟩ 1 1 [.int .i64 x] rfl rfl (World.news_of_block (heap_alloc_new _ _)) (by simp [Value.oneCell']) (by omega) (by omega) (by have := hG.size; simp; omega) ?_; intro v' w8 hown' hgrow _)
                go_roundw
                case rel =>
                  refine ⟨j + 1, by omega, by go_num, ?_, (later_row ((Later.of_grown hG).alloc _) (hrow.alloc _) (Nat.le_refl _) hgrow).grown⟩
                  rw [hfs]; unfold encI at hown' ⊢; rw [List.map_append, List.length_append]; exact hown'
                case measure => simp [intOf]; omega
            · obtain rfl : j = na := by omega
              rw [List.take_of_length_le (Nat.le_of_eq hna.out)] at hrow
              have hFV := intsV_of_row hrow
              obtain ⟨F, hF⟩ : ∃ F, A.filter (fun x => x != q) = F := ⟨_, rfl⟩
              have hFl : F.length ≤ 6 := by rw [← hF]; exact Nat.le_trans (List.length_filter_le _ _) (by rw [hna.out]; exact hAl)
              rw [hF] at hFV HS ⊢
              replace hw7 : WB wo b (hdG g q) := Row.later hw7 (Later.of_grown hG)
              replace hl7 := hl7.trans (Later.of_grown hG)
              clear hrow hG hF
              obtain ⟨ao2, cp2, e2, hv2⟩ := id hFV
              subst e2
              clear hv2
              obtain ⟨fl, hfl⟩ : ∃ n, Hid (F.length = n) := ⟨_, rfl⟩
              rw [hfl.out] at hFV hFl ⊢
              have hr2 : (q = 2 ∧ ee = 230 ∧ (q != 2) = false) ∨ (¬ q = 2 ∧ ee = 0 ∧ (q != 2) = true) := by
                rw [← hee.out]
                by_cases h : q = 2
                · exact .inl ⟨h, if_pos h, by simp [h]⟩
                · exact .inr ⟨h, if_neg h, by simp [h]⟩
              obtain ⟨t, ht⟩ : ∃ t, Hid (decide (fl < j) = t) := ⟨_, rfl⟩
              have ht2 : decide ((fl : Int) < (j : Int)) = t := by rw [← ht.out]; congr 1; exact propext ⟨fun h => by omega, fun h => by omega⟩
              have ht3 : decide (fl < j) = t := ht.out
              rw [ht.out]
              obtain ⟨z, hz⟩ : ∃ z, Hid ((q != 2) = z) := ⟨_, rfl⟩
              rw [hz.out] at hr2 HQ
              have HI := Lib.hid (fun v u W h1 h2 => same_ints v u F W h1 h2 (by rw [hfl.out]; omega))
              clear hee
              rcases hr2 with ⟨r1, rfl, rfl⟩ | ⟨r1, rfl, rfl⟩
              · subst r1
                go_wp2_with fail
                refine (HQ.out _ hw7).mono ?_
                rintro e w9 ⟨rfl, hl9⟩
                replace hw7 : WB w9 b (hdG g 2) := Row.later hw7 hl9
                replace hFV := hFV.later hl9
                replace hl7 := hl7.trans hl9
                go_wp2_with fail
                refine (HS.out _ hw7).mono ?_
                rintro e w10 ⟨v10, rfl, hs10, hl10⟩
                replace hFV := hFV.later hl10
                replace hl7 := hl7.trans hl10
                go_wp2_with fail
                refine (HI.out _ _ _ hs10 hFV).mono ?_
                rintro e w11 ⟨rfl, hl11⟩
                go_wp2_with fail
                go_ret
                exact ⟨rfl, hl7.trans hl11⟩
              · have r2 : (q == 2) = false := by simp [r1]
                go_wp2_with fail
                refine (HQ.out _ hw7).mono ?_
                rintro e w9 ⟨rfl, hl9⟩
                replace hw7 : WB w9 b (hdG g q) := Row.later hw7 hl9
                replace hFV := hFV.later hl9
                replace hl7 := hl7.trans hl9
                go_wp2_with fail
                refine (HS.out _ hw7).mono ?_
                rintro e w10 ⟨v10, rfl, hs10, hl10⟩
                replace hFV := hFV.later hl10
                replace hl7 := hl7.trans hl10
                go_wp2_with fail
                refine (HI.out _ _ _ hs10 hFV).mono ?_
                rintro e w11 ⟨rfl, hl11⟩
                go_wp2_with fail
                go_ret
                exact ⟨by first | rfl | (show Ending.returned (.bool (q != 2)) = .returned (.bool true); rw [show (q != 2) = true from by simp [r1]]), hl7.trans hl11⟩
end Go.Proofs.Ytaaohfocegnlkaa
