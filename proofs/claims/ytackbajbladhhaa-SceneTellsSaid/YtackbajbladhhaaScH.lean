/-
  Chapter 6: which objects break a rule: the iterator.
-/
import Derived.Test.YtackbajbladhhaaScG
namespace Go.Proofs.Ytackbajbladhhaa
open Go.RowKit Go.Shelf
set_option linter.unusedVariables false
set_option linter.unusedSimpArgs false
attribute [local go_sem] Oper.semAt_some

theorem wpListIn_load_row {F : Fence} {n : Nat} {P : Program} {ops : Array Oper} {rest : List Oper} {o : Oper} {a : Act} {w : World} {Q : Exit → Act → World → Prop} (hgd : o.guard = none) (ty : TypeId) (x : Operand) (ho : o.op = .load ty x)
    (g : Nat) (hx : a.eval x = .pointer (some ⟨g, 0, none⟩)) (t : TypeId) (cs : Array Value) (fr : Nat × Nat) (d : TypeDesc) (hg : w.heap[g]? = some (.cells cs t fr))
    (hu : P.underlying ty = some d) (hd : (match d with | .struct _ | .array _ _ => true | _ => false) = true) (hi : (P.info? ty).map (·.size) = some cs.size)
    (h : wpListIn F n P ops Q rest (a.put o.dst (.agg cs)) w) : wpListIn F n P ops Q (o :: rest) a w := by
  refine wpListIn_plain hgd fun K hK' => ?_
  unfold Oper.wpIn
  refine ⟨?_, ?_⟩
  · simp [Oper.about, ho]
  · rw [Oper.semAt_plain F _ _ (by rw [ho]; intro c hc'; cases hc')]
    simp only [execOp, ho, hx, Instr.loadAt, Instr.sureAddr, Sem.run_bind, Sem.run_pure, Result.andThen_ok, run_loadVar_row w g t ty cs fr d hg hu hd hi]
    exact hK' _ _ h

/-- Does an object keep a rule? -/
noncomputable def keepsB (s : Scn) (k : Nat) (x : SObj) (r : Nat) : Bool :=
  if r = 4 then allIn 1 65535 [x.id] && !idIn (s.os.take k) x.id
  else if r = 5 then decide (Within 16777216 16 x.m)
  else if r = 6 then @decide (mulMay s.cam x.m ∧ Within 67108864 16 (mulQ s.cam x.m)) (Classical.propDecidable _)
  else if r = 7 then decide (x.vs.length ≤ 64) && nearAll x.vs
  else decide (x.ts.length ≤ 64) && triAll x.vs.length x.ts
theorem holds_any (s : Scn) (x : SObj) (k r : Nat) (W : World) (hs : s.Ok W) (hk : s.os[k]? = some x) (hlen : s.os.length ≤ 1000000) (hr : 4 ≤ r ∧ r ≤ 8) (hv : r = 8 → x.vs.length ≤ 1000000) :
    Calls Try.prog 73 #[s.V, .int .i64 k, x.V, .int .i64 r] W fun e w' => e = .returned (.bool (keepsB s k x r)) ∧ Later W w' := by
  have hx := hs.2 x (List.mem_of_getElem? hk)
  have hkl : k < s.os.length := (List.getElem?_eq_some_iff.1 hk).1
  rcases (show r = 4 ∨ r = 5 ∨ r = 6 ∨ r = 7 ∨ r = 8 by omega) with rfl | rfl | rfl | rfl | rfl
  · exact holds4_any s x k W hs hkl hlen
  · exact holds5_any s x k W
  · exact holds6_any s x k W _ (by unfold keepsB; simp)
  · exact holds7_any s x k W hx
  · exact holds8_any s x k W hx (hv rfl)
/-- The places of the first j objects that break a rule. -/
noncomputable def badL (s : Scn) (r : Nat) : Nat → List Nat
  | 0 => []
  | k + 1 => badL s r k ++ (match s.os[k]? with | some x => if keepsB s k x r = true then [] else [k] | none => [])
theorem badL_keep {s : Scn} {r k : Nat} {x : SObj} (h : s.os[k]? = some x) (hk : keepsB s k x r = true) : badL s r (k + 1) = badL s r k := by
  conv => lhs; unfold badL
  simp only [h, hk, if_true, List.append_nil]
theorem badL_bad {s : Scn} {r k : Nat} {x : SObj} (h : s.os[k]? = some x) (hk : keepsB s k x r = false) : badL s r (k + 1) = badL s r k ++ [k] := by
  conv => lhs; unfold badL
  simp only [h, hk, Bool.false_eq_true, if_false]
theorem badL_length (s : Scn) (r : Nat) : ∀ k, (badL s r k).length ≤ k
  | 0 => Nat.le_refl _
  | k + 1 => by
    have ih := badL_length s r k
    unfold badL
    rw [List.length_append]
    split
    · split
      · simp; omega
      · simp; omega
    · simp; omega
theorem keepS_lt {S : Nat → Prop} {W V : World} (h : KeepS S W V) {j : Nat} (hj : S j) (hl : j < W.heap.size) : j < V.heap.size :=
  (Array.getElem?_eq_some_iff.1 ((h j hj).trans (Array.getElem?_eq_getElem hl))).1
theorem SObj.row_one {w : World} {x : SObj} (h : x.Ok w) : ∀ v ∈ x.row, v.oneCell' = true := by
  obtain ⟨a, b, e1⟩ := h.1.form
  obtain ⟨c, d, e2⟩ := h.2.form
  intro v hv
  unfold SObj.row at hv
  rcases List.mem_cons.1 hv with rfl | hv
  · rfl
  · rcases List.mem_append.1 hv with hv | hv
    · obtain ⟨k, _, rfl⟩ := List.mem_map.1 hv
      rfl
    · rw [e1, e2] at hv
      simp at hv
      rcases hv with rfl | rfl <;> rfl
theorem broken_any (s : Scn) (r : Int) (W : World) :
    Calls Try.prog 57 #[s.V, .int .i64 r] W fun e w' => e = .returned (.func (.func 72) #[] #[wp W.heap.size, wp (W.heap.size + 1)]) ∧ w' = (W.alloc (.cells s.row.toArray 28)).alloc (.cells #[.int .i64 r] 3) := by
  go_enter Try.func57, Try.ntmps57
  go_wp2
  go_ret
  exact ⟨rfl, rfl⟩
set_option maxRecDepth 100000 in
set_option maxHeartbeats 4000000 in
theorem broken1_in (l S R : Nat) (s : Scn) (r : Nat) (Sx : Nat → Prop) (J Jx : List Nat → World → Prop) (W : World) (hlen : s.os.length ≤ 1000000) (hr : 4 ≤ r ∧ r ≤ 8) (hvl : r = 8 → ∀ x ∈ s.os, x.vs.length ≤ 1000000)
    (hJ : AbidesFrom W.heap.size J) (hSx : Sx S ∧ Sx R) (hSb : ∀ j, Sx j → j < W.heap.size) (hw0 : ∀ V, KeepS Sx W V → s.Ok V)
    (hY : ∀ pre (k : Nat) W1, k < s.os.length → J pre W1 → pre.length < s.os.length → YieldAt Fence.wide 2 Try.prog l #[.int .i64 k] W1 fun e W' =>
      (e = .returned (.bool true) ∧ J (pre ++ [k]) W' ∧ KeepS Sx W1 W') ∨ (e = .returned (.bool false) ∧ Jx (pre ++ [k]) W'))
    (hS : ScnB W S s) (hR : W.heap[R]? = some (.cells #[.int .i64 r] 3 (0, 0))) (h0 : J [] W) :
    CallsIn Fence.wide 3 Try.prog 72 #[.func (.yield l) #[] #[], wp S, wp R] W fun e W' =>
      (∃ v, e = .returned v) ∧ ((∃ xs, xs = badL s r s.os.length ∧ J xs W') ∨ (∃ pre, (∃ k x, s.os[k]? = some x ∧ keepsB s k x r = false ∧ pre = badL s r k ++ [k]) ∧ Jx pre W')) := by
  obtain ⟨ao, cap, hu⟩ := (hw0 W (KeepS.refl _ _)).1.form
  rw [List.length_map] at hu
  have so := hS.uo
  rw [hu] at so
  obtain ⟨n, hn⟩ : ∃ n, Hid (s.os.length = n) := ⟨_, rfl⟩
  have hu := Lib.hid hu
  rw [hn.out] at so hlen hY ⊢
  refine callsIn_of_wp Try.func72 rfl trivial ?_ rfl
  simp only [Try.ntmps72, List.size_toArray, List.length_cons, List.length_nil, Nat.reduceAdd, Nat.reduceSub, Array.replicate_succ, Array.replicate_zero, List.push_toArray, List.append_toArray, List.nil_append, List.cons_append]
  refine wpIn_wide.2 ?_
  go_wp2_with fail
  go_loopw [9] (fun y wr => ∃ k : Nat, k ≤ n ∧ y = .int .i64 k ∧ J (badL s r k) wr ∧ KeepS Sx W wr ) (fun y _ => (2000000 - intOf y).toNat)
  case atStart => exact ⟨0, by omega, rfl, h0, KeepS.refl _ _⟩
  case round =>
    obtain ⟨k, hk, rfl, hJk, hbk⟩ := hrel
    obtain ⟨wo, rfl⟩ : ∃ wo : World, wo = wr := ⟨_, rfl⟩
    by_cases hkN : k < n
    · have hkL : k < s.os.length := by rw [hn.out]; exact hkN
      obtain ⟨x, hx⟩ : ∃ x, Hid (s.os[k]? = some x) := ⟨_, Lib.hid (List.getElem?_eq_getElem hkL)⟩
      have hOk := hw0 wo hbk
      have hrv := hOk.1
      rw [hu.out] at hrv
      obtain ⟨g, o, rfl, hrg⟩ := hrv.at (k := k) (x := x.row) (by rw [List.getElem?_map, hx.out]; rfl)
      have hxs := size_obj x
      have hki : (k : Int) < n := by omega
      obtain ⟨X1, hX1⟩ : ∃ X, X = wo.alloc (.cells x.row.toArray 37) := ⟨_, rfl⟩
      have hl1 : Later wo X1 := by rw [hX1]; exact (Later.refl wo).alloc _
      have kX : ObjB X1 wo.heap.size x := by rw [hX1]; exact heap_alloc_new _ _
      have kS1 : ScnB X1 S s := hl1.row ((hbk S hSx.1).trans hS)
      have kR1 : X1.heap[R]? = some (.cells #[.int .i64 r] 3 (0, 0)) := hl1.row ((hbk R hSx.2).trans hR)
      have hSlt : ∀ j, Sx j → j < wo.heap.size := fun j hj => keepS_lt hbk hj (hSb j hj)
      have hb1 : KeepS Sx wo X1 := KeepS.later hl1 hSlt
      have hOk1 : s.Ok X1 := hw0 X1 (hbk.trans hb1)
      have hH := Lib.hid (fun V (hV : Later X1 V) => holds_any s x k r V (hOk1.later hV) hx.out (by rw [hn.out]; exact hlen) hr (fun e => hvl e x (List.mem_of_getElem? hx.out)))
      have hnew := heap_alloc_new wo (.cells #[.int .i64 0, .int .i64 0, .int .i64 0, .int .i64 0, .int .i64 0, .int .i64 0, .int .i64 0, .int .i64 0, .int .i64 0, .int .i64 0, .int .i64 0, .int .i64 0, .int .i64 0, .int .i64 0, .int .i64 0, .int .i64 0, .int .i64 0, .slice none 0 0, .slice none 0 0] 37)
      have hz2 : (#[.int .i64 0, .int .i64 0, .int .i64 0, .int .i64 0, .int .i64 0, .int .i64 0, .int .i64 0, .int .i64 0, .int .i64 0, .int .i64 0, .int .i64 0, .int .i64 0, .int .i64 0, .int .i64 0, .int .i64 0, .int .i64 0, .int .i64 0, .slice none 0 0, .slice none 0 0] : Array Value).size = x.row.toArray.size := by rw [show x.row.toArray.size = 19 from by rw [List.size_toArray, SObj.row_length]]; rfl
      have hz1 : x.row.toArray.all (·.oneCell') = true := all_oneCell_toArray (SObj.row_one (hOk.2 x (List.mem_of_getElem? hx.out)))
      have hxs2 : (Try.prog.info? 37).map (·.size) = some x.row.toArray.size := by rw [List.size_toArray]; exact hxs
      go_upto_region 3 with (first | refine wpList_load_mid rfl _ _ rfl g (o + k * 19) rfl x.row _ hrg Try.underlying37 rfl hxs ?_ | refine wpList_store_row rfl 37 _ _ rfl wo.heap.size x.row.toArray rfl rfl 37 #[.int .i64 0, .int .i64 0, .int .i64 0, .int .i64 0, .int .i64 0, .int .i64 0, .int .i64 0, .int .i64 0, .int .i64 0, .int .i64 0, .int .i64 0, .int .i64 0, .int .i64 0, .int .i64 0, .int .i64 0, .int .i64 0, .int .i64 0, .slice none 0 0, .slice none 0 0] hnew hxs2 hz2 hz1 ?_)
      rw [World.setRow_alloc_new, ← hX1]
      have hS2 : (Try.prog.info? 28).map (·.size) = some s.row.toArray.size := by rw [List.size_toArray]; exact size_scn s
      have cR1 := cell_1 kR1
      have hJ1 : J (badL s r k) X1 := hJ _ _ _ none hJk hl1.grown (fun _ e => by cases e)
      have hbk1 := hbk.trans hb1
      refine (wpIn_wide (n := 3)).1 ?_
      clear hX1 hnew hz2 hz1 hxs hxs2 hrg hl1 hJk hSlt hb1 hOk hOk1 hrv so
      gi_wp2_with (first | refine wpListIn_load_row rfl _ _ rfl S rfl _ _ (0, 0) _ kS1 Try.underlying28 rfl hS2 ?_ | refine wpListIn_load_row rfl _ _ rfl wo.heap.size rfl _ _ (0, 0) _ kX Try.underlying37 rfl (by rw [List.size_toArray]; exact size_obj x) ?_)
      refine ⟨trivial, ?_⟩
      refine (callsIn_wide.2 (hH.out _ (Later.refl _))).mono ?_
      rintro e w2 ⟨rfl, hl2⟩
      have hJ2 : J (badL s r k) w2 := hJ _ _ _ none hJ1 hl2.grown (fun _ e => by cases e)
      have hb2 : KeepS Sx W w2 := hbk1.trans (KeepS.later hl2 (fun j hj => keepS_lt hbk1 hj (hSb j hj)))
      obtain ⟨b, hb⟩ : ∃ b, Hid (keepsB s k x r = b) := ⟨_, rfl⟩
      rw [hb.out]
      cases b
      · have hol := Lib.hid (badL_bad hx.out hb.out)
        obtain ⟨fn, tmps, assign, body, hy, hR⟩ := hY _ k w2 hkN hJ2 (by have := badL_length s r k; omega)
        have hR2 := hR.mono (R' := fun e W' => ∃ bb : Bool, e = .returned (.bool bb) ∧ (bb = true → J (badL s r k ++ [k]) W' ∧ KeepS Sx w2 W') ∧ (bb = false → Jx (badL s r k ++ [k]) W')) (by
          rintro e' W3 (⟨rfl, hJ3, hk3⟩ | ⟨rfl, hJx3⟩)
          · exact ⟨true, rfl, fun _ => ⟨hJ3, hk3⟩, fun h => absurd h (by simp)⟩
          · exact ⟨false, rfl, fun h => absurd h (by simp), fun _ => hJx3⟩)
        clear hR hY hJ1 hbk1 hH
        gi_wp2_with (refine hR2.mono ?_; rintro e' W3 ⟨bb, rfl, hA, hB⟩; rcases bb with _ | _)
        · clear hy hR2
          have hBf := hB (by first | rfl | trivial)
          go_wp2_with fail
          (try rw [Exit.noGoto_ret])
          refine bodyPost_ret (results_none rfl _ _ _) rfl ?_
          exact ⟨⟨_, rfl⟩, .inr ⟨_, ⟨k, x, hx.out, hb.out, rfl⟩, hBf⟩⟩
        · clear hy hR2
          obtain ⟨hJ3, hk3⟩ := hA (by first | rfl | trivial)
          clear hA hB
          go_wp2_with fail
          go_roundw
          case rel => exact ⟨k + 1, by omega, by go_num, by rw [hol.out]; exact hJ3, hb2.trans hk3⟩
          case measure => simp [intOf]; omega
      · have hol := Lib.hid (badL_keep hx.out hb.out)
        clear hJ1 hbk1 hH
        gi_wp2_with fail
        refine ⟨fun f hf => (by cases hf), ?_⟩
        gi_wp2_with fail
        go_wp2_with fail
        go_roundw
        case rel => exact ⟨k + 1, by omega, by go_num, by rw [hol.out]; exact hJ2, hb2⟩
        case measure => simp [intOf]; omega
    · obtain rfl : k = n := by omega
      go_wp2_with fail
      (try rw [Exit.noGoto_normal])
      go_end0
      exact ⟨⟨_, rfl⟩, .inl ⟨_, rfl, hJk⟩⟩
end Go.Proofs.Ytackbajbladhhaa
