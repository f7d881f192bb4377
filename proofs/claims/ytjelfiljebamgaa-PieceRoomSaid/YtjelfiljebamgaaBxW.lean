/-
  Chapter 21's theorem on room: the walk.
-/
import Derived.Test.YtjelfiljebamgaaBxX
import Derived.Test.YtjelfiljebamgaaPcJ
import Derived.Deep.DeepCutAuto
import Derived.Deep.RegionHeld3
namespace Go.Proofs.Ytjelfiljebamgaa
open Go.RowKit Go.Shelf Go.Maps
set_option linter.unusedVariables false
set_option linter.unusedSimpArgs false
attribute [local go_sem] Oper.semAt_some

def rowB (n : Nat) (f : Nat → Bool) : Array Value := ((List.range n).map fun k => Value.bool (f k)).toArray
theorem rowB_size (n : Nat) (f : Nat → Bool) : (rowB n f).size = n := by simp [rowB]
theorem rowB_get {n : Nat} (f : Nat → Bool) {k : Nat} (h : k < n) : (rowB n f)[k]? = some (.bool (f k)) := by
  simp [rowB, h]
def BRow (t : TypeId) (n : Nat) (W : World) (M : Nat) (f : Nat → Bool) : Prop := W.heap[M]? = some (.cells (rowB n f) t (0, 0))
theorem BRow.cell {t : TypeId} {n : Nat} {W : World} {M : Nat} {f : Nat → Bool} (h : BRow t n W M f) {k : Nat} (hk : k < n) : W.cell? ⟨M, k, none⟩ = some (.bool (f k)) := by
  rw [cell_of_row W M k _ _ _ h]; exact rowB_get f hk
theorem BRow.frozen {t : TypeId} {n : Nat} {W : World} {M : Nat} {f : Nat → Bool} (h : BRow t n W M f) (k : Nat) : W.frozen? ⟨M, k, none⟩ = false := by
  simp [World.frozen?, show W.heap[M]? = _ from h]
theorem BRow.lt {t : TypeId} {n : Nat} {W : World} {M : Nat} {f : Nat → Bool} (h : BRow t n W M f) : M < W.heap.size := (Array.getElem?_eq_some_iff.1 h).1
theorem BRow.later {t : TypeId} {n : Nat} {W W' : World} {M : Nat} {f : Nat → Bool} (h : BRow t n W M f) (hl : Later W W') : BRow t n W' M f := (hl.block M h.lt).trans h
theorem BRow.set {t : TypeId} {n : Nat} {W : World} {M : Nat} {f g : Nat → Bool} (h : BRow t n W M f) {k : Nat} (hk : k < n) (v : Bool) (hg : ∀ j, j < n → g j = if j = k then v else f j) : BRow t n (W.setCell ⟨M, k, none⟩ (.bool v)) M g := by
  obtain ⟨hlt, hb⟩ := Array.getElem?_eq_some_iff.1 h
  show (W.heap.modify M _)[M]? = _
  rw [Array.getElem?_eq_getElem (by rw [Array.size_modify]; exact hlt), Array.getElem_modify_self, hb]
  congr 1
  show Obj.cells ((rowB n f).setIfInBounds k _) _ _ = _
  congr 1
  apply Array.ext_getElem?
  intro i
  rw [Array.getElem?_setIfInBounds]
  by_cases hi : i < n
  · rw [rowB_get _ hi, rowB_get _ hi, rowB_size, hg i hi]
    by_cases e : k = i
    · subst e; simp [hk]
    · rw [if_neg e, if_neg (fun e' => e e'.symm)]
  · have e : ¬ k = i := by omega
    rw [if_neg e, Array.getElem?_eq_none (by rw [rowB_size]; omega), Array.getElem?_eq_none (by rw [rowB_size]; omega)]
theorem drop_st {w : World} {Q : Nat → Prop} {x : Nat} {r : Int} {M : Bx} (i : Nat) (hi : i < 18446744073709551616) (h : BxSt w Q x r M) {m : Msg} (hm : M i = some m) :
    Calls Try.prog 31 #[wp x, .int .u64 i] w fun e w' => e = .returned (.int .i64 0) ∧ BxSt w' Q x r (fun j => if j = i then none else M j) ∧ Hold Q w w' := by
  obtain ⟨S, T, hbx, hq⟩ := h
  refine (drop_any i x r M S T w hbx hi).mono ?_
  rintro e w' (⟨hn, -⟩ | ⟨m', hm', rfl, hb, hk⟩)
  · rw [hm] at hn; cases hn
  · exact ⟨rfl, ⟨S, T, hb, fun k hk' => ⟨(hq k hk').1, Nat.lt_of_lt_of_le (hq k hk').2.1 hk.size, (hq k hk').2.2⟩⟩, hk.mono (fun k _ hs hQ => (hq k hQ).1 hs)⟩
/-- The law's own list and the box. -/
def RmSt (W w : World) (Q : Nat → Prop) (ga x : Nat) (r : Int) (L1 L2 : List Nat) : Prop :=
  BRow 64 256 w ga (fun b => L1.contains b) ∧ BxSt w Q x r (rmB L2) ∧ Later W w ∧ W.heap.size ≤ ga ∧ Q ga ∧ ∀ k, k < W.heap.size → Q k
theorem RmSt.later {W w w' : World} {Q : Nat → Prop} {ga x : Nat} {r : Int} {L1 L2 : List Nat} (h : RmSt W w Q ga x r L1 L2) (hl : Later w w') : RmSt W w' Q ga x r L1 L2 := by
  obtain ⟨h1, h2, h3, h4⟩ := h
  exact ⟨h1.later hl, (h2.later hl).mono (fun k hk => .inl hk), h3.trans hl, h4⟩
theorem RmSt.hold {W w w' : World} {Q : Nat → Prop} {ga x : Nat} {r : Int} {L1 L2 L3 : List Nat} (h : RmSt W w Q ga x r L1 L2) (hk : Hold Q w w') (hb : BxSt w' Q x r (rmB L3)) : RmSt W w' Q ga x r L1 L3 := by
  obtain ⟨h1, h2, h3, h4, h5, h6⟩ := h
  exact ⟨hk.at_ h1 h5, hb, hk.below h3 h6, h4, h5, h6⟩
theorem RmSt.set {W w : World} {Q : Nat → Prop} {ga x : Nat} {r : Int} {L1 L2 L3 : List Nat} (h : RmSt W w Q ga x r L1 L2) {b : Nat} (hb : b < 256) (v : Bool) (hg : ∀ j, L3.contains j = if j = b then v else L1.contains j) : RmSt W (w.setCell ⟨ga, b, none⟩ (.bool v)) Q ga x r L3 L2 := by
  obtain ⟨h1, h2, h3, h4, h5, h6⟩ := h
  have hk : Keep (fun k => k = ga) w (w.setCell ⟨ga, b, none⟩ (.bool v)) := (Keep.refl (fun k => k = ga) w).setCell (p := ⟨ga, b, none⟩) (.inl rfl) _
  exact ⟨h1.set hb v (fun j _ => hg j), h2.other hk (fun k _ e => by rw [e]; exact h5), h3.setCell (p := ⟨ga, b, none⟩) h4 _, h4, h5, h6⟩
theorem RmSt.cell {W w : World} {Q : Nat → Prop} {ga x : Nat} {r : Int} {L1 L2 : List Nat} (h : RmSt W w Q ga x r L1 L2) {b : Nat} (hb : b < 256) : w.cell? ⟨ga, b, none⟩ = some (.bool (L1.contains b)) ∧ w.frozen? ⟨ga, b, none⟩ = false := ⟨h.1.cell hb, h.1.frozen b⟩
theorem byt_one {w : World} (b : Nat) (hb : b < 256) (fr : Nat × Nat) : BytV (w.alloc (.cells #[.int .u8 b] 5 fr)) (.slice (some ⟨w.heap.size, 0, none⟩) 1 1) [(b : Int)] := by
  refine ⟨fun y hy => ?_, _, _, rfl, ⟨Nat.le_refl _, fun e => by cases e⟩, fun k hk => ⟨_, 0, rfl, ?_⟩⟩
  · rw [List.mem_singleton] at hy
    omega
  · obtain rfl : k = 0 := by have : k < 1 := hk; omega
    rw [cell_of_row _ _ _ _ _ _ (heap_alloc_new w _)]; rfl
theorem zero_bools : Try.zeroCells64 = rowB 256 (fun b => ([] : List Nat).contains b) := by kernel_rfl
set_option maxRecDepth 100000 in
set_option maxHeartbeats 2000000 in
theorem room_any (z : Int) (v : Value) (Bs : List Int) (W : World) (hv : BytV W v Bs) (hz : 0 ≤ z ∧ z ≤ 255) :
    Calls Try.prog 6 #[.int .u8 z, v] W fun e w' => e = .returned (.bool true) ∧ Later W w' := by
  obtain ⟨hby, ao, cap, rfl, hcap, hv⟩ := hv
  obtain ⟨m, hm⟩ : ∃ k, Hid (Bs.length = k) := ⟨_, Lib.hid rfl⟩
  replace hv : Hid (∀ k, k < m → ∃ g o, ∃ b : Nat, b < 256 ∧ ao = some ⟨g, o, none⟩ ∧ W.cell? ⟨g, o + k, none⟩ = some (.int .u8 b)) := Lib.hid (fun k hk => by
    obtain ⟨g, o, h1, h2⟩ := hv k (by rw [hm.out]; exact hk)
    have hb := hby (Bs.getD k 0) (by
      have hk' : k < Bs.length := by rw [hm.out]; exact hk
      rw [List.getD_eq_getElem?_getD, List.getElem?_eq_getElem hk', Option.getD_some]
      exact List.getElem_mem hk')
    refine ⟨g, o, (Bs.getD k 0).toNat, by omega, h1, ?_⟩
    rw [h2, show (((Bs.getD k 0).toNat : Nat) : Int) = Bs.getD k 0 by omega])
  rw [hm.out]
  clear hby hcap
  obtain ⟨s0, hs0⟩ : ∃ s0 : Int, z.tmod 64 = s0 := ⟨_, rfl⟩
  have hs0b : 0 ≤ s0 ∧ s0 ≤ 63 := by
    rw [← hs0, Int.tmod_eq_emod_of_nonneg hz.1]
    omega
  obtain ⟨r, hr⟩ : ∃ r : Nat, Hid (1 + s0 = (r : Int)) := ⟨(1 + s0).toNat, Lib.hid (by omega)⟩
  have hrb : 1 ≤ r ∧ r ≤ 64 := by have := hr.out; omega
  go_enter Try.func6, Try.ntmps6
  go_wp2_with fail
  refine (alive_any _).mono ?_
  rintro e w1 ⟨rfl, h1⟩
  by_cases hm2 : ¬ m ≤ 200
  · have hd : (200 : Int) < (m : Int) := by omega
    go_wp2_with fail
    go_ret
    exact ⟨rfl, h1⟩
  rw [Classical.not_not] at hm2
  have hd : ¬ (200 : Int) < (m : Int) := by omega
  go_wp2_with fail
  rw [hr.out]
  refine (new_st r _ ⟨by omega, by omega⟩).mono ?_
  rintro e w2 ⟨x, rfl, hbx, h2⟩
  go_wp2_with fail
  obtain ⟨ga, hga⟩ : ∃ g, Hid (w2.heap.size = g) := ⟨_, Lib.hid rfl⟩
  obtain ⟨wa, hwa⟩ : ∃ w, w = w2.alloc (.cells Try.zeroCells64 64) := ⟨_, rfl⟩
  have h3 : Later w2 wa := by rw [hwa]; exact (Later.refl _).alloc _
  have hz3 : wa.heap.size = ga + 1 := by rw [hwa, ← hga.out]; exact Array.size_push _
  have hrow0 : BRow 64 256 wa ga (fun b => ([] : List Nat).contains b) := by
    rw [hwa, ← hga.out]
    show (w2.alloc _).heap[_]? = _
    rw [heap_alloc_new]
    exact congrArg (fun a => some (Obj.cells a _ (0, 0))) zero_bools
  rw [hga.out, ← hwa]
  have hla := Lib.hid ((h1.trans h2).trans h3)
  have hWga : W.heap.size ≤ ga := by rw [← hga.out]; exact (h1.trans h2).size
  obtain ⟨Q, hQ⟩ : ∃ Q : Nat → Prop, Hid (∀ k, Q k ↔ (k < w1.heap.size ∨ (w2.heap.size ≤ k ∧ k < wa.heap.size))) := ⟨_, Lib.hid (fun k => Iff.rfl)⟩
  have hgQ : Hid (Q ga) := Lib.hid ((hQ.out ga).2 (.inr ⟨Nat.le_of_eq hga.out, by omega⟩))
  have hWQ : Hid (∀ k, k < W.heap.size → Q k) := Lib.hid (fun k hk => (hQ.out k).2 (.inl (Nat.lt_of_lt_of_le hk h1.size)))
  have hb0 : Hid (BxSt wa Q x r (rmB [])) := Lib.hid ((hbx.later h3).mono (fun k hk => (hQ.out k).1 hk))
  have hst0 : Hid (RmSt W wa Q ga x r [] []) := Lib.hid ⟨hrow0, hb0.out, hla.out, hWga, hgQ.out, hWQ.out⟩
  clear hwa h3 hz3 h1 h2 hbx hQ hrow0 hb0 hla hWga hgQ hWQ
  go_loopg [10, 43] (m + 1) (fun gg y s wr => ∃ (k : Nat) (L : List Nat), gg = m + 1 - k ∧ k ≤ m ∧ y = .int .i64 (L.length : Nat) ∧ s = .int .i64 k ∧ Hid L.Nodup ∧ Hid (∀ i ∈ L, i < 256) ∧ L.length ≤ r ∧ Hid (RmSt W wr Q ga x r L L))
  case atStart => exact ⟨0, [], by omega, Nat.zero_le _, rfl, rfl, Lib.hid List.nodup_nil, Lib.hid (fun i hi => by cases hi), Nat.zero_le _, hst0⟩
  case round =>
    obtain ⟨k, L, rfl, hkm, rfl, rfl, hnd, hlt, hlr, hst⟩ := hrel
    by_cases hk : k < m
    · have hkk : (k : Int) < (m : Int) := by omega
      obtain ⟨g, o, b, hb, rfl, hc⟩ := hv.out k hk
      have hc0 := Lib.hid hc
      replace hc := hst.out.2.2.1.cell hc
      have hw64 : IntKind.u64.wrap (b : Int) = b := by
        show (b : Int) % 18446744073709551616 = b
        omega
      go_wp2_with fail
      have hal : Later wr (wr.alloc (.cells #[.int .u8 b] 5)) := (Later.refl _).alloc _
      have hmay : May (b : Int) 0 2 [(b : Int)].length := ⟨by omega, by omega, by omega, by omega, by omega, by show 1 ≤ 880; omega⟩
      have hwr := write_yes b 0 2 _ [(b : Int)] _ (byt_one (w := wr) b hb (0, 0)) hmay (by omega)
      have hpc := pc_of_wr hmay (by omega)
      have hEb := wrL_byt hmay (by omega) (fun y hy => by rw [List.mem_singleton] at hy; omega)
      have hEl : (wrL (b : Int) 0 2 [(b : Int)]).length ≤ 1000000 := Nat.le_trans (wrL_length hmay (by omega)) (by decide)
      obtain ⟨E, hE⟩ : ∃ E, Hid (wrL (b : Int) 0 2 [(b : Int)] = E) := ⟨_, Lib.hid rfl⟩
      rw [hE.out] at hwr hpc hEb hEl
      replace hpc : Hid (RdOk E ∧ pcOf E = rmP b) := Lib.hid hpc
      refine hwr.mono ?_
      rintro e w4 ⟨v4, rfl, hr4, h4⟩
      have hst4 := Lib.hid ((hst.out.later hal).later h4)
      have hb4 := Lib.hid (bytV_of_row hEb hr4).1
      obtain ⟨a4, q4, rfl⟩ := own_form hr4
      replace hc := h4.cell (hal.cell hc)
      obtain ⟨o4, f4⟩ := hst4.out.cell hb
      obtain ⟨c, hcc⟩ : ∃ c, Hid (L.contains b = c) := ⟨_, Lib.hid rfl⟩
      rw [hcc.out] at o4
      replace hEl := Lib.hid hEl
      replace hst := Lib.hid True.intro
      clear hr4 h4 hal hE hmay hEb hwr hst
      have hbi : (b : Int) < 256 := by omega
      have hb0' : 0 ≤ (b : Int) := by omega
      by_cases h32 : ((k : Int) % 3 == 2) = true
      · cases c with
        | true =>
          go_wp2_with fail
          refine (drop_st b (by omega) hst4.out.2.1 (rmB_in hcc.out)).mono ?_
          rintro e w5 ⟨rfl, hb5, hh5⟩
          rw [rmB_drop hnd.out] at hb5
          have hst5 := Lib.hid (hst4.out.hold hh5 hb5)
          obtain ⟨o5, f5⟩ := hst5.out.cell hb
          have c5 := hst5.out.2.2.1.cell hc0.out
          rw [hcc.out] at o5
          have hce : Hid (∀ j, (L.erase b).contains j = if j = b then false else L.contains j) := Lib.hid (fun j => by
            have hb' : (L.erase b).contains j = (L.contains j && !(j == b)) := by
              rw [Bool.eq_iff_iff, List.contains_iff_mem, hnd.out.mem_erase_iff, Bool.and_eq_true, List.contains_iff_mem]
              constructor
              · rintro ⟨h1, h2⟩; exact ⟨h2, by simpa using h1⟩
              · rintro ⟨h1, h2⟩; exact ⟨by simpa using h2, h1⟩
            rw [hb']
            by_cases e : j = b
            · subst e; simp
            · rw [if_neg e]; simp [e])
          have hel := Lib.hid (List.length_erase_of_mem (List.contains_iff_mem.1 hcc.out))
          have hpos := List.length_pos_of_mem (List.contains_iff_mem.1 hcc.out)
          obtain ⟨n9, hn9⟩ : ∃ n, Hid (L.length = n + 1) := ⟨L.length - 1, Lib.hid (by omega)⟩
          clear hh5 hb5 hst4 hb4 hc o4 f4
          go_wp2_with fail
          go_roundg (m - k)
          case measure => omega
          case rel => exact ⟨k + 1, L.erase b, by omega, by omega, by have := hel.out; go_num, by go_num, Lib.hid (hnd.out.erase b), Lib.hid (fun i hi => hlt.out i (List.mem_of_mem_erase hi)), by have := hel.out; omega, Lib.hid (hst5.out.set hb false hce.out)⟩
        | false =>
          go_wp2_with fail
          by_cases hfull : r ≤ L.length
          · refine (put_st hst4.out.2.1 hb4.out hEl.out hpc.out.1 hpc.out.2 (rmB_cnt hnd.out) (rmB_put_full hcc.out (by omega))).mono ?_
            rintro e w5 ⟨v5, rfl, hb5, hh5, -⟩
            have hst5 := Lib.hid (hst4.out.hold hh5 (hb5.mono (fun k hk => Or.inl hk)))
            obtain ⟨o5, f5⟩ := hst5.out.cell hb
            have c5 := hst5.out.2.2.1.cell hc0.out
            rw [hcc.out] at o5
            have hmn : ((L.length : Int) == (r : Int)) = true := by simp; omega
            clear hh5 hb5 hst4 hb4 hc o4 f4
            go_wp2_with fail
            refine (held_st hst5.out.2.1 (ks := L) hnd.out rmB_keys).mono ?_
            rintro e w7 ⟨rfl, h7⟩
            rw [rmB_sum L L (fun i hi => List.contains_iff_mem.2 hi)]
            have hst7 := Lib.hid (hst5.out.later h7)
            clear h7 hst5
            go_wp2_with fail
            go_roundg (m - k)
            case measure => omega
            case rel => exact ⟨k + 1, L, by omega, by omega, rfl, by go_num, hnd, hlt, hlr, hst7⟩
          · refine (put_st hst4.out.2.1 hb4.out hEl.out hpc.out.1 hpc.out.2 (rmB_cnt hnd.out) (rmB_put_new hcc.out (by omega))).mono ?_
            rintro e w5 ⟨v5, rfl, hb5, hh5, -⟩
            have hst5 := Lib.hid (hst4.out.hold hh5 (hb5.mono (fun k hk => Or.inl hk)))
            obtain ⟨o5, f5⟩ := hst5.out.cell hb
            have c5 := hst5.out.2.2.1.cell hc0.out
            rw [hcc.out] at o5
            have hmn : ((L.length : Int) == (r : Int)) = false := by simp; omega
            have hnd2 := Lib.hid (List.nodup_cons.2 ⟨(fun hm => by have := List.contains_iff_mem.2 hm; rw [hcc.out] at this; cases this), hnd.out⟩)
            have hst6 := Lib.hid (hst5.out.set hb true (L3 := b :: L) (fun j => by by_cases e : j = b <;> simp [e]))
            clear hh5 hb5 hst4 hb4 hc o4 f4
            go_wp2_with fail
            refine (held_st hst6.out.2.1 (ks := (b :: L)) hnd2.out rmB_keys).mono ?_
            rintro e w7 ⟨rfl, h7⟩
            rw [rmB_sum (b :: L) (b :: L) (fun i hi => List.contains_iff_mem.2 hi)]
            have hst7 := Lib.hid (hst6.out.later h7)
            clear h7 hst6
            go_wp2_with fail
            go_roundg (m - k)
            case measure => omega
            case rel => exact ⟨k + 1, b :: L, by omega, by omega, rfl, by go_num, hnd2, Lib.hid (fun i hi => by rcases List.mem_cons.1 hi with e | e; exact e ▸ hb; exact hlt.out i e), by rw [List.length_cons]; omega, hst7⟩
      · have h32' : ((k : Int) % 3 == 2) = false := by simpa using h32
        clear h32
        go_wp2_with fail
        cases c with
        | true =>
          refine (put_st hst4.out.2.1 hb4.out hEl.out hpc.out.1 hpc.out.2 (rmB_cnt hnd.out) (rmB_put_in hcc.out)).mono ?_
          rintro e w5 ⟨v5, rfl, hb5, hh5, -⟩
          have hst5 := Lib.hid (hst4.out.hold hh5 (hb5.mono (fun k hk => Or.inl hk)))
          obtain ⟨o5, f5⟩ := hst5.out.cell hb
          have c5 := hst5.out.2.2.1.cell hc0.out
          rw [hcc.out] at o5
          clear hh5 hb5 hst4 hb4 hc o4 f4
          go_wp2_with fail
          refine (held_st hst5.out.2.1 (ks := L) hnd.out rmB_keys).mono ?_
          rintro e w7 ⟨rfl, h7⟩
          rw [rmB_sum L L (fun i hi => List.contains_iff_mem.2 hi)]
          have hst7 := Lib.hid (hst5.out.later h7)
          clear h7 hst5
          go_wp2_with fail
          go_roundg (m - k)
          case measure => omega
          case rel => exact ⟨k + 1, L, by omega, by omega, rfl, by go_num, hnd, hlt, hlr, hst7⟩
        | false =>
          by_cases hfull : r ≤ L.length
          · refine (put_st hst4.out.2.1 hb4.out hEl.out hpc.out.1 hpc.out.2 (rmB_cnt hnd.out) (rmB_put_full hcc.out (by omega))).mono ?_
            rintro e w5 ⟨v5, rfl, hb5, hh5, -⟩
            have hst5 := Lib.hid (hst4.out.hold hh5 (hb5.mono (fun k hk => Or.inl hk)))
            obtain ⟨o5, f5⟩ := hst5.out.cell hb
            have c5 := hst5.out.2.2.1.cell hc0.out
            rw [hcc.out] at o5
            have hmn : ((L.length : Int) == (r : Int)) = true := by simp; omega
            clear hh5 hb5 hst4 hb4 hc o4 f4
            go_wp2_with fail
            refine (held_st hst5.out.2.1 (ks := L) hnd.out rmB_keys).mono ?_
            rintro e w7 ⟨rfl, h7⟩
            rw [rmB_sum L L (fun i hi => List.contains_iff_mem.2 hi)]
            have hst7 := Lib.hid (hst5.out.later h7)
            clear h7 hst5
            go_wp2_with fail
            go_roundg (m - k)
            case measure => omega
            case rel => exact ⟨k + 1, L, by omega, by omega, rfl, by go_num, hnd, hlt, hlr, hst7⟩
          · refine (put_st hst4.out.2.1 hb4.out hEl.out hpc.out.1 hpc.out.2 (rmB_cnt hnd.out) (rmB_put_new hcc.out (by omega))).mono ?_
            rintro e w5 ⟨v5, rfl, hb5, hh5, -⟩
            have hst5 := Lib.hid (hst4.out.hold hh5 (hb5.mono (fun k hk => Or.inl hk)))
            obtain ⟨o5, f5⟩ := hst5.out.cell hb
            have c5 := hst5.out.2.2.1.cell hc0.out
            rw [hcc.out] at o5
            have hmn : ((L.length : Int) == (r : Int)) = false := by simp; omega
            have hnd2 := Lib.hid (List.nodup_cons.2 ⟨(fun hm => by have := List.contains_iff_mem.2 hm; rw [hcc.out] at this; cases this), hnd.out⟩)
            have hst6 := Lib.hid (hst5.out.set hb true (L3 := b :: L) (fun j => by by_cases e : j = b <;> simp [e]))
            clear hh5 hb5 hst4 hb4 hc o4 f4
            go_wp2_with fail
            refine (held_st hst6.out.2.1 (ks := (b :: L)) hnd2.out rmB_keys).mono ?_
            rintro e w7 ⟨rfl, h7⟩
            rw [rmB_sum (b :: L) (b :: L) (fun i hi => List.contains_iff_mem.2 hi)]
            have hst7 := Lib.hid (hst6.out.later h7)
            clear h7 hst6
            go_wp2_with fail
            go_roundg (m - k)
            case measure => omega
            case rel => exact ⟨k + 1, b :: L, by omega, by omega, rfl, by go_num, hnd2, Lib.hid (fun i hi => by rcases List.mem_cons.1 hi with e | e; exact e ▸ hb; exact hlt.out i e), by rw [List.length_cons]; omega, hst7⟩
    · obtain rfl : m = k := by omega
      have hkk : ¬ (m : Int) < (m : Int) := by omega
      obtain ⟨i0, hi0, hz0, hz1, hz2⟩ := info_parts info_u64
      go_wp2_with fail
      rename World => wc
      obtain ⟨B, hB⟩ : ∃ B, Hid (wc.heap.size = B) := ⟨_, Lib.hid rfl⟩
      go_loopg [18, 142] (256 + 1) (fun gg y s wr => ∃ j : Nat, gg = 257 - j ∧ j ≤ 256 ∧ s = .int .i64 j ∧ Hid (wr.ownsRow B 22 1 y (wantL L j).length (encU64 (keyI (wantL L j)))) ∧ Hid (Later wc wr))
      case atStart => exact ⟨0, by omega, by omega, rfl, Lib.hid (World.ownsRow_nil _ _ _ _), Lib.hid (Later.refl _)⟩
      case round =>
        obtain ⟨j, rfl, hj, rfl, hrow, hl⟩ := hrel
        obtain ⟨ov, oc, rfl⟩ := own_form hrow.out
        by_cases hj2 : j < 256
        · have hjj : (j : Int) < 256 := by omega
          have hj0 : 0 ≤ (j : Int) := by omega
          have hw64 : IntKind.u64.wrap (j : Int) = j := by
            show (j : Int) % 18446744073709551616 = j
            omega
          obtain ⟨o5, f5⟩ := (hst.out.later hl.out).cell hj2
          cases hcc : L.contains j with
          | true =>
            rw [hcc] at o5
            have hml := wantL_le L j
            have hsz : B ≤ wr.heap.size := by rw [← hB.out]; exact hl.out.size
            have hmL : (wantL L j).length + 1 ≤ maxLen := Nat.le_trans (by omega : _ ≤ 5000) (by decide)
            have q1' := hrow.out.alloc (.cells #[.int .u64 j] 22)
            have hcc' := Lib.hid hcc
            have hla := Lib.hid (hl.out.alloc (.cells #[.int .u64 j] 22))
            clear hcc
            go_wp2_with (at_builtin; refine wpList_append_lies _ rfl _ _ 56 rfl B 22 i0 (.int .u64 0) 1 8 Try.underlying56 hi0 hz0 hz1 hz2 rfl (by decide) _ _ _ rfl q1' ⟨wr.heap.size, 0, none⟩ 1 1 [.int .u64 j] rfl rfl (World.news_of_block (heap_alloc_new _ _)) (fun u hu => by rw [List.mem_singleton] at hu; rw [hu]; rfl) (by omega) hmL (by omega) (by simp; omega) _ rfl ?_; intro ga' ca w3 hr3 hg3 _ _)
            go_roundg (256 - j)
            case measure => omega
            case rel =>
              refine ⟨j + 1, by omega, by omega, by go_num, ?_, Lib.hid (later_own hla.out q1' (by rw [hB.out]; exact Nat.le_refl _) hg3)⟩
              rw [wantL_yes hcc'.out, keyI_snoc, List.length_append]
              exact Lib.hid hr3
          | false =>
            rw [hcc] at o5
            have hcc' := Lib.hid hcc
            clear hcc
            go_wp2_with fail
            go_roundg (256 - j)
            case measure => omega
            case rel => exact ⟨j + 1, by omega, by omega, by go_num, by rw [wantL_no hcc'.out]; exact hrow, hl⟩
        · obtain rfl : j = 256 := by omega
          have hjj : ¬ ((256 : Nat) : Int) < 256 := by omega
          have hfin := want_open hnd.out hlt.out
          have hop := open_st2 ((hst.out.later hl.out)).2.1 hnd.out rmB_keys
          rw [hfin.1, hfin.2] at hop
          have hls := Lib.hid hl
          have hle2 : (wantL L 256).length ≤ r := by have := hfin.2; omega
          have hwl := wantL_le L 256
          have hkl := keyI_len (wantL L 256)
          have hrow2 := Lib.hid hrow.out
          have hst9 := Lib.hid (hst.out.later hl.out)
          go_wp2_with fail
          refine hop.mono ?_
          rintro e w3 ⟨v3, rfl, hr3, hl3⟩
          have hnum := Lib.hid (numbers_same v3 _ (keyI (wantL L 256)) _ _ w3 (by rw [hkl]; exact hr3) (by rw [hkl]; exact row_later hrow2.out hl3) (by rw [hkl]; omega))
          have hst10 := Lib.hid (hst9.out.later hl3)
          clear hr3 hl3 hrow2 hst9 hop hfin
          go_wp2_with fail
          refine hnum.out.mono ?_
          rintro e w4 ⟨rfl, hl4⟩
          go_wp2_with fail
          go_ret
          exact ⟨rfl, hst10.out.2.2.1.trans hl4⟩
end Go.Proofs.Ytjelfiljebamgaa
