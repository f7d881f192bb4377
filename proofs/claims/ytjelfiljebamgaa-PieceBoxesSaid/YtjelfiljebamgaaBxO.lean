/-
  Chapter 21's examples: a box of one message, plainly; zeros in memory; two lists of ints.
-/
import Derived.Test.YtjelfiljebamgaaBxK1
import Derived.Test.YtjelfiljebamgaaPcJ
namespace Go.Proofs.Ytjelfiljebamgaa
open Go.RowKit Go.Shelf Go.Maps
set_option linter.unusedVariables false
set_option linter.unusedSimpArgs false
attribute [local go_sem] Oper.semAt_some

def one (m : Msg) : Bx := fun i => if i = 5 then some m else none
def mA : Msg := ⟨[none, none, some [101]], 2, 1⟩
def mB : Msg := ⟨[some [97, 98], none, some [101]], 1, 3⟩
theorem cnt_none : Cnt (fun _ => none) 0 := ⟨[], List.nodup_nil, rfl, fun i => by simp⟩
theorem cnt_one (m : Msg) : Cnt (one m) 1 := ⟨[5], by simp, rfl, fun i => by unfold one; by_cases h : i = 5 <;> simp [h]⟩
theorem one_put (m m' : Msg) : (fun i => if i = 5 then some m' else one m i) = one m' := by
  funext i
  unfold one
  by_cases h : i = 5 <;> simp [h]
theorem one_gone (m : Msg) : (fun i => if i = 5 then none else one m i) = fun _ => none := by
  funext i
  unfold one
  by_cases h : i = 5 <;> simp [h]
theorem put1 : pput (fun _ => none) 0 1 ⟨5, 2, 3, [101]⟩ = ([], false, 0, one mA) := rfl
theorem put2 : pput (one mA) 1 1 ⟨5, 0, 3, [97, 98]⟩ = ([], false, 0, one mB) := by
  rw [← one_put mA mB]; rfl
theorem put3 : pput (one mB) 1 1 ⟨5, 0, 3, [97, 98]⟩ = ([], false, 0, one mB) := rfl
theorem put4 : pput (one mB) 1 1 ⟨5, 0, 2, [97]⟩ = ([], false, 211, one mB) := rfl
theorem put5 : pput (one mB) 1 1 ⟨5, 0, 3, [97]⟩ = ([], false, 211, one mB) := rfl
theorem put6 : pput (one mB) 1 1 ⟨6, 0, 3, [97]⟩ = ([], false, 212, one mB) := rfl
theorem put7 : pput (one mB) 1 1 ⟨5, 1, 3, [99, 100]⟩ = ([97, 98, 99, 100, 101], true, 0, fun _ => none) := by
  rw [← one_gone mB]; rfl
theorem miss1 : missB (one mA) 5 = [0, 1] := rfl
theorem one_held {w : World} {Q : Nat → Prop} {x : Nat} {r : Int} (h : BxSt w Q x r (one mB)) :
    Calls Try.prog 26 #[wp x] w fun e w' => e = .returned (.int .i64 3) ∧ Later w w' :=
  held_st h (ks := [5]) (by simp) (fun i => by unfold one; by_cases h : i = 5 <;> simp [h])
/-- A piece's bytes, by its numbers. -/
theorem rd_pc {b : List Int} {id at_ of : Int} {D : List Int} (hb : wrL id at_ of D = b) (h : May id at_ of D.length) (hid : 0 ≤ id) : RdOk b ∧ pcOf b = ⟨id.toNat, at_.toNat, of.toNat, D⟩ := hb ▸ pc_of_wr h hid
theorem rdA : RdOk [5, 2, 2, 1, 101] ∧ pcOf [5, 2, 2, 1, 101] = ⟨5, 2, 3, [101]⟩ := rd_pc (id := 5) (at_ := 2) (of := 3) (D := [101]) (by decide) (by unfold May; decide) (by decide)
theorem rdB : RdOk [5, 2, 0, 2, 97, 98] ∧ pcOf [5, 2, 0, 2, 97, 98] = ⟨5, 0, 3, [97, 98]⟩ := rd_pc (id := 5) (at_ := 0) (of := 3) (D := [97, 98]) (by decide) (by unfold May; decide) (by decide)
theorem rdC : RdOk [5, 1, 0, 1, 97] ∧ pcOf [5, 1, 0, 1, 97] = ⟨5, 0, 2, [97]⟩ := rd_pc (id := 5) (at_ := 0) (of := 2) (D := [97]) (by decide) (by unfold May; decide) (by decide)
theorem rdD : RdOk [5, 2, 0, 1, 97] ∧ pcOf [5, 2, 0, 1, 97] = ⟨5, 0, 3, [97]⟩ := rd_pc (id := 5) (at_ := 0) (of := 3) (D := [97]) (by decide) (by unfold May; decide) (by decide)
theorem rdE : RdOk [6, 2, 0, 1, 97] ∧ pcOf [6, 2, 0, 1, 97] = ⟨6, 0, 3, [97]⟩ := rd_pc (id := 6) (at_ := 0) (of := 3) (D := [97]) (by decide) (by unfold May; decide) (by decide)
theorem rdF : RdOk [5, 2, 1, 2, 99, 100] ∧ pcOf [5, 2, 1, 2, 99, 100] = ⟨5, 1, 3, [99, 100]⟩ := rd_pc (id := 5) (at_ := 1) (of := 3) (D := [99, 100]) (by decide) (by unfold May; decide) (by decide)
theorem rdBad : ¬ RdOk [5, 2, 3, 0] := by
  intro h
  have h1 := h.2
  unfold May at h1
  have e : ((rd3 [5, 2, 3, 0]).1 : Int) < ((rd2 [5, 2, 3, 0]).1 : Int) + 1 := h1.2.2.2.2.1
  revert e
  decide
theorem threeB : ∀ D ∈ threeL, Byt D := by
  intro D hD x hx
  have : ∀ D ∈ threeL, ∀ x ∈ D, 0 ≤ x ∧ x < 256 := by decide
  exact this D hD x hx
/-- New bytes, all 0. -/
theorem make_zero (n : Nat) (hn : n ≤ 200000) : ∃ Z : Array Value, (∀ w, (Instr.makeSlice 23 (.int .i64 n) (.int .i64 n)).run Try.prog w = .ok (.slice (some ⟨w.heap.size, 0, none⟩) n n) (w.alloc (.cells Z 5))) ∧
    ∀ w : World, BytV (w.alloc (.cells Z 5)) (.slice (some ⟨w.heap.size, 0, none⟩) n n) (List.replicate n 0) := by
  obtain ⟨i0, hi, hz0, hz1, hz2⟩ := info_parts info_u8
  refine ⟨madeCells (Value.int .u8 0).cells n, fun w => ?_, fun w => ?_⟩
  · have h := run_make (P := Try.prog) w 23 5 i0 (.int .u8 0) Try.underlying23 hi hz0 .i64 .i64 n n (by omega) (Int.le_refl _) (by rw [hz2]; omega) (by omega)
    rw [hz1, Nat.mul_one, Int.toNat_natCast] at h
    exact h
  · refine ⟨fun x hx => ?_, some ⟨w.heap.size, 0, none⟩, n, by rw [List.length_replicate], ⟨by rw [List.length_replicate]; exact Nat.le_refl _, fun e => by cases e⟩, fun k hk => ⟨_, 0, rfl, ?_⟩⟩
    · have := List.eq_of_mem_replicate hx
      omega
    · rw [List.length_replicate] at hk
      rw [Nat.zero_add, World.cell?_alloc_new]
      have e : (List.replicate n (0 : Int)).getD k 0 = 0 := by
        rw [List.getD_eq_getElem?_getD, List.getElem?_replicate]; split <;> rfl
      rw [e]
      simp [madeCells, Value.cells, hk, Nat.mod_one]
/-- Numbers in memory. -/
def NumV (w : World) (v : Value) (L : List Nat) : Prop := ∃ ao cap, v = .slice ao L.length cap ∧ ∀ k, k < L.length → ∃ g, ao = some ⟨g, 0, none⟩ ∧ w.cell? ⟨g, k, none⟩ = some (.int .i64 (L.getD k 0 : Nat))
theorem numV_of {w : World} {base : Nat} {v : Value} {L : List Nat} (h : w.ownsRow base 3 1 v L.length (encN L)) : NumV w v L := by
  rcases h.2 with ⟨rfl, h0⟩ | ⟨g, cap, cur, rfl, _⟩
  · exact ⟨none, 0, by rw [h0], fun k hk => by omega⟩
  · refine ⟨some ⟨g, 0, none⟩, cap, rfl, fun k hk => ⟨g, rfl, ?_⟩⟩
    refine (h.cellAt k (by omega)).trans ?_
    unfold encN
    rw [List.getElem?_map, List.getElem?_eq_getElem hk, List.getD_eq_getElem?_getD, List.getElem?_eq_getElem hk]; rfl
theorem NumV.later {w w' : World} {v : Value} {L : List Nat} (h : NumV w v L) (hl : Later w w') : NumV w' v L := by
  obtain ⟨ao, cap, rfl, hv⟩ := h
  exact ⟨ao, cap, rfl, fun k hk => by obtain ⟨g, e, hc⟩ := hv k hk; exact ⟨g, e, hl.cell hc⟩⟩
set_option maxRecDepth 100000 in
theorem ints21_any (u v : Value) (L M : List Nat) (W : World) (hu : NumV W u L) (hv : NumV W v M) (hL : L.length ≤ 1000000) (hM : M.length ≤ 1000000) :
    Calls Try.prog 29 #[u, v] W fun e w' => e = .returned (.bool (L == M)) ∧ Later W w' := by
  obtain ⟨ao, cap, rfl, hcu⟩ := hu
  obtain ⟨bo, cbp, rfl, hcv⟩ := hv
  obtain ⟨n, hn⟩ : ∃ n, Hid (L.length = n) := ⟨_, Lib.hid rfl⟩
  obtain ⟨m, hm⟩ : ∃ m, Hid (M.length = m) := ⟨_, Lib.hid rfl⟩
  by_cases hnm : n = m
  · subst hnm
    rw [hn.out] at hL
    have h1 : Hid (∀ k, k < n → ∃ g, ao = some ⟨g, 0, none⟩ ∧ W.cell? ⟨g, k, none⟩ = some (.int .i64 (L.getD k 0 : Nat))) := Lib.hid (by rw [← hn.out]; exact hcu)
    have h2 : Hid (∀ k, k < n → ∃ g, bo = some ⟨g, 0, none⟩ ∧ W.cell? ⟨g, k, none⟩ = some (.int .i64 (M.getD k 0 : Nat))) := Lib.hid (by rw [← hm.out]; exact hcv)
    have hLM : Hid ((L == M) = true ↔ ∀ k, k < n → L.getD k 0 = M.getD k 0) := Lib.hid (by
      rw [beq_iff_eq]
      constructor
      · rintro rfl k _; rfl
      · intro h
        apply List.ext_getElem?
        intro k
        by_cases hk : k < n
        · have := h k hk
          rw [List.getD_eq_getElem?_getD, List.getD_eq_getElem?_getD] at this
          rw [List.getElem?_eq_getElem (by rw [hn.out]; exact hk), List.getElem?_eq_getElem (by rw [hm.out]; exact hk)] at this ⊢
          simp at this ⊢; exact this
        · rw [List.getElem?_eq_none (by rw [hn.out]; omega), List.getElem?_eq_none (by rw [hm.out]; omega)])
    rw [hn.out, hm.out]
    obtain ⟨b, hb⟩ : ∃ b, Hid ((L == M) = b) := ⟨_, Lib.hid rfl⟩
    rw [hb.out] at hLM ⊢
    clear hcu hcv hM
    go_enter Try.func29, Try.ntmps29
    go_wp2_with fail
    go_loopg [5] (n + 1) (fun g y wr => Hid (Later W wr) ∧ ∃ (i : Nat), g = n + 1 - i ∧ i ≤ n ∧ y = .int .i64 i ∧ Hid (∀ k, k < i → L.getD k 0 = M.getD k 0))
    case atStart => exact ⟨Lib.hid (Later.refl _), 0, by omega, Nat.zero_le _, rfl, Lib.hid (fun k hk => absurd hk (Nat.not_lt_zero _))⟩
    case round =>
      obtain ⟨hl, i, rfl, hin, rfl, hsame⟩ := hrel
      obtain ⟨wo, rfl⟩ : ∃ wo : World, wo = wr := ⟨_, rfl⟩
      have hlw : Later W wo := hl.out
      by_cases hi : i < n
      · have hii : (i : Int) < (n : Int) := by omega
        obtain ⟨g, rfl, hc⟩ := h1.out i hi
        obtain ⟨g2, rfl, hc2⟩ := h2.out i hi
        obtain ⟨x, hx⟩ : ∃ x : Int, Hid (((L.getD i 0 : Nat) : Int) = x) := ⟨_, Lib.hid rfl⟩
        obtain ⟨y, hy⟩ : ∃ y : Int, Hid (((M.getD i 0 : Nat) : Int) = y) := ⟨_, Lib.hid rfl⟩
        rw [hx.out] at hc
        rw [hy.out] at hc2
        replace hc := hlw.cell hc
        replace hc2 := hlw.cell hc2
        go_wp2_with fail
        go_quiet (fail)
        obtain ⟨w2, hw2⟩ : ∃ X, X = wo.drewN nq := ⟨_, rfl⟩
        have hl2 : Hid (Later W w2) := Lib.hid (by rw [hw2]; exact hl.out.drewN _)
        rw [← hw2]
        clear hw2
        by_cases hxy : x = y
        · have hd : (x != y) = false := by simp [hxy]
          clear hxy
          go_wp2_with fail
          go_roundg (n - i)
          case measure => omega
          case rel => exact ⟨hl2, i + 1, by omega, by omega, by go_num, Lib.hid (fun k hk => by
            by_cases e : k = i
            · subst e
              have h5 := hx.out
              have h6 := hy.out
              have h7 : x = y := by simpa using hd
              omega
            · exact hsame.out k (by omega))⟩
        · have hd : (x != y) = true := by simp [hxy]
          have hbf : b = false := by
            cases b
            · rfl
            · have := hLM.out.1 rfl i hi
              have h5 := hx.out
              have h6 := hy.out
              rw [this] at h5
              exact absurd (h5.symm.trans h6) hxy
          clear hxy
          go_wp2_with fail
          go_ret
          subst hbf
          exact ⟨rfl, hl2.out⟩
      · obtain rfl : n = i := by omega
        have hii : ¬ (n : Int) < (n : Int) := by omega
        have hbt : b = true := hLM.out.2 hsame.out
        go_wp2_with fail
        go_ret
        subst hbt
        exact ⟨rfl, hl.out⟩
  · have hLM : (L == M) = false := by
      rw [beq_eq_false_iff_ne]
      intro e
      rw [e, hm.out] at hn
      exact hnm hn.out.symm
    rw [hLM, hn.out, hm.out]
    have hne : ((n : Int) != (m : Int)) = true := by simp; omega
    clear hcu hcv hLM hnm
    go_enter Try.func29, Try.ntmps29
    go_wp2_with fail
    go_ret
    exact ⟨rfl, Later.refl _⟩
theorem ints21_same (u v : Value) (L : List Nat) (W : World) (hu : NumV W u L) (hv : NumV W v L) (hL : L.length ≤ 1000000) :
    Calls Try.prog 29 #[u, v] W fun e w' => e = .returned (.bool true) ∧ Later W w' := by
  have h := ints21_any u v L L W hu hv hL hL
  rw [show (L == L) = true from by simp] at h
  exact h
theorem numV_new (w : World) (L : List Nat) (t : TypeId) (c : Nat) : NumV (w.alloc (.cells (encN L).toArray t)) (.slice (some ⟨w.heap.size, 0, none⟩) L.length c) L :=
  ⟨_, c, rfl, fun k hk => ⟨w.heap.size, rfl, by
    rw [World.cell?_alloc_new]
    unfold encN
    rw [List.getElem?_toArray, List.getElem?_map, List.getElem?_eq_getElem hk, List.getD_eq_getElem?_getD, List.getElem?_eq_getElem hk]; rfl⟩⟩
end Go.Proofs.Ytjelfiljebamgaa
