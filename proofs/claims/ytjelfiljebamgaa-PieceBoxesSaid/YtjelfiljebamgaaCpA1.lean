/-
  Chapter 21: a box is copied.
  Chapter 21: a box is copied: the walk.
-/
import Derived.Deep.RegionHeld3
import Derived.Test.YtjelfiljebamgaaBxX
namespace Go.Proofs.Ytjelfiljebamgaa
open Go.RowKit Go.Shelf Go.Maps
set_option linter.unusedVariables false
set_option linter.unusedSimpArgs false
attribute [local go_sem] Oper.semAt_some
attribute [-go_sem] Builtin.append_

theorem PlV.one {w : World} {T : Nat → Prop} {v : Value} {o : Option (List Int)} (h : PlV w T v o) : v.oneCell' = true := by
  cases o with
  | none => rw [show v = .slice none 0 0 from h]; rfl
  | some d => obtain ⟨_, _, ⟨ad, n, c, rfl⟩, _⟩ := h; rfl
theorem PlsV.one {w : World} {T : Nat → Prop} {vs : List Value} {l : List (Option (List Int))} (h : PlsV w T vs l) : ∀ v ∈ vs, v.oneCell' = true := fun v hv => by
  obtain ⟨k, hk, rfl⟩ := List.getElem_of_mem hv
  obtain ⟨u, h1, h2⟩ := h.2 k (by rw [← h.1]; exact hk)
  rw [List.getElem?_eq_getElem hk] at h1
  injection h1 with h1
  rw [h1]; exact h2.one
theorem eq_some_bss (W : World) (ad : Addr) (n c : Nat) : (binOp .eql 35 (.slice (some ad) n c) (.slice none 0 0)).run Try.prog W = .ok (.bool false) W := by kernel_rfl
set_option maxRecDepth 100000 in
theorem clone_bss (g n cap : Nat) (vs : List Value) (W : World) (hr : W.ownsRow 0 23 1 (.slice (some ⟨g, 0, none⟩) n cap) n vs) (h1 : ∀ v ∈ vs, v.oneCell' = true) (hn : n ≤ 4096) :
    Calls Try.prog 68 #[.slice (some ⟨g, 0, none⟩) n cap] W fun e w' => ∃ g' cap', e = .returned (.slice (some ⟨g', 0, none⟩) n cap') ∧ w'.ownsRow W.heap.size 23 1 (.slice (some ⟨g', 0, none⟩) n cap') n vs ∧ Later W w' := by
  obtain ⟨i0, hi, hz0, hz1, hz2⟩ := info_parts info_bs
  have hML : 2000000 < maxLen := by decide
  have hl : Later W (W.alloc (.cells #[] 23)) := (Later.refl _).alloc _
  have hown : (W.alloc (.cells #[] 23)).ownsRow W.heap.size 23 1 (.slice (some ⟨W.heap.size, 0, none⟩) 0 0) 0 [] :=
    ⟨rfl, .inr ⟨_, _, _, rfl, Nat.le_refl _, heap_alloc_new _ _, Nat.le_refl _, by decide, rfl, rfl⟩⟩
  have hvl : vs.length = n := by have := hr.1; omega
  have hr1 := row_later hr hl
  obtain ⟨v', w', h0, h2, h3, h4⟩ := run_append_own (P := Try.prog) (W.alloc (.cells #[] 23)) W.heap.size 35 35 23 i0 (.slice none 0 0) 1 24 Try.underlying35 hi hz0 hz1 hz2 rfl (by decide) _ 0 [] hown ⟨g, 0, none⟩ n cap vs (by rw [hvl, Nat.mul_one]) (fun j y hj => by
    have hjl : j < n := by rw [← hvl]; exact (List.getElem?_eq_some_iff.1 hj).1
    rw [Addr.add_mid, Nat.zero_add, hr1.cellAt j (by omega)]
    exact hj) h1 (by omega) (by omega) (by rw [World.size_alloc]; omega)
  rw [Nat.zero_add, List.nil_append] at h2
  have hl2 := Lib.hid (later_own hl hown (Nat.le_refl _) h3)
  have hf : ∃ g' cap', v' = .slice (some ⟨g', 0, none⟩) n cap' := by
    rcases h2.2 with ⟨e, h0⟩ | ⟨a, cp, cur, rfl, _⟩
    · exact absurd (h4.1 e).1 (by simp)
    · exact ⟨a, cp, rfl⟩
  obtain ⟨g', cap', rfl⟩ := hf
  have he := fun W => eq_some_bss W ⟨g, 0, none⟩ n cap
  replace h2 := Lib.hid h2
  clear h4 h3 hown hr1 hr hl
  go_enter Try.func68, Try.ntmps68
  go_wp2_with fail
  go_ret
  exact ⟨_, _, rfl, h2.out, hl2.out⟩
end Go.Proofs.Ytjelfiljebamgaa
namespace Go.Proofs.Ytjelfiljebamgaa
open Go.RowKit Go.Shelf Go.Maps
set_option linter.unusedVariables false
set_option linter.unusedSimpArgs false
attribute [local go_sem] Oper.semAt_some

def inM (M : Bx) (ks : List Nat) : Bx := fun i => if i ∈ ks then M i else none
theorem inM_snoc (M : Bx) (ks : List Nat) (i : Nat) (m : Msg) (h : M i = some m) : (fun j => if j = i then some m else inM M ks j) = inM M (ks ++ [i]) := by
  funext j
  unfold inM
  by_cases e : j = i
  · subst e; simp [h]
  · simp [e]
theorem BoxC.wide {w : World} {x B n : Nat} {r : Int} {D : DataW Unit} {f : Nat → Option Nat} {G : Nat → Nat} {M : Bx} {S T S' : Nat → Prop} (h : BoxC w x r B D f G n M S T) (hS : ∀ k, S k → S' k) (hlt : ∀ k, S' k → k < w.heap.size) (hd : ∀ k, T k → ¬ S' k) : BoxC w x r B D f G n M S' T where
  head := h.head
  map := h.map
  ok := h.ok
  none' := h.none'
  some' := fun i p hi => by
    obtain ⟨m, hm, hM⟩ := h.some' i p hi
    exact ⟨m, hm, hM.mono hS (fun k hk => hk)⟩
  inj := h.inj
  injG := h.injG
  sx := hS _ h.sx
  sb := hS _ h.sb
  lt := fun k hk => hk.elim (hlt k) (fun h' => h.lt k (.inr h'))
  dis := hd
  room := h.room
  full := h.full
theorem later_own_map {W w w' : World} {N : Nat} (h : Later W w) (hg : w.grownBy w' (some N)) (hr : W.heap.size ≤ N) : Later W w' :=
  ⟨hg.os.trans h.os, hg.tape.trans h.tape, hg.output.trans h.output, Nat.le_trans h.size hg.size, fun k hk => (hg.block k (Nat.lt_of_lt_of_le hk h.size) (fun e => by have e2 := Option.some.inj e; omega)).trans (h.block k hk)⟩
theorem later_next {W w w' : World} {rr : Nat} (h : Later W w) (hg : w.grownBy w' (some rr)) (hr : W.heap.size ≤ rr) : Later W w' :=
  ⟨hg.os.trans h.os, hg.tape.trans h.tape, hg.output.trans h.output, Nat.le_trans h.size hg.size, fun k hk => (hg.block k (Nat.lt_of_lt_of_le hk h.size) (fun e => by have e2 := Option.some.inj e; omega)).trans (h.block k hk)⟩
set_option maxRecDepth 100000 in
set_option maxHeartbeats 2000000 in
theorem copy_any (x : Nat) (r : Int) (M : Bx) (S T : Nat → Prop) (W : World) (h : BoxB W x r M S T) :
    Calls Try.prog 34 #[wp x] W fun e w' => ∃ c S', e = .returned (wp c) ∧ BoxB w' c r M S' T ∧ (∀ k, S' k → W.heap.size ≤ k) ∧ Later W w' := by
  obtain ⟨B, D, f, G, n, h⟩ := h
  obtain ⟨x0, x1⟩ := h.cells
  have hroom := Lib.hid h.room
  have hr := h.room.1
  have hmap := Lib.hid h.map
  have hok := Lib.hid h.ok
  have hBl : B < W.heap.size := h.map.lt
  have hn : n ≤ 64 := by have := h.full; have := h.room.2; omega
  have hnr := h.full
  have hsz0 : Maps.size D = n := h.ok.size'
  have hbox := Lib.hid h
  have hmm := @run_makeMap Try.prog
  clear h
  go_enter Try.func34, Try.ntmps34
  go_wp2_with fail
  refine (none_no x r W x0 hr).mono ?_
  rintro e w0 ⟨rfl, hw0⟩
  obtain rfl : W = w0 := hw0.symm
  go_upto_region 4 with fail
  have hTN : Hid (∀ k, T k → k < W.heap.size) := Lib.hid (fun k hk => hbox.out.lt k (.inr hk))
  obtain ⟨W2, hW2⟩ : ∃ w, w = (W.alloc (.map #[] 0)).alloc (.cells #[.int .i64 r, .map (some W.heap.size)] 78) := ⟨_, rfl⟩
  have hl2 : Later W W2 := by rw [hW2]; exact ((Later.refl _).alloc _).alloc _
  have hsz2 : W2.heap.size = W.heap.size + 2 := by rw [hW2, World.size_alloc, World.size_alloc]
  have hown := World.ownsMap_made (H := Unit) W Try.prog 22 ptrElem
  have hc0 : Hid (BoxC W2 (W.heap.size + 1) r W.heap.size (.map []) (fun _ => none) (fun _ => 0) 0 (inM M []) (fun k => W.heap.size ≤ k ∧ k < W2.heap.size ∧ k ≠ W2.heap.size) T) := Lib.hid (by
    refine ⟨by rw [hW2]; exact push_new _ _ (World.size_alloc _ _), by rw [hW2]; exact hown.alloc _, MapOk.nil, fun _ _ => by simp [inM], fun i p h => (by cases h), fun i j p h => (by cases h), fun i j h => (by cases h), ⟨by omega, by omega, by omega⟩, ⟨by omega, by omega, by omega⟩, fun k hk => ?_, fun k hk h => ?_, hroom.out, by have := hroom.out; omega⟩
    · rcases hk with hk | hk
      · exact hk.2.1
      · have := hTN.out k hk; omega
    · have := hTN.out k hk; have := h.1; omega)
  rw [← hW2]
  obtain ⟨N, hN⟩ : ∃ q, Hid (W.heap.size = q) := ⟨_, Lib.hid rfl⟩
  obtain ⟨rr, hrr⟩ : ∃ q, Hid (W2.heap.size = q) := ⟨_, Lib.hid rfl⟩
  obtain ⟨c, hce⟩ : ∃ q, Hid (N + 1 = q) := ⟨_, Lib.hid rfl⟩
  rw [hN.out] at hTN hsz2 hBl
  rw [hN.out, hce.out, hrr.out] at hc0
  rw [hN.out, hce.out]
  have x1' := hl2.cell x1
  have hmap2 := Lib.hid (map_at hmap.out (hl2.block B (by have := hN.out; omega)))
  rw [hrr.out] at hsz2
  clear hW2 hown x0 x1 hmap hmm
  go_wp2_with (at_range; refine wpList_range_own _ rfl _ 76 rfl 22 125 lawM Try.underlying76 _ B n D rfl hmap2.out ?_; intro w1 hrg1 hg1 hs1)
  go_frame
  rw [hrr.out] at hrg1 ⊢
  have hl1 : Hid (Later W w1) := Lib.hid (hl2.trans ⟨hg1.os, hg1.tape, hg1.output, hg1.size, fun k hk => hg1.block k hk (by simp)⟩)
  have hc1 : Hid (BoxC w1 c r N (.map []) (fun _ => none) (fun _ => 0) 0 (inM M []) (fun k => N ≤ k ∧ k < w1.heap.size ∧ k ≠ rr) T) := Lib.hid ((hc0.out.later ⟨hg1.os, hg1.tape, hg1.output, hg1.size, fun k hk => hg1.block k hk (by simp)⟩).wide (fun k hk => ⟨hk.1, by have := hg1.size; have := hrr.out; omega, hk.2.2⟩) (fun k hk => hk.2.1) (fun k hk h => by have := hTN.out k hk; have := h.1; omega))
  replace hrg1 := Lib.hid hrg1
  have hcN : c < rr := by have := hce.out; omega
  have hNr : N < rr := by omega
  clear hg1 hs1 hc0 hl2 x1' hsz2
  go_loopg [4] (n + 1) (fun gg s wr => ∃ (left : Lit → Bool) (cnt : Nat) (ks : List Nat) (Do : DataW Unit) (fo : Nat → Option Nat) (Go : Nat → Nat) (no : Nat), gg = cnt + 1 ∧ Hid (wr.ranges Try.prog 22 ptrElem B rr n D left cnt) ∧ Hid (MetOk f left ks) ∧ Hid (BoxC wr c r N Do fo Go no (inM M ks) (fun k => N ≤ k ∧ k < wr.heap.size ∧ k ≠ rr) T) ∧ Hid (Later W wr))
  case atStart => exact ⟨_, _, [], _, _, _, _, by rw [hsz0], hrg1, Lib.hid (MetOk.start hok.out), hc1, hl1⟩
  case round =>
    clear hc1 hrg1 hl1
    obtain ⟨left, cnt, ks, Do, fo, Go, no, rfl, hrg, hmet, hco, hlw⟩ := hrel
    have hkl := hmet.out.len hok.out
    go_wp2_with (at_next; refine wpList_next_box _ rfl _ rfl B rr n n D f left cnt hok.out rfl hrg.out ?_ ?_)
    · intro hc0 hl0
      have hMe : inM M ks = M := by
        funext i
        unfold inM
        by_cases hi : i ∈ ks
        · rw [if_pos hi]
        · rw [if_neg hi]
          cases hf : f i with
          | none => exact (hbox.out.none' i hf).symm
          | some p => exact absurd ((hmet.out.mem i).2 ⟨by rw [hf]; rfl, hl0 _⟩) hi
      rw [hMe] at hco
      go_wp2_with fail
      go_ret
      exact ⟨c, _, rfl, ⟨_, _, _, _, _, hco.out⟩, fun k hk => by have := hk.1; have := hN.out; omega, hlw.out⟩
    · intro i p w2 cnt2 hfi hlk hi64 hrg2 hlt hg2 hs2 hen
      obtain ⟨m, hm, hMB0⟩ := hbox.out.some' i p hfi
      have hMB := Lib.hid hMB0
      obtain ⟨⟨cap, vs, hb, hrw, hp⟩, -⟩ := hMB0
      have hl2 : Later W w2 := later_next hlw.out hg2 (by have := hN.out; omega)
      have hco2 : Hid (BoxC w2 c r N Do fo Go no (inM M ks) (fun k => N ≤ k ∧ k < w2.heap.size ∧ k ≠ rr) T) := Lib.hid ((hco.out.stay (fun k hk => hg2.block k (hco.out.lt k hk) (fun e => by
        have e2 : k = rr := Option.some.inj e
        rcases hk with hk | hk
        · exact hk.2.2 e2
        · have := hTN.out k hk; omega)) hg2.size).wide (fun k hk => ⟨hk.1, by rw [hs2]; exact hk.2.1, hk.2.2⟩) (fun k hk => hk.2.1) (fun k hk h => by have := hTN.out k hk; have := h.1; omega))
      have hMi : ¬ i ∈ ks := fun h => by have := ((hmet.out.mem i).1 h).2; rw [hlk] at this; cases this
      have hfo : Hid (fo i = none) := Lib.hid (by
        cases hf : fo i with
        | none => rfl
        | some q =>
          obtain ⟨m', hm', _⟩ := hco2.out.some' i q hf
          unfold inM at hm'
          rw [if_neg hMi] at hm'; cases hm')
      have hmet2 := Lib.hid (hmet.out.step (i := i) (by rw [hfi]; rfl) hlk)
      have hkl2 := hmet2.out.len hok.out
      rw [List.length_append, List.length_singleton] at hkl2
      have hcnt : no = ks.length := by
        refine hco2.out.count.unique ⟨ks, hmet.out.nd, rfl, fun j => ?_⟩
        unfold inM
        by_cases hj : j ∈ ks
        · have h1 := ((hmet.out.mem j).1 hj).1
          obtain ⟨q, hq⟩ := Option.isSome_iff_exists.1 h1
          obtain ⟨m', hm', _⟩ := hbox.out.some' j q hq
          simp [hj, hm']
        · simp [hj]
      have hnl : no < n := by omega
      have hinm := Lib.hid (inM_snoc M ks i m hm)
      obtain ⟨n0, hn0⟩ : ∃ k, Hid (m.l.length = k) := ⟨_, Lib.hid rfl⟩
      obtain ⟨LF, hLF⟩ : ∃ k : Int, Hid ((m.left : Int) = k) := ⟨_, Lib.hid rfl⟩
      obtain ⟨BY, hBY⟩ : ∃ k : Int, Hid ((m.by' : Int) = k) := ⟨_, Lib.hid rfl⟩
      have hn4 : n0 ≤ 4096 := by rw [← hn0.out]; exact hMB.out.len
      have hb2 := hl2.obj hb
      rw [hn0.out, hLF.out, hBY.out] at hb2
      rw [hn0.out] at hrw
      obtain ⟨g, hg⟩ : ∃ k, Hid (G i = k) := ⟨_, Lib.hid rfl⟩
      rw [hg.out] at hb2 hrw
      have hS : Hid (∀ V, Later w2 V → V.cell? ⟨c, 1, none⟩ = some (.map (some N)) ∧ V.cell? ⟨p, 0, none⟩ = some (.slice (some ⟨g, 0, none⟩) n0 cap) ∧ V.cell? ⟨p, 1, none⟩ = some (.int .i64 LF) ∧ V.cell? ⟨p, 2, none⟩ = some (.int .i64 BY)) := Lib.hid (fun V hV => by
        have e1 := hV.obj hco2.out.head
        have e2 := hV.obj hb2
        exact ⟨cell_of_row _ _ 1 _ _ _ e1, cell_of_row _ _ 0 _ _ _ e2, cell_of_row _ _ 1 _ _ _ e2, cell_of_row _ _ 2 _ _ _ e2⟩)
      have hpN : p < N := by have := (Array.getElem?_eq_some_iff.1 hb).1; have := hN.out; omega
      have hSN : Hid (∀ V V', Later w2 V → V.grownBy V' (some N) → V'.cell? ⟨c, 1, none⟩ = some (.map (some N)) ∧ V'.cell? ⟨p, 0, none⟩ = some (.slice (some ⟨g, 0, none⟩) n0 cap) ∧ V'.cell? ⟨p, 1, none⟩ = some (.int .i64 LF) ∧ V'.cell? ⟨p, 2, none⟩ = some (.int .i64 BY)) := Lib.hid (fun V V' hV hG => by
        have hc := hce.out
        have e1 := hV.obj hco2.out.head
        have e2 := hV.obj hb2
        have e1 := (hG.block c (Array.getElem?_eq_some_iff.1 e1).1 (fun e => by have := Option.some.inj e; omega)).trans e1
        have e2 := (hG.block p (Array.getElem?_eq_some_iff.1 e2).1 (fun e => by have := Option.some.inj e; omega)).trans e2
        exact ⟨cell_of_row _ _ 1 _ _ _ e1, cell_of_row _ _ 0 _ _ _ e2, cell_of_row _ _ 1 _ _ _ e2, cell_of_row _ _ 2 _ _ _ e2⟩)
      have hcl : Hid (∀ V, Later w2 V → Calls Try.prog 68 #[.slice (some ⟨g, 0, none⟩) n0 cap] V fun e w' => ∃ g' cap', e = .returned (.slice (some ⟨g', 0, none⟩) n0 cap') ∧ w'.ownsRow V.heap.size 23 1 (.slice (some ⟨g', 0, none⟩) n0 cap') n0 vs ∧ Later V w') := Lib.hid (fun V hV => clone_bss g n0 cap vs V (row_later (row_later hrw hl2) hV) hp.one hn4)
      have hmu : Hid (∀ V, Later w2 V → ∀ q : Nat, ∃ w4, (Instr.mapUpdate 76 (.map (some N)) (.int .u64 i) (wp q)).run Try.prog V = .ok () w4 ∧ w4.ownsMap Try.prog 22 ptrElem N (no + 1) (Do.put (.int .u64 i) (.lit (.int .u64 q))) ∧ V.grownBy w4 (some N)) := Lib.hid (fun V hV q => World.ownsMap.update (w := V) (t := 76) (map_at hco2.out.map (hV.block N (hco2.out.lt N (.inl hco2.out.sb)))) lawM Try.underlying76 (Nat.lt_of_le_of_lt (show no ≤ 5000 by omega) (by decide)) (keyM hi64) (ptrElem_mk q))
      have hpw := Lib.hid (hp.stay (w' := w2) (fun k hk => hl2.block k (by have := hTN.out k hk; have := hN.out; omega)))
      replace hl2 := Lib.hid hl2
      replace hrg2 := Lib.hid hrg2
      clear hp hrw hb hb2 hMi hg2 hs2 hfi hlk hi64 hcnt hm
      have hdX : Later w2 w2.drew := (Later.refl w2).drew
      go_upto_region 7 with fail
      go_region_held3 (fun V => V.cell? ⟨c, 1, none⟩ = some (.map (some N)) ∧ V.cell? ⟨p, 0, none⟩ = some (.slice (some ⟨g, 0, none⟩) n0 cap) ∧ V.cell? ⟨p, 1, none⟩ = some (.int .i64 LF) ∧ V.cell? ⟨p, 2, none⟩ = some (.int .i64 BY)) ((first | (with_reducible exact hS.out _ hdX) | (with_reducible exact hS.out _ hL1) | (with_reducible exact hS.out _ hLA) | (with_reducible exact hSN.out _ _ hLA hg4))) (first | (go_at_call 68; with_reducible refine (hcl.out _ hdX).mono ?_; rintro e V1 ⟨g', cap', rfl, hrowc, hLc⟩; have hL1 := hdX.trans hLc; have hLA := hL1.alloc (.cells #[.slice (some ⟨g', 0, none⟩) n0 cap', .int .i64 LF, .int .i64 BY] 127); obtain ⟨w4, hrun4, hown4, hg4⟩ := hmu.out _ hLA V1.heap.size))
      have hL4 : Later W w4 := later_own_map (hl2.out.trans hLA) hg4 (by have := hN.out; omega)
      have hpv : V1.heap.size < (V1.alloc (.cells #[.slice (some ⟨g', 0, none⟩) n0 cap', .int .i64 LF, .int .i64 BY] 127)).heap.size := by rw [World.size_alloc]; omega
      have hk4 : w4.heap[V1.heap.size]? = some (.cells #[.slice (some ⟨g', 0, none⟩) n0 cap', .int .i64 LF, .int .i64 BY] 127 (0, 0)) := (hg4.block _ hpv (fun e => by have e2 := Option.some.inj e; have := hL1.size; have := (hco2.out.lt N (.inl hco2.out.sb)); omega)).trans (heap_alloc_new V1 _)
      have hrl := hrg2.out.lt
      have hNw := hco2.out.lt N (.inl hco2.out.sb)
      have hs1 : w2.heap.size ≤ V1.heap.size := hL1.size
      have hs4 : V1.heap.size + 1 ≤ w4.heap.size := by have := hg4.size; rw [World.size_alloc] at this; exact this
      have hgg : w2.heap.size ≤ g' := row_ge hrowc
      have hg'1 : g' < V1.heap.size := row_lt hrowc
      have hrow4 : w4.ownsRow 0 23 1 (.slice (some ⟨g', 0, none⟩) n0 cap') n0 vs := by
        refine row_at (row_base (row_later hrowc ((Later.refl V1).alloc (.cells #[.slice (some ⟨g', 0, none⟩) n0 cap', .int .i64 LF, .int .i64 BY] 127))) (Nat.zero_le _)) (fun k hk => ?_)
        obtain rfl : g' = k := by simpa [Value.ownBlock] using hk
        exact hg4.block g' (by rw [World.size_alloc]; omega) (fun e => by have e2 := Option.some.inj e; omega)
      have hrr4 : Hid (w4.ranges Try.prog 22 ptrElem B rr n D (fun z => left z && !z.sameKey (.int .u64 i)) cnt2) := Lib.hid ((hrg2.out.kept hLA.grown (by simp) (by simp)).kept hg4 (fun e => by have e2 := Option.some.inj e; omega) (fun e => by have e2 := Option.some.inj e; omega))
      have hMsg : MsgB w4 (fun k => N ≤ k ∧ k < w4.heap.size ∧ k ≠ rr) T V1.heap.size g' m := by
        obtain ⟨-, -, -, r3, r4, r5, r6⟩ := hMB.out
        refine ⟨⟨cap', vs, by rw [hn0.out, hLF.out, hBY.out]; exact hk4, by rw [hn0.out]; exact hrow4, hpw.out.stay (fun k hk => ?_)⟩, ⟨by omega, by omega, by omega⟩, ⟨by omega, by omega, by omega⟩, r3, r4, r5, r6⟩
        have h1 := hTN.out k hk
        have h2 : k < w2.heap.size := by omega
        exact (hg4.block k (by have := hLA.size; omega) (fun e => by have e2 := Option.some.inj e; omega)).trans (hLA.block k h2)
      obtain ⟨n2, D2, hbx2⟩ := hco2.out.opened hfo.out (S' := fun k => N ≤ k ∧ k < w4.heap.size ∧ k ≠ rr) (T' := T) (p := V1.heap.size) (g := g') (m' := m) (w' := w4) (fun k hk hne => (hg4.block k (by have h1 := hco2.out.lt k hk; have := hLA.size; omega) (fun e => hne (Option.some.inj e))).trans (hLA.block k (hco2.out.lt k hk))) (by omega) hown4 hMsg hs1 hgg (fun k hk => ⟨hk.1, by have := hk.2.1; omega, hk.2.2⟩) (fun k hk => hk) (fun k hk => hk.elim (fun h => h.2.1) (fun h => by have := hTN.out k h; omega)) (fun k hk h => by have := hTN.out k hk; have := h.1; omega) (by omega)
      rw [hinm.out] at hbx2
      replace hbx2 := Lib.hid hbx2
      replace hL4 := Lib.hid hL4
      clear hown4 hg4 hrun4 hrowc hLc hL1 hLA hk4 hrow4 hMsg
      go_wp2_with fail
      go_roundg (cnt2 + 1)
      case measure => omega
      case rel => exact ⟨_, cnt2, ks ++ [i], _, _, _, _, rfl, hrr4, hmet2, hbx2, hL4⟩
end Go.Proofs.Ytjelfiljebamgaa
