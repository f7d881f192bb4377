/-
  Chapter 23: who is alive.
-/
import Derived.Sort.OwnSortedInts
import Derived.Test.YtaaohfocegnlkaaBtS
import Derived.Test.YtaaohfocegnlkaaBtF
namespace Go.Proofs.Ytaaohfocegnlkaa
open Go.RowKit Go.Shelf
set_option linter.unusedVariables false
set_option linter.unusedSimpArgs false
attribute [local go_sem] Oper.semAt_some

def srt (L : List Int) : List Int := L.mergeSort fun x y => decide (x ≤ y)
theorem ownsRow_pos {W : World} {base e : Nat} {v : Value} {k : Nat} {xs : List Value} (h : W.ownsRow base e 1 v k xs) (hk : 0 < k) : ∃ g cap, v = .slice (some ⟨g, 0, none⟩) k cap := by
  rcases h.2 with ⟨_, h0⟩ | ⟨g, cap, cur, hv, _⟩
  · omega
  · exact ⟨g, cap, hv⟩
theorem sort_own {W : World} {base : Nat} {v : Value} {L : List Int} (hrow : W.ownsRow base 3 1 v L.length (encI L)) (hk : 0 < L.length) (hsmall : L.length < 4611686018427387904) :
    Calls Try.prog 27 #[v] W fun e w' => e = .returned (.tuple #[]) ∧ w'.ownsRow base 3 1 v (srt L).length (encI (srt L)) ∧ W.grownBy w' v.ownBlock := by
  rcases hrow.2 with ⟨_, h0⟩ | ⟨g, cap, cur, rfl, hg, hb, hc, hm, hz, ht⟩
  · omega
  have hlen : (srt L).length = L.length := List.length_mergeSort _
  refine (slices_Sort_int g 0 cap L W (holds_of_blockI hb (by rw [Nat.mul_one] at ht; exact ht)) (Array.getElem?_eq_some_iff.1 hb).1 hsmall).mono ?_
  rintro e w' ⟨he, n, os, rfl⟩
  refine ⟨he, ?_, grownBy_sortedI _⟩
  have := ownsRow_sortedI (n := n) (os := os) (ss := L) (ts := srt L) hlen hg hb hc hm hz
  rw [hlen]
  exact this

def alvP (g : Nat → Int) : List Int := g 0 :: selP (fun q => decide (q < g 2)) (ol g (g 1).toNat)
set_option maxRecDepth 100000 in
set_option maxHeartbeats 2000000 in
theorem alive_f (b : Nat) (g : Nat → Int) (W : World) (h : WB W b g) (hg : 1 ≤ g 1 ∧ g 1 ≤ 64) :
    Calls Try.prog 10 #[wp b] W fun e w' => ∃ v, e = .returned v ∧ IntsF W.heap.size w' v (srt (alvP g)) ∧ Later W w' := by
  obtain ⟨i0, hi, hz0, hz1, hz2⟩ := info_parts info_int
  have HN := none_any b g (W.alloc (.cells #[wp b] 24)) (Row.later h ((Later.refl _).alloc _))
  rw [show (g 1 == 0) = false from by simp; omega] at HN
  have HP := Lib.hid (fun Bx w0 h1 h2 => others_stops b Bx g w0 (by omega) h1 h2)
  refine (callsIn_wide (n := 4)).1 ?_
  refine callsIn_of_wp_marks Try.func10 rfl trivial ?_ rfl
  simp only [Try.ntmps10, List.size_toArray, List.length_cons, List.length_nil, Nat.reduceAdd, Nat.reduceSub, Array.replicate_succ, Array.replicate_zero, List.push_toArray, List.append_toArray, List.nil_append, List.cons_append]
  refine wpIn_wide.2 ?_
  go_wp2_with fail
  refine HN.mono ?_
  rintro e w1 ⟨rfl, h1⟩
  have hl1 : Later W w1 := ((Later.refl _).alloc _).trans h1
  have tw : w1.cell? ⟨W.heap.size, 0, none⟩ = some (wp b) := h1.cell (by simp)
  have hbl := h.lt
  replace h : WB w1 b g := Row.later h hl1
  have c0 := h.cell (k := 0) (by omega)
  have hws := cell_lt tw
  go_wp2_with fail
  refine (others_any b _).mono ?_
  rintro e w3 ⟨rfl, rfl⟩
  obtain ⟨X0, hX0⟩ : ∃ X, X = w1 := ⟨_, rfl⟩
  rw [← hX0] at hl1 tw h c0 hws ⊢
  clear h1 HN hX0
  obtain ⟨X1, hX1⟩ : ∃ X, X = (X0.alloc (.cells #[.int .i64 (g 0)] 3)).alloc (.cells #[.slice (some ⟨X0.heap.size, 0, none⟩) 1 1] 26) := ⟨_, rfl⟩
  have hs1 : X1.heap.size = X0.heap.size + 1 + 1 := by rw [hX1]; simp
  have bO : Boxed X1 (X0.heap.size + 1) 26 (.slice (some ⟨X0.heap.size, 0, none⟩) 1 1) := by rw [hX1]; have := Boxed.new (X0.alloc (.cells #[.int .i64 (g 0)] 3)) 26 (.slice (some ⟨X0.heap.size, 0, none⟩) 1 1); rwa [World.size_alloc] at this
  have hR : X1.heap[X0.heap.size]? = some (.cells #[.int .i64 (g 0)] 3) := by rw [hX1]; exact heap_alloc2_old _ _ _
  have hlx1 : Later X0 X1 := by rw [hX1]; exact ((Later.refl _).alloc _).alloc _
  rw [← hX1]
  obtain ⟨X2, hX2⟩ : ∃ X, X = X1.alloc (.cells #[wp b] 24) := ⟨_, rfl⟩
  have hs2 : X2.heap.size = X1.heap.size + 1 := by rw [hX2]; simp
  have hl2 : Later X1 X2 := by rw [hX2]; exact (Later.refl _).alloc _
  have tX : X2.heap[X0.heap.size + 1 + 1]? = some (.cells #[wp b] 24) := by rw [← hs1, hX2]; exact heap_alloc_new _ _
  have tx : X2.cell? ⟨X0.heap.size + 1 + 1, 0, none⟩ = some (wp b) := by simp [World.cell?, tX]
  rw [← hX2]
  replace bO := Boxed.later bO hl2
  replace hR : X2.heap[X0.heap.size]? = some (.cells #[.int .i64 (g 0)] 3) := (hl2.block _ (by omega)).trans hR
  replace h : WB X2 b g := Row.later h (hlx1.trans hl2)
  have hX02 : X0.grownBy X2 none := (hlx1.trans hl2).grown
  have HS := Lib.hid (HP.out (X0.heap.size + 1 + 1) X2 h tx)
  obtain ⟨vals, hvals⟩ : ∃ vals, vals = fun pre => g 0 :: selX (fun q => decide (q < g 2)) pre := ⟨_, rfl⟩
  have hit : ∀ pre x, x.1.2 < g 2 → vals (pre ++ [x]) = vals pre ++ [x.1.1] := fun pre x h => by rw [hvals]; dsimp only; rw [selX_hit (decide_eq_true h)]; rfl
  have miss : ∀ pre x, ¬ x.1.2 < g 2 → vals (pre ++ [x]) = vals pre := fun pre x h => by rw [hvals]; dsimp only; rw [selX_miss (decide_eq_false h)]
  have hlen : ∀ pre, (vals pre).length ≤ pre.length + 1 := fun pre => by rw [hvals]; dsimp only; rw [List.length_cons]; exact Nat.succ_le_succ (selX_length _ _)
  have hpos : ∀ pre, 0 < (vals pre).length := fun pre => by rw [hvals]; simp
  have hall : ∀ ys : List Nx, ys.map (·.1) = ol g (g 1).toNat → vals ys = alvP g := fun ys h => by rw [hvals]; unfold alvP; dsimp only; rw [selX_all h]
  replace hall := Lib.hid hall
  have hrow0 : X2.ownsRow X0.heap.size 3 1 (.slice (some ⟨X0.heap.size, 0, none⟩) 1 1) (vals []).length (encI (vals [])) := by
    rw [hvals]
    exact ⟨rfl, .inr ⟨_, _, _, rfl, Nat.le_refl _, hR, Nat.le_refl _, by decide, rfl, rfl⟩⟩
  obtain ⟨n₀, hn⟩ : ∃ n, Hid (X0.heap.size = n) := ⟨_, rfl⟩
  have hn0 : n₀ ≤ X0.heap.size := Nat.le_of_eq hn.out.symm
  have hX0n : X0.heap.size ≤ n₀ := Nat.le_of_eq hn.out
  obtain ⟨Wb, hWb⟩ : ∃ n, Hid (W.heap.size = n) := ⟨_, rfl⟩
  obtain ⟨Bo, hBo⟩ : ∃ n, Hid (X0.heap.size + 1 = n) := ⟨_, rfl⟩
  obtain ⟨Bx, hBx⟩ : ∃ n, Hid (X0.heap.size + 1 + 1 = n) := ⟨_, rfl⟩
  have hX0B : X0.heap.size ≤ Bo := by have := hBo.out; omega
  have hbX2 : b < X2.heap.size := by omega
  have hBX2 : Bx < X2.heap.size := by have := hBx.out; omega
  have hWX2 : W.heap.size ≤ X2.heap.size := by omega
  have hbB : b ≠ Bo := by have := hBo.out; omega
  have hBB : Bx ≠ Bo := by have := hBo.out; have := hBx.out; omega
  have hX0X2 : X0.heap.size ≤ X2.heap.size := by omega
  rw [hs1, hBx.out, hBo.out, hWb.out, hn.out]
  rw [hBx.out] at HS tX tx
  rw [hBo.out] at bO
  rw [hWb.out] at tw
  rw [hn.out] at hrow0 bO
  clear hs1 hs2 hBx hBo hWb hn hX1 hX2 hlx1 hl2 HP hvals c0 hws hR
  go_wp2_with fail
  refine (wpIn_wide (n := 4)).1 ?_
  refine wpIn_rangeFunc_ownG rfl (by omega) (gf := 29) (lb := #[wp Bx]) rfl trivial (enters_of Try.func29 (by kernel_rfl) rfl)
    HS.out Keep2.trans (fun W l o o' hl _ _ _ => Keep2.putObj W l o' (by omega)) (Below.refl _ _) (fun _ => rfl)
    (fun pre W' => (∃ v, Boxed W' Bo 26 v ∧ W'.ownsRow n₀ 3 1 v (vals pre).length (encI (vals pre)) ∧ True) ∧ X0.grownBy W' none ∧ W'.heap[b]? = some (.cells (rowV 68 g) 59 (0, 0)) ∧ W'.heap[Bx]? = some (.cells #[wp b] 24 (0, 0)))
    (fun _ _ _ => False)
    (OwnFrom.and (Own.from (holdsRow_own n₀ Bo 26 3 1 (fun pre => (vals pre).length) (fun pre => encI (vals pre)) (fun _ _ => True)) _) (OwnFrom.and (ownFrom_none (by omega)) (OwnFrom.and (ownFrom_block (by omega)) (ownFrom_block (by omega)))))
    (fun _ _ _ _ _ hs _ _ => hs)
    ⟨⟨_, bO, hrow0, trivial⟩, hX02, h, tX⟩
    (fun x => { tmps := #[wp b, wp Wb, .slice none 0 0, wp Bo, .int .i64 x.1.1, .int .i64 x.1.2, wp b, .bool false, wp b, .pointer (some ⟨b, 0, none⟩), .pointer (some ⟨b, 0, none⟩), .int .i64 (g 0), .slice (some ⟨n₀, 0, none⟩) 1 1, wp b, (.func (.func 29) #[] #[wp Bx]), .int .i64 x.1.1, .int .i64 x.1.2, undef, undef, undef, undef, undef, undef, undef, undef, undef, undef, undef, undef, undef], defers := [] }) ?assign ?body ?done ?stop
  case assign =>
    intro l x W K hK
    gi_wp2
    exact hK
  case body =>
    rintro l pre x W1 ⟨⟨v, hv, hrow, _⟩, hG, hWB, hWX⟩ hlt
    have tw1 := (Later.of_grown hG).cell tw
    have c2 := Row.cell (t := 59) (n := 68) (f := g) hWB (k := 2) (by omega)
    have hc := hv.cell
    have hb1 := (Array.getElem?_eq_some_iff.1 hWB).1
    have hb2 := (Array.getElem?_eq_some_iff.1 hWX).1
    by_cases hP : x.1.2 < g 2
    · have hpos := True.intro
      skip
      have hpx := hit pre x hP
      have hpl := hlen pre
      have hML : 4096 < maxLen := by decide
      have hn2 : n₀ ≤ W1.heap.size := Nat.le_trans hn0 hG.size
      gi_wp2_with (gi_at_builtin; refine wpListIn_append_own _ rfl _ _ 26 rfl n₀ 3 i0 (.int .i64 0) 1 8 Try.underlying26 hi hz0 hz1 hz2 rfl (by decide) _ _ _ rfl (hrow.alloc _) ⟨W1.heap.size, 0, none⟩ 1 1 [.int .i64 x.1.1] rfl rfl (World.news_of_block (heap_alloc_new _ _)) (by simp [Value.oneCell']) (by omega) (by omega) (by simp; omega) ?_; intro v' w1 hown' hgrow _; obtain ⟨g', cap', rfl⟩ := ownsRow_succ hown'; obtain ⟨hv1, hv3, hr3, hk3, hb3, hg3⟩ := boxed_append hv (by decide) hrow hn2 hown' hgrow; have hc1 := hv1.cell; have hf1 := hv1.frozen)
      have k1 := fun v' => append_block (B := Bo) (v' := v') hgrow hb1 (by omega) (row_ne hrow hWB (by decide))
      have k2 := fun v' => append_block (B := Bo) (v' := v') hgrow hb2 (by omega) (row_ne hrow hWX (by decide))
      exact ⟨hk3.from _, ⟨k1 _, k2 _⟩, ⟨_, hv3, by rw [hpx]; unfold encI at hr3 ⊢; rw [List.map_append, List.length_append]; exact hr3, trivial⟩, append_none hG hX0n hX0B hrow hgrow, (k1 _).trans hWB, (k2 _).trans hWX⟩
    · have hneg := True.intro
      skip
      have hpx := miss pre x (by omega)
      gi_wp2_with fail
      exact ⟨(KeepsOthers.refl _).from _, ⟨rfl, rfl⟩, ⟨v, hv, by rw [hpx]; first | exact hrow | exact ⟨hrow, trivial⟩⟩, hG, hWB, hWX⟩
  case done =>
    rintro D ys W' hD hys ⟨⟨v, hv, hrow, _⟩, hG, hWB, hWX⟩ hK
    have hc := hv.cell
    have hpl := hlen ys
    have hyl : ys.length ≤ 64 := by
      have e1 := congrArg List.length hys
      rw [List.length_map] at e1
      have e2 := ol_length g (g 1).toNat
      omega
    obtain ⟨g', cap', hv2⟩ := ownsRow_pos hrow (hpos ys)
    subst hv2
    have hso := sort_own hrow (hpos ys) (by omega)
    have hne : (Value.slice (some ⟨g', 0, none⟩) (vals ys).length cap').ownBlock ≠ some D := by
      rcases hrow.2 with ⟨h0, _⟩ | ⟨r, c1, c2, h0, _, hrb, _⟩
      · cases h0
      · intro h1
        obtain rfl : g' = D := by simpa [Value.ownBlock] using h1
        cases h0
        rw [hK] at hrb; cases hrb
    have hnb := hv.not_row (by decide) hrow
    have hgn : n₀ ≤ g' := by
      rcases hrow.2 with ⟨h0, _⟩ | ⟨r, c1, c2, h0, hr, _⟩
      · cases h0
      · cases h0; exact hr
    have hDl := (Array.getElem?_eq_some_iff.1 hK).1
    go_wp2_with fail
    refine hso.mono ?_
    rintro e w5 ⟨rfl, hrow5, hgr⟩
    have hv5 : Boxed w5 Bo 26 (.slice (some ⟨g', 0, none⟩) (vals ys).length cap') := hv.kept hgr hnb
    have hc5 := hv5.cell
    have hK5 : w5.heap[D]? = some (.deferred (some [])) := (hgr.block D hDl (fun e => hne e.symm)).trans hK
    have hG5 : X0.grownBy w5 none := grown_none hG hgr (fun r e => by have e2 : g' = r := by simpa [Value.ownBlock] using e
                                                                      omega)
    clear hso hrow hgr hc hv hK hne hnb
    go_wp2_with fail
    refine ⟨by simp, .inl ⟨_, _, rfl, run_takeDeferred hK5, ?_⟩⟩
    have hI := intsF_of_row (n := W.heap.size) (ownsRow_putObj hrow5 (.deferred none) hK5 rfl) (Nat.le_trans hl1.size hX0n)
    rw [show srt (vals ys) = srt (alvP g) from congrArg srt (hall.out ys hys)] at hI
    refine ⟨_, results_tmp rfl _ _ _, .slice (some ⟨g', 0, none⟩) (vals ys).length cap', rfl, hI, ?_⟩
    exact ( Below.trans (hl1.trans (Later.of_grown hG5)) (belowK_b (w := X2) hWX2 w5 D _ _ hD hK5 rfl rfl))
  case stop =>
    rintro D c pre W _ _ h _
    exact h.elim
theorem alive_nodes (b : Nat) (g : Nat → Int) (W : World) (h : WB W b g) (hg : 1 ≤ g 1 ∧ g 1 ≤ 64) :
    Calls Try.prog 10 #[wp b] W fun e w' => ∃ v, e = .returned v ∧ IntsV w' v (srt (alvP g)) ∧ Later W w' :=
  (alive_f b g W h hg).mono fun e w' ⟨v, he, hv, hl⟩ => ⟨v, he, hv.1, hl⟩
end Go.Proofs.Ytaaohfocegnlkaa
