/-
  Chapter 2: the sum of four products.
-/
import Derived.Laws.Rows
import Derived.Stop.RegionWithIn
import Derived.Test.YtackbajbladhhaaWdG
import Derived.Test.YtackbajbladhhaaWdH
namespace Go.Proofs.Ytackbajbladhhaa
open Go.RowKit Go.Shelf
set_option linter.unusedVariables false
set_option linter.unusedSimpArgs false
attribute [local go_sem] Oper.semAt_some

theorem push_one {w : World} {k : Nat} {o : Obj} (h : w.heap[k]? = some o) (o' : Obj) : (w.alloc o').heap[k]? = some o :=
  (Below.heap_alloc w o' k (Array.getElem?_eq_some_iff.1 h).1).trans h
theorem cell_1 {W : World} {p : Nat} {a : Value} {t : TypeId} {fr : Nat × Nat} (h : W.heap[p]? = some (.cells #[a] t fr)) : W.cell? ⟨p, 0, none⟩ = some a := cell_of_row W p 0 _ _ _ h
theorem keepsFrom_set {B b o : Nat} {v : Value} {W W' : World} (h : KeepsFrom B W W') (hb : b < B) : KeepsFrom B W (W'.setCell ⟨b, o, none⟩ v) :=
  h.trans (KeepsFrom.of_grownBy (grownBy_set W' b o v) (fun j e => by cases e; exact hb))
theorem keepsFrom_later {B : Nat} {W W' : World} (h : Later W W') : KeepsFrom B W W' := KeepsFrom.of_grownBy h.grown (fun j e => by cases e)
theorem ownFrom_size {β : Type} (B n : Nat) : OwnFrom B (fun (_ : β) W => n ≤ W.heap.size) := fun _ _ _ _ hs hg _ => Nat.le_trans hs hg.size
def acc : List (Int × Int) → Int
  | [] => 0
  | x :: l => x.1 * x.2 + acc l
theorem acc_append (l m : List (Int × Int)) : acc (l ++ m) = acc l + acc m := by
  induction l with
  | nil => simp [acc]
  | cons x l ih => simp [acc, ih, Int.add_assoc]
theorem acc_snoc (l : List (Int × Int)) (x : Int × Int) : acc (l ++ [x]) = acc l + x.1 * x.2 := by rw [acc_append]; simp [acc]
theorem mul_bound {a b : Int} (ha : -4611686018427387904 ≤ a ∧ a ≤ 4611686018427387904) (hb : -4611686018427387904 ≤ b ∧ b ≤ 4611686018427387904) :
    -21267647932558653966460912964485513216 ≤ a * b ∧ a * b ≤ 21267647932558653966460912964485513216 := by
  have h1 : a.natAbs ≤ 4611686018427387904 := by omega
  have h2 : b.natAbs ≤ 4611686018427387904 := by omega
  have h3 := Nat.mul_le_mul h1 h2
  rw [← Int.natAbs_mul] at h3
  omega
/-- Numbers that may be, of four. -/
def B4 (f : Nat → Int) : Prop := ∀ k, k < 4 → -4611686018427387904 ≤ f k ∧ f k ≤ 4611686018427387904
theorem acc_bound {f g : Nat → Int} (hf : B4 f) (hg : B4 g) : ∀ l : List K4, -21267647932558653966460912964485513216 * (l.length : Int) ≤ acc (l.map (pr4 f g)) ∧ acc (l.map (pr4 f g)) ≤ 21267647932558653966460912964485513216 * (l.length : Int)
  | [] => by simp [acc]
  | x :: l => by
    have ih := acc_bound hf hg l
    have hb := mul_bound (hf x.1 x.2) (hg x.1 x.2)
    rw [List.map_cons, List.length_cons]
    unfold acc
    show _ ≤ f x.1 * g x.1 + _ ∧ f x.1 * g x.1 + _ ≤ _
    omega
theorem acc_four (f g : Nat → Int) : acc (prs f g 4) = f 0 * g 0 + f 1 * g 1 + f 2 * g 2 + f 3 * g 3 := by
  simp [prs, acc]; omega
theorem acc_inW {f g : Nat → Int} (hf : B4 f) (hg : B4 g) (l : List K4) (h : l.length ≤ 4) : InW (acc (l.map (pr4 f g))) := by
  have := acc_bound hf hg l
  unfold InW; omega
theorem Later.of_grown {w w' : World} (h : w.grownBy w' none) : Later w w' := ⟨h.os, h.tape, h.output, h.size, fun k hk => h.block k hk (by simp)⟩
theorem grown_none {w0 w w' : World} {row : Option Nat} (h : w0.grownBy w none) (hg : w.grownBy w' row) (hr : ∀ r, row = some r → w0.heap.size ≤ r) : w0.grownBy w' none :=
  ⟨hg.os.trans h.os, hg.tape.trans h.tape, hg.output.trans h.output, Nat.le_trans h.size hg.size, fun k hk hne => by
    refine (hg.block k (Nat.lt_of_lt_of_le hk h.size) (fun e => ?_)).trans (h.block k hk hne)
    have := hr k e.symm; omega⟩
theorem ownFrom_none {β : Type} {B : Nat} {w₀ : World} (hB : w₀.heap.size ≤ B) : OwnFrom B (fun (_ : β) W => w₀.grownBy W none) :=
  fun _ _ _ _ hs hg hr => grown_none hs hg (fun r e => Nat.le_trans hB (hr r e).1)
theorem ownFrom_row {β : Type} {B k : Nat} {o : β → Obj} (hk : k < B) : OwnFrom B (fun (s : β) W => W.heap[k]? = some (o s)) :=
  fun _ A _ _ hs hg hr => (hg.block k (Array.getElem?_eq_some_iff.1 hs).1 (fun e => by have := (hr _ e.symm).1; omega)).trans hs

set_option maxRecDepth 100000 in
set_option maxHeartbeats 4000000 in
theorem sum_4 (a b oa ob : Nat) (f g : Nat → Int) (W : World) (hf : Four W a oa f) (hg : Four W b ob g) (hfb : B4 f) (hgb : B4 g) :
    Calls Try.prog 60 #[.slice (some ⟨a, oa, none⟩) 4 4, .slice (some ⟨b, ob, none⟩) 4 4] W fun e w' => e = .returned (.tuple #[wdV (acc (prs f g 4)), .int .i64 0]) ∧ Later W w' := by
  have hal : a < W.heap.size := cell_lt (hf 0 (by omega))
  have hbl : b < W.heap.size := cell_lt (hg 0 (by omega))
  refine (callsIn_wide (n := 4)).1 ?_
  refine callsIn_of_wp_marks Try.func60 rfl trivial ?_ rfl
  simp only [Try.ntmps60, List.size_toArray, List.length_cons, List.length_nil, Nat.reduceAdd, Nat.reduceSub, Array.replicate_succ, Array.replicate_zero, List.push_toArray, List.append_toArray, List.nil_append, List.cons_append]
  refine wpIn_wide.2 ?_
  go_wp2_with fail
  go_step3
  go_wp2_with fail
  refine wp_label ?_
  go_wp2_with fail
  refine (pairs_4 a b oa ob _).mono ?_
  rintro e w3 ⟨rfl, rfl⟩
  go_wp2_with fail
  obtain ⟨X, hX⟩ : ∃ X, X = ((((W.alloc (.cells #[.int .i64 0, .int .u64 0] 107)).alloc (.cells #[.int .i64 0, .int .u64 0] 107)).alloc (.cells #[.int .i64 0] 30)).alloc (.cells #[.slice (some ⟨a, oa, none⟩) 4 4] 110)).alloc (.cells #[.slice (some ⟨b, ob, none⟩) 4 4] 110) := ⟨_, rfl⟩
  rw [← hX]
  have hlX : Later W X := by rw [hX]; exact (((((Later.refl W).alloc _).alloc _).alloc _).alloc _).alloc _
  have kN : X.heap[W.heap.size]? = some (.cells #[.int .i64 0, .int .u64 0] 107 (0, 0)) := by rw [hX]; exact push_one (push_one (push_one (push_one (heap_alloc_new _ _) _) _) _) _
  have kO : X.heap[W.heap.size + 1]? = some (.cells #[.int .i64 0, .int .u64 0] 107 (0, 0)) := by rw [hX]; exact push_one (push_one (push_one (by simpa using heap_alloc_new (W.alloc _) _) _) _) _
  have kE : X.heap[W.heap.size + 1 + 1]? = some (.cells #[.int .i64 0] 30 (0, 0)) := by rw [hX]; exact push_one (push_one (by simpa using heap_alloc_new ((W.alloc _).alloc _) _) _) _
  have kA : X.cell? ⟨W.heap.size + 1 + 1 + 1, 0, none⟩ = some (.slice (some ⟨a, oa, none⟩) 4 4) := by rw [hX]; go_simp
  have kB : X.cell? ⟨W.heap.size + 1 + 1 + 1 + 1, 0, none⟩ = some (.slice (some ⟨b, ob, none⟩) 4 4) := by rw [hX]; go_simp
  have hXs : X.heap.size = W.heap.size + 5 := by rw [hX]; simp
  have HS := Lib.hid (pairs_stops (W.heap.size + 1 + 1 + 1) (W.heap.size + 1 + 1 + 1 + 1) a b oa ob f g (fun k => k ≤ W.heap.size ∨ k = W.heap.size + 1 + 1 + 1 ∨ k = W.heap.size + 1 + 1 + 1 + 1) X ⟨by omega, by omega, by omega, by omega⟩ kA kB (hf.later hlX) (hg.later hlX))
  obtain ⟨N, hN⟩ : ∃ N, Hid (W.heap.size = N) := ⟨_, rfl⟩
  obtain ⟨O, hO⟩ : ∃ O, Hid (N + 1 = O) := ⟨_, rfl⟩
  obtain ⟨E, hE⟩ : ∃ E, Hid (O + 1 = E) := ⟨_, rfl⟩
  obtain ⟨A, hA⟩ : ∃ A, Hid (E + 1 = A) := ⟨_, rfl⟩
  obtain ⟨B, hB⟩ : ∃ B, Hid (A + 1 = B) := ⟨_, rfl⟩
  have hNW : W.heap.size ≤ N := Nat.le_of_eq hN.out
  have hWN : N ≤ W.heap.size := Nat.le_of_eq hN.out.symm
  have hNO : N < O := by have := hO.out; omega
  have hOE : O < E := by have := hE.out; omega
  have hEA : E < A := by have := hA.out; omega
  have hAB : A < B := by have := hB.out; omega
  have hBX : B < X.heap.size := by have := hN.out; have := hO.out; have := hE.out; have := hA.out; have := hB.out; omega
  rw [hN.out, hO.out, hE.out, hA.out, hB.out] at HS
  rw [hN.out] at kN kO kE
  rw [hO.out] at kO kE
  rw [hE.out] at kE
  rw [hN.out, hO.out, hE.out, hA.out, hB.out]
  clear hX hXs kA kB hf hg hN hO hE hA hB
  refine (wpIn_wide (n := 4)).1 ?_
  refine wpIn_rangeFunc_ownG rfl (by omega) (gf := 103) (lb := #[wp A, wp B]) rfl trivial (enters_of Try.func103 (by kernel_rfl) rfl)
    HS.out KeepS.trans (fun W l o o' hl _ _ _ => KeepS.putObj W l o' (fun k hk => by rcases hk with h | h | h <;> omega)) (Below.refl _ _) (fun _ => rfl)
    (fun (pre : List K4) W' => W'.heap[O]? = some (.cells #[.int .i64 (hiW (acc (pre.map (pr4 f g)))), .int .u64 (loW (acc (pre.map (pr4 f g))))] 107 (0, 0)) ∧ W'.heap[E]? = some (.cells #[.int .i64 0] 30 (0, 0)) ∧ W'.heap[N]? = some (.cells #[.int .i64 0, .int .u64 0] 107 (0, 0)) ∧ X.heap.size ≤ W'.heap.size ∧ W.grownBy W' none)
    (fun _ _ _ => False)
    (OwnFrom.and (ownFrom_row (by omega)) (OwnFrom.and (ownFrom_row (by omega)) (OwnFrom.and (ownFrom_row (by omega)) (OwnFrom.and (ownFrom_size _ _) (ownFrom_none hlX.size)))))
    (fun _ _ _ _ _ hs _ _ => hs)
    ⟨by simp only [List.map_nil, acc, hiW_eq, loW_eq]; exact kO, kE, kN, Nat.le_refl _, hlX.grown⟩
    (fun x => { tmps := #[.slice (some ⟨a, oa, none⟩) 4 4, .slice (some ⟨b, ob, none⟩) 4 4, undef, undef, wp N, .int .i64 0, wp O, wp E, .int .i64 (f x.1), .int .i64 (g x.1), .slice (some ⟨a, oa, none⟩) 4 4, .slice (some ⟨b, ob, none⟩) 4 4, .func (.func 103) #[] #[wp A, wp B], .int .i64 (f x.1), .int .i64 (g x.1), undef, undef, undef, undef, undef, undef, undef, undef, undef, undef, undef, undef], defers := [] }) ?assign ?body ?done ?stop
  case assign =>
    intro l x W K hK
    gi_wp2
    exact hK
  case body =>
    rintro l pre x W1 ⟨kO1, kE1, kN1, hXs1, hG⟩ hlt
    have hb1 := hfb x.1 x.2
    have hb2 := hgb x.1 x.2
    have hI1 := acc_inW hfb hgb pre (by omega)
    have hI2 := acc_inW hfb hgb (pre ++ [x]) (by rw [List.length_append]; show pre.length + 1 ≤ 4; omega)
    have hs : acc ((pre ++ [x]).map (pr4 f g)) = acc (pre.map (pr4 f g)) + f x.1 * g x.1 := by rw [List.map_append]; exact acc_snoc _ _
    rw [hs] at hI2
    have hI3 : InW (f x.1 * g x.1) := by have := mul_bound hb1 hb2; unfold InW; omega
    have hM := Lib.hid (fun w => mul_any (f x.1) (g x.1) w (by omega) (by omega))
    have hAd := Lib.hid (fun w => add_any (acc (pre.map (pr4 f g))) (f x.1 * g x.1) w hI1 hI3 hI2)
    have HSS := Lib.hid hs
    have kOl := (Array.getElem?_eq_some_iff.1 kO1).1
    have o0 := (cells_2 kO1).1
    have o1 := (cells_2 kO1).2
    clear hs hI1 hI2 hI3
    gi_wp2_with fail
    gi_region_with (first | (refine ⟨trivial, ?_⟩; refine (CallsIn.inRound l (callsIn_wide.2 (hM.out _))).mono ?_; rintro e V1 ⟨rfl, hL1⟩; have kV1 := hL1.row kO1; have z0 := (cells_2 kV1).1; have z1 := (cells_2 kV1).2; have kVE1 := hL1.row kE1) | (refine ⟨trivial, ?_⟩; refine (CallsIn.inRound l (callsIn_wide.2 (hAd.out _))).mono ?_; rintro e V2 ⟨rfl, hL2⟩; have kV2 := hL2.row kV1; have zf2 := fun k => frozen_r kV2 k; have z20 := (cells_2 kV2).1; have z21 := (cells_2 kV2).2; have kVE2 := hL2.row kVE1; have ze0 := cell_1 kVE2; have zef := fun k => frozen_r kVE2 k))
    all_goals
      have hLV : Later W1 V2 := ((Later.refl W1).drew.trans hL1).trans hL2
      obtain ⟨Y, hY⟩ : ∃ Y, Y = ((V2.setCell ⟨O, 0, none⟩ (.int .i64 (hiW (acc (pre.map (pr4 f g)) + f x.1 * g x.1)))).setCell ⟨O, 1, none⟩ (.int .u64 (loW (acc (pre.map (pr4 f g)) + f x.1 * g x.1)))).setCell ⟨E, 0, none⟩ (.int .i64 0) := ⟨_, rfl⟩
      have yO : Y.heap[O]? = some (.cells #[.int .i64 (hiW (acc (pre.map (pr4 f g)) + f x.1 * g x.1)), .int .u64 (loW (acc (pre.map (pr4 f g)) + f x.1 * g x.1))] 107 (0, 0)) := by
        rw [hY]; exact (Below.heap_setCell _ _ _ O (by show O ≠ E; omega)).trans (heap_setC (heap_setC kV2))
      have yE : Y.heap[E]? = some (.cells #[.int .i64 0] 30 (0, 0)) := by
        rw [hY]; exact heap_setC ((Below.heap_setCell _ _ _ E (by show E ≠ O; omega)).trans ((Below.heap_setCell _ _ _ E (by show E ≠ O; omega)).trans kVE2))
      have yK : KeepsFrom X.heap.size W1 Y := by rw [hY]; exact keepsFrom_set (keepsFrom_set (keepsFrom_set (keepsFrom_later hLV) (by omega)) (by omega)) (by omega)
      have yN : Y.heap[N]? = some (.cells #[.int .i64 0, .int .u64 0] 107 (0, 0)) := by
        rw [hY]; exact (Below.heap_setCell _ _ _ N (by show N ≠ E; omega)).trans ((Below.heap_setCell _ _ _ N (by show N ≠ O; omega)).trans ((Below.heap_setCell _ _ _ N (by show N ≠ O; omega)).trans (hLV.row kN1)))
      have yS : KeepS (fun k => k ≤ N ∨ k = A ∨ k = B) W1 Y := by
        have hlt1 := hG.size
        rw [hY]
        refine KeepS.set (KeepS.set (KeepS.set (KeepS.later hLV (fun k hk => ?_)) ?_) ?_) ?_
        · have := kOl; rcases hk with h | h | h <;> omega
        · rintro (h | h | h) <;> omega
        · rintro (h | h | h) <;> omega
        · rintro (h | h | h) <;> omega
      have yG : W.grownBy Y none := by
        rw [hY]
        exact grown_none (grown_none (grown_none (grown_none hG hLV.grown (fun r e => by cases e)) (grownBy_set _ _ _ _) (fun r e => by cases e; omega)) (grownBy_set _ _ _ _) (fun r e => by cases e; omega)) (grownBy_set _ _ _ _) (fun r e => by cases e; omega)
      rw [← hY]
      have y0 := cell_1 yE
      clear hY kV2 zf2 z20 z21 kVE2 ze0 zef kV1 z0 z1 kVE1
      gi_wp2_with fail
      exact ⟨yK, yS, by rw [HSS.out]; exact yO, yE, yN, Nat.le_trans hXs1 yK.size, yG⟩
  case done =>
    rintro D ys W' hD hys ⟨kO1, kE1, kN1, hXs1, hG⟩ hK
    rw [hys] at kO1
    have o0 := (cells_2 kO1).1
    have o1 := (cells_2 kO1).2
    have e0 := cell_1 kE1
    have n0 := (cells_2 kN1).1
    have n1 := (cells_2 kN1).2
    have nf := fun k => frozen_r kN1 k
    go_wp2_with fail
    go_region
    all_goals
      go_wp2_with fail
      (try rw [Exit.noGoto_ret])
      refine ⟨by simp, .inl ⟨_, _, rfl, run_takeDeferred (b := D) ?_, ?_⟩⟩
      · exact (Below.heap_setCell _ _ _ D (by show D ≠ N; omega)).trans ((Below.heap_setCell _ _ _ D (by show D ≠ N; omega)).trans hK)
      · obtain ⟨Z0, hZ0⟩ : ∃ Z, Z = (W'.setCell ⟨N, 0, none⟩ (.int .i64 (hiW (acc (prs f g 4))))).setCell ⟨N, 1, none⟩ (.int .u64 (loW (acc (prs f g 4)))) := ⟨_, rfl⟩
        have kZ0 : Z0.drew.heap[N]? = some (.cells #[.int .i64 (hiW (acc (prs f g 4))), .int .u64 (loW (acc (prs f g 4)))] 107 (0, 0)) := by rw [hZ0]; exact heap_setC (heap_setC kN1)
        have kD0 : Z0.drew.heap[D]? = some (.deferred (some [])) := by rw [hZ0]; exact (Below.heap_setCell _ _ _ D (by show D ≠ N; omega)).trans ((Below.heap_setCell _ _ _ D (by show D ≠ N; omega)).trans hK)
        have hlZ : Later W Z0.drew := by rw [hZ0]; exact (((Later.of_grown hG).setCell hNW _).setCell hNW _).drew
        rw [← hZ0]
        obtain ⟨Z, hZ⟩ : ∃ Z, Z = Z0.drew.putObj D (.deferred none) := ⟨_, rfl⟩
        have kZ : Z.heap[N]? = some (.cells #[.int .i64 (hiW (acc (prs f g 4))), .int .u64 (loW (acc (prs f g 4)))] 107 (0, 0)) := by rw [hZ]; exact (World.putObj_heap_other (by omega)).trans kZ0
        have hlZ2 : Later W Z := by rw [hZ]; exact Below.trans hlZ (belowK_b (w := X) hlX.size Z0.drew D _ _ hD kD0 rfl rfl)
        rw [← hZ]
        clear hZ hZ0
        have z0 := (cells_2 kZ).1
        have z1 := (cells_2 kZ).2
        refine ⟨.tuple #[wdV (acc (prs f g 4)), .int .i64 0], ?_, rfl, hlZ2⟩
        simp only [results]; go_simp
  case stop =>
    rintro D c pre W _ _ h _
    exact h.elim
end Go.Proofs.Ytackbajbladhhaa
