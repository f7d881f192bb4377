/-
  Chapter 6: the first rule that is broken: the walk.
-/
import Derived.Test.YtackbajbladhhaaScI
namespace Go.Proofs.Ytackbajbladhhaa
open Go.RowKit Go.Shelf
set_option linter.unusedVariables false
set_option linter.unusedSimpArgs false
attribute [local go_sem] Oper.semAt_some

/-- These marks of ranges over functions have collected nothing. -/
def DefsOk (Ds : List Nat) (V : World) : Prop := ∀ D ∈ Ds, V.heap[D]? = some (.deferred (some []))
def defsOf (Ds : List Nat) : List Deferred := Ds.map fun D => { target := .collected D, args := #[] }
theorem ownFrom_defs {β : Type} {B : Nat} {Ds : List Nat} (h : ∀ D ∈ Ds, D < B) : OwnFrom B (fun (_ : β) V => DefsOk Ds V) :=
  fun _ A _ _ hs hg hr D hD => (hg.block D (Array.getElem?_eq_some_iff.1 (hs D hD)).1 (fun e => by have := (hr _ e.symm).1; have := h D hD; omega)).trans (hs D hD)
theorem DefsOk.later {Ds : List Nat} {V V' : World} (h : DefsOk Ds V) (hl : Later V V') : DefsOk Ds V' := fun D hD => hl.row (h D hD)
theorem DefsOk.set {Ds : List Nat} {V : World} {b o : Nat} {v : Value} (h : DefsOk Ds V) (hb : b ∉ Ds) : DefsOk Ds (V.setCell ⟨b, o, none⟩ v) := fun D hD => (Below.heap_setCell _ _ _ D (fun e => hb (by have e2 : D = b := e; rw [← e2]; exact hD))).trans (h D hD)
theorem DefsOk.lt {Ds : List Nat} {V : World} (h : DefsOk Ds V) : ∀ D ∈ Ds, D < V.heap.size := fun D hD => (Array.getElem?_eq_some_iff.1 (h D hD)).1
/-- What such marks' taking leaves as it was. -/
structure Taken (Ds : List Nat) (w w' : World) : Prop where
  os : w'.os = w.os
  tape : w'.tape = w.tape
  output : w'.output = w.output
  size : w'.heap.size = w.heap.size
  block : ∀ k, k ∉ Ds → w'.heap[k]? = w.heap[k]?
theorem leaves_all {n : Nat} {P : Program} {fn : Func} {tmps : Array Value} {R : Ending → World → Prop} : ∀ (Ds : List Nat) (w : World), DefsOk Ds w → Ds.Nodup →
    (∀ w', Taken Ds w w' → ∃ v, (results fn tmps).run P w' = .ok v w' ∧ R (.returned v) w') → LeavesInM Fence.wide n P fn tmps R (defsOf Ds) .returning w
  | [], w, _, _, h => by
    obtain ⟨v, h1, h2⟩ := h w ⟨rfl, rfl, rfl, rfl, fun _ _ => rfl⟩
    exact ⟨v, h1, h2⟩
  | D :: Ds, w, hd, hn, h => by
    have hD := hd D (by simp)
    obtain ⟨hn1, hn2⟩ := List.nodup_cons.1 hn
    refine ⟨by simp, .inl ⟨_, _, rfl, run_takeDeferred hD, ?_⟩⟩
    refine leaves_all Ds _ (fun E hE => ?_) hn2 (fun w' ht => h w' ⟨ht.os, ht.tape, ht.output, ?_, fun k hk => ?_⟩)
    · exact (World.putObj_heap_other (fun e => hn1 (by rw [← e]; exact hE))).trans (hd E (by simp [hE]))
    · rw [ht.size]; simp [World.putObj]
    · exact (ht.block k (fun e => hk (by simp [e]))).trans (World.putObj_heap_other (fun e => hk (by simp [e])))
theorem stop_all {n : Nat} {s : Scn} {W U : World} {P Q : Nat} {r k : Int} {Ds : List Nat} {tmps : Array Value} (hEq : wrongQ s = (r, k)) (uP : U.heap[P]? = some (.cells #[.int .i64 r] 3 (0, 0))) (uQ : U.heap[Q]? = some (.cells #[.int .i64 k] 3 (0, 0))) (ud : DefsOk Ds U)
    (hnd : Ds.Nodup) (hdq : ∀ D ∈ Ds, Q < D) (hPQ : P < Q) (uG : W.grownBy U none) (hWP : W.heap.size ≤ P) (hWQ : W.heap.size ≤ Q)
    (h2 : tmps.getD 2 undef = .pointer (some ⟨P, 0, none⟩)) (h3 : tmps.getD 3 undef = .pointer (some ⟨Q, 0, none⟩)) :
    LeavesInM Fence.wide n Try.prog Try.f34 tmps (fun e w' => e = .returned (.tuple #[.int .i64 (wrongQ s).1, .int .i64 (wrongQ s).2]) ∧ Later W w') (defsOf Ds) .returning (((U.setCell ⟨P, 0, none⟩ (.int .i64 r)).setCell ⟨Q, 0, none⟩ (.int .i64 k)).drew) := by
  have hb : ∀ b, b ≠ P → b ≠ Q → (((U.setCell ⟨P, 0, none⟩ (.int .i64 r)).setCell ⟨Q, 0, none⟩ (.int .i64 k)).drew).heap[b]? = U.heap[b]? := fun b h1 h2 => (Below.heap_setCell _ _ _ b h2).trans (Below.heap_setCell _ _ _ b h1)
  have zP : (((U.setCell ⟨P, 0, none⟩ (.int .i64 r)).setCell ⟨Q, 0, none⟩ (.int .i64 k)).drew).heap[P]? = some (.cells #[.int .i64 r] 3 (0, 0)) := (Below.heap_setCell _ _ _ P (by show P ≠ Q; omega)).trans (heap_setC uP)
  have zQ : (((U.setCell ⟨P, 0, none⟩ (.int .i64 r)).setCell ⟨Q, 0, none⟩ (.int .i64 k)).drew).heap[Q]? = some (.cells #[.int .i64 k] 3 (0, 0)) := heap_setC ((Below.heap_setCell _ _ _ Q (by show Q ≠ P; omega)).trans uQ)
  have zG : W.grownBy (((U.setCell ⟨P, 0, none⟩ (.int .i64 r)).setCell ⟨Q, 0, none⟩ (.int .i64 k)).drew) none := grown_none (grown_none (grown_none uG (grownBy_set U P 0 (.int .i64 r)) (fun r e => by cases e; omega)) (grownBy_set _ Q 0 (.int .i64 k)) (fun r e => by cases e; omega)) (drew_later _).grown (fun r e => by cases e)
  generalize (((U.setCell ⟨P, 0, none⟩ (.int .i64 r)).setCell ⟨Q, 0, none⟩ (.int .i64 k)).drew) = Z at hb zP zQ zG
  refine leaves_all Ds Z (fun E hE => ?_) hnd (fun w' ht => ?_)
  · have := hdq E hE
    exact (hb E (by omega) (by omega)).trans (ud E hE)
  · have hm : ∀ b, b ≤ Q → b ∉ Ds := fun b hb h => by have := hdq b h; omega
    have wP := cell_1 ((ht.block P (hm P (by omega))).trans zP)
    have wQ := cell_1 ((ht.block Q (hm Q (by omega))).trans zQ)
    refine ⟨.tuple #[.int .i64 r, .int .i64 k], ?_, by rw [hEq], ⟨ht.os.trans zG.os, ht.tape.trans zG.tape, ht.output.trans zG.output, by rw [ht.size]; exact zG.size, fun b hb' => (ht.block b (hm b (by omega))).trans (zG.block b hb' (by simp))⟩⟩
    rw [Array.getD_eq_getD_getElem?] at h2 h3
    simp [results, Try.f34, h2, h3, asAddr, Sem.run_bind]
    go_simp
theorem stop_end {n : Nat} {s : Scn} {W U : World} {P Q D : Nat} {r k : Int} {Ds : List Nat} {tmps : Array Value} (hEq : wrongQ s = (r, k)) (uP : U.heap[P]? = some (.cells #[.int .i64 r] 3 (0, 0))) (uQ : U.heap[Q]? = some (.cells #[.int .i64 k] 3 (0, 0))) (ud : DefsOk Ds U)
    (hnd : Ds.Nodup) (hdq : ∀ D ∈ Ds, Q < D) (hPQ : P < Q) (hQD : Q < D) (hK : U.heap[D]? = some (.deferred (some []))) (uG : W.grownBy U none) (hWP : W.heap.size ≤ P) (hWQ : W.heap.size ≤ Q) (hlt : ∀ E ∈ Ds, E < D)
    (h2 : tmps.getD 2 undef = .pointer (some ⟨P, 0, none⟩)) (h3 : tmps.getD 3 undef = .pointer (some ⟨Q, 0, none⟩)) :
    LeavesInM Fence.wide n Try.prog Try.f34 tmps (fun e w' => e = .returned (.tuple #[.int .i64 (wrongQ s).1, .int .i64 (wrongQ s).2]) ∧ Later W w') (defsOf (D :: Ds)) .returning (((U.setCell ⟨P, 0, none⟩ (.int .i64 r)).setCell ⟨Q, 0, none⟩ (.int .i64 k)).drew) :=
  stop_all hEq uP uQ (fun E hE => by
    rcases List.mem_cons.1 hE with e | h
    · rw [e]; exact hK
    · exact ud E h) (List.nodup_cons.2 ⟨fun h => by have := hlt D h; omega, hnd⟩) (fun E hE => by
    rcases List.mem_cons.1 hE with e | h
    · rw [e]; exact hQD
    · exact hdq E h) hPQ uG hWP hWQ h2 h3
set_option maxRecDepth 100000 in
set_option maxHeartbeats 4000000 in
theorem wrong_any (s : Scn) (W : World) (hs : s.Ok W) :
    Calls Try.prog 34 #[s.V] W fun e w' => e = .returned (.tuple #[.int .i64 (wrongQ s).1, .int .i64 (wrongQ s).2]) ∧ Later W w' := by
  obtain ⟨X, hX⟩ : ∃ X, X = ((W.alloc (.cells s.row.toArray 28)).alloc (.cells #[.int .i64 0] 3)).alloc (.cells #[.int .i64 0] 3) := ⟨_, rfl⟩
  have hlX : Later W X := by rw [hX]; exact (((Later.refl W).alloc _).alloc _).alloc _
  have kS : ScnB X W.heap.size s := by rw [hX]; exact push_one (push_one (heap_alloc_new _ _) _) _
  have kP : X.heap[W.heap.size + 1]? = some (.cells #[.int .i64 0] 3 (0, 0)) := by rw [hX]; exact push_one (push_new _ _ (by simp)) _
  have kQ : X.heap[W.heap.size + 1 + 1]? = some (.cells #[.int .i64 0] 3 (0, 0)) := by rw [hX]; exact push_new _ _ (by simp)
  have hXs : X.heap.size = W.heap.size + 3 := by rw [hX]; simp
  refine (callsIn_wide (n := 4)).1 ?_
  refine callsIn_of_wp_marks Try.func34 rfl trivial ?_ rfl
  simp only [Try.ntmps34, List.size_toArray, List.length_cons, List.length_nil, Nat.reduceAdd, Nat.reduceSub, Array.replicate_succ, Array.replicate_zero, List.push_toArray, List.append_toArray, List.nil_append, List.cons_append]
  refine wpIn_wide.2 ?_
  have sw := kS.w
  have sh := kS.h
  go_upto_region 1 with fail
  rw [← hX]
  clear hX
  replace hXs := Lib.hid hXs
  obtain ⟨N, hN⟩ : ∃ N, Hid (W.heap.size = N) := ⟨_, rfl⟩
  obtain ⟨P, hP⟩ : ∃ P, Hid (N + 1 = P) := ⟨_, rfl⟩
  obtain ⟨Q, hQ⟩ : ∃ Q, Hid (P + 1 = Q) := ⟨_, rfl⟩
  have hNW : W.heap.size ≤ N := Nat.le_of_eq hN.out
  have hWN : N ≤ W.heap.size := Nat.le_of_eq hN.out.symm
  have hNP : N < P := by have := hP.out; omega
  have hPQ : P < Q := by have := hQ.out; omega
  have hQX : Q < X.heap.size := by have := hQ.out; have := hP.out; have := hN.out; have := hXs.out; omega
  have hXQ : X.heap.size ≤ Q + 1 := by have := hQ.out; have := hP.out; have := hN.out; have := hXs.out; omega
  rw [hN.out] at kS kP kQ sw sh ⊢
  rw [hP.out] at kP kQ ⊢
  rw [hQ.out] at kQ ⊢
  clear hN hP hQ hXs
  have hI := Lib.hid (fun W => in_any 1 64 [s.W, s.H] _ _ (rowsV_new W [s.W, s.H] (by simp)) (by simp))
  obtain ⟨b, hb⟩ : ∃ b, Hid (allIn 1 64 [s.W, s.H] = b) := ⟨_, rfl⟩
  rw [hb.out] at hI
  go_step3
  go_wp2_with fail
  refine (hI.out _).mono ?_
  rintro e w2 ⟨rfl, hl2⟩
  have hlX2 : Later X w2 := ((Later.refl X).alloc _).trans hl2
  cases b
  ·
    have kP1 := hlX2.row kP
    have kQ1 := hlX2.row kQ
    have p0 := cell_1 kP1
    have pf := fun k => frozen_r kP1 k
    have q0 := cell_1 kQ1
    have qf := fun k => frozen_r kQ1 k
    go_wp2_with fail
    have hEq : wrongQ s = (1, -1) := by unfold wrongQ sizeMay; rw [if_pos hb.out]
    (try rw [Exit.noGoto_ret])
    refine ⟨.tuple #[.int .i64 (1), .int .i64 (-1)], ?_, ?_, ((hlX.trans hlX2).setCell (by show W.heap.size ≤ P; omega) _).setCell (by show W.heap.size ≤ Q; omega) _⟩
    · simp only [results]; go_simp
    · rw [show wrongQ s = (1, -1) from hEq]
  · have hC := Lib.hid (fun W => check_any s.cam 16777216 W (by omega))
    have sc2 := rangeAt_later kS.cam hlX2
    have hsc := len_mat s.cam
    by_cases hw : Within 16777216 16 s.cam
    case neg =>
      rw [if_neg hw] at hC
      go_wp2_with (refine wpList_load_mid rfl _ _ rfl N 2 rfl _ _ sc2 Try.underlying25 rfl hsc ?_)
      refine (hC.out _).mono ?_
      rintro e w3 ⟨rfl, hl3⟩
      have hlX3 := hlX2.trans hl3
      have kP1 := hlX3.row kP
      have kQ1 := hlX3.row kQ
      have p0 := cell_1 kP1
      have pf := fun k => frozen_r kP1 k
      have q0 := cell_1 kQ1
      have qf := fun k => frozen_r kQ1 k
      go_wp2_with fail
      have hEq : wrongQ s = (2, -1) := by unfold wrongQ sizeMay; rw [hb.out, if_neg (by simp), if_pos hw]
      (try rw [Exit.noGoto_ret])
      refine ⟨.tuple #[.int .i64 (2), .int .i64 (-1)], ?_, ?_, ((hlX.trans hlX3).setCell (by show W.heap.size ≤ P; omega) _).setCell (by show W.heap.size ≤ Q; omega) _⟩
      · simp only [results]; go_simp
      · rw [show wrongQ s = (2, -1) from hEq]
    case pos =>
      rw [if_pos hw] at hC
      have hw := Lib.hid hw
      go_wp2_with (refine wpList_load_mid rfl _ _ rfl N 2 rfl _ _ sc2 Try.underlying25 rfl hsc ?_)
      refine (hC.out _).mono ?_
      rintro e w3 ⟨rfl, hl3⟩
      have hlX3 := hlX2.trans hl3
      have kP1 := hlX3.row kP
      have kQ1 := hlX3.row kQ
      have p0 := cell_1 kP1
      have pf := fun k => frozen_r kP1 k
      have q0 := cell_1 kQ1
      have qf := fun k => frozen_r kQ1 k
      obtain ⟨ao, cap, hu⟩ := hs.1.form
      rw [List.length_map] at hu
      have so := hlX3.cell kS.uo
      rw [hu] at so
      have hu := Lib.hid hu
      obtain ⟨n, hn⟩ : ∃ n, Hid (s.os.length = n) := ⟨_, rfl⟩
      rw [hn.out] at so
      by_cases h16 : 16 < n
      · have hi : (16 : Int) < n := by omega
        go_wp2_with fail
        have hEq : wrongQ s = (3, -1) := by unfold wrongQ sizeMay; rw [hb.out, if_neg (by simp), if_neg (fun h => h hw.out), if_pos (by rw [hn.out]; exact h16)]
        (try rw [Exit.noGoto_ret])
        refine ⟨.tuple #[.int .i64 (3), .int .i64 (-1)], ?_, ?_, ((hlX.trans hlX3).setCell (by show W.heap.size ≤ P; omega) _).setCell (by show W.heap.size ≤ Q; omega) _⟩
        · simp only [results]; go_simp
        · rw [show wrongQ s = (3, -1) from hEq]
      · have hi : (n : Int) ≤ 16 := by omega
        have hd16 : decide ((16 : Int) < n) = false := decide_eq_false (by omega)
        go_wp2_with fail
        obtain ⟨Y, hY⟩ : ∃ Y, Y = w3.setCell ⟨Q, 0, none⟩ (.int .i64 (-1)) := ⟨_, rfl⟩
        have hlY : Later W Y := by rw [hY]; exact (hlX.trans hlX3).setCell (by show W.heap.size ≤ Q; omega) _
        have yS : ScnB Y N s := by rw [hY]; exact (Below.heap_setCell _ _ _ N (by show N ≠ Q; omega)).trans (hlX3.row kS)
        have yP : Y.heap[P]? = some (.cells #[.int .i64 0] 3 (0, 0)) := by rw [hY]; exact (Below.heap_setCell _ _ _ P (by show P ≠ Q; omega)).trans kP1
        have yQ : Y.heap[Q]? = some (.cells #[.int .i64 (-1)] 3 (0, 0)) := by rw [hY]; exact heap_setC kQ1
        rw [← hY]
        clear hY kP1 kQ1 p0 pf q0 qf so sc2 sw sh hC hI hlX3 hl3 hlX2 hl2 hlX kS kP kQ hQX hXQ hsc
        refine wp_label ?_
        go_wp2_with fail
        refine wp_loop_rounds 6 ?_
        rw [rounds_succ]
        have t4 : (Y.alloc (.cells #[.int .i64 4] 3)).heap[Y.heap.size]? = some (.cells #[.int .i64 4] 3 (0, 0)) := heap_alloc_new _ _
        obtain ⟨T, hT⟩ : ∃ T, Hid (Y.heap.size = T) := ⟨_, rfl⟩
        have hPT : Q < T := by have := (Array.getElem?_eq_some_iff.1 yQ).1; have := hT.out; omega
        obtain ⟨Z, hZ⟩ : ∃ Z, Z = Y.alloc (.cells #[.int .i64 4] 3) := ⟨_, rfl⟩
        have hl := (Later.refl Y).alloc (.cells #[.int .i64 4] 3)
        rw [← hZ] at t4 hl
        rw [hT.out] at t4
        rw [← hZ, hT.out]
        replace yS := hl.row yS
        replace yP := hl.row yP
        replace yQ := hl.row yQ
        have hlZ := hlY.trans hl
        have hd : DefsOk [] Z := fun D hD => by simp at hD
        have hwf : Hid (wrongQ s = wrongFrom s 5 4) := Lib.hid (by unfold wrongQ sizeMay; rw [hb.out, if_neg (by simp), if_neg (fun h => h hw.out), if_neg (by rw [hn.out]; exact h16)])
        have hDPQ : Hid (∀ D ∈ ([] : List Nat), Q < D) := Lib.hid (fun D hD => by simp at hD)
        clear hZ hT hlY hl
        have hnd : Hid (([] : List Nat).Nodup) := Lib.hid List.nodup_nil
        have c4 := cell_1 t4
        go_wp2_with (refine wpList_load_row rfl _ _ rfl N rfl _ _ (0, 0) _ yS Try.underlying28 rfl (by rw [List.size_toArray]; exact size_scn s) ?_)
        refine (broken_any s 4 _).mono ?_
        rintro e Z1 ⟨rfl, rfl⟩
        obtain ⟨V, hV⟩ : ∃ V, V = (Z.alloc (.cells s.row.toArray 28)).alloc (.cells #[.int .i64 4] 3) := ⟨_, rfl⟩
        have hlV : Later Z V := by rw [hV]; exact ((Later.refl Z).alloc _).alloc _
        have vS : ScnB V Z.heap.size s := by rw [hV]; exact push_one (heap_alloc_new _ _) _
        have vR : V.heap[Z.heap.size + 1]? = some (.cells #[.int .i64 ((4 : Nat) : Int)] 3 (0, 0)) := by rw [hV]; exact push_new _ _ (by simp)
        have hVs : Z.heap.size + 1 < V.heap.size := by rw [hV]; simp
        have v4 := hlV.row t4
        have vN := hlV.row yS
        have vP := hlV.row yP
        have vQ := hlV.row yQ
        have vd := hd.later hlV
        have hlWV := hlZ.trans hlV
        rw [← hV]
        clear hV
        have hvl : (4 : Nat) = 8 → ∀ x ∈ s.os, x.vs.length ≤ 1000000 := by first | (intro h; omega) | exact fun _ => seven_verts hnil.out
        have HS := Lib.hid (broken_stops Z.heap.size (Z.heap.size + 1) s 4 (fun k => k < W.heap.size ∨ k = Z.heap.size ∨ k = Z.heap.size + 1) V (by rw [hn.out]; omega) (by omega) hvl ⟨.inr (.inl rfl), .inr (.inr rfl)⟩
          (fun j hj => by have := hlWV.size; rcases hj with h | h | h <;> omega) (fun U hU => hs.same (fun k hk => (hU k (.inl hk)).trans (hlWV.block k hk))) vS vR)
        have hTV : T < V.heap.size := (Array.getElem?_eq_some_iff.1 v4).1
        obtain ⟨S', hS'⟩ : ∃ S', Hid (Z.heap.size = S') := ⟨_, rfl⟩
        have hTS : T < S' := by have := (Array.getElem?_eq_some_iff.1 t4).1; have := hS'.out; omega
        have hSV : S' + 1 < V.heap.size := by have := hS'.out; omega
        rw [hS'.out] at HS ⊢
        have hDlt := vd.lt
        clear vS vR hS' hvl hVs
        go_wp2_with fail
        refine (wpIn_wide (n := 4)).1 ?_
        refine wpIn_rangeFunc_ownG rfl (by omega) (gf := 72) (lb := #[wp S', wp (S' + 1)]) rfl trivial (enters_of Try.func72 (by kernel_rfl) rfl)
          HS.out KeepS.trans (fun W l o o' hl _ _ _ => KeepS.putObj W l o' (fun k hk => by have := hlWV.size; rcases hk with h | h | h <;> omega)) (Below.refl _ _) (fun _ => rfl)
          (fun (pre : List Nat) U => pre = [] ∧ U.heap[T]? = some (.cells #[.int .i64 4] 3 (0, 0)) ∧ U.heap[P]? = some (.cells #[.int .i64 0] 3 (0, 0)) ∧ U.heap[Q]? = some (.cells #[.int .i64 (-1)] 3 (0, 0)) ∧ ScnB U N s ∧ DefsOk [] U ∧ V.heap.size ≤ U.heap.size ∧ W.grownBy U none)
          (fun c pre U => c = .exit 1 ∧ (∃ k : Nat, pre = [k] ∧ U.heap[P]? = some (.cells #[.int .i64 4] 3 (0, 0)) ∧ U.heap[Q]? = some (.cells #[.int .i64 k] 3 (0, 0))) ∧ DefsOk [] U ∧ W.grownBy U none)
          (OwnFrom.and (ownFrom_pure _ _) (OwnFrom.and (ownFrom_row (by omega)) (OwnFrom.and (ownFrom_row (by omega)) (OwnFrom.and (ownFrom_row (by omega)) (OwnFrom.and (ownFrom_row (by omega)) (OwnFrom.and (ownFrom_defs hDlt) (OwnFrom.and (ownFrom_size _ _) (ownFrom_none hlWV.size))))))))
          (fun c => OwnFrom.and (ownFrom_pure _ _) (OwnFrom.and (fun _ _ _ _ ⟨k, h1, h2, h3⟩ hg hr => ⟨k, h1, cells_stand hg hr h2, cells_stand hg hr h3⟩) (OwnFrom.and (ownFrom_defs hDlt) (ownFrom_none hlWV.size))))
          ⟨rfl, v4, vP, vQ, vN, vd, Nat.le_refl _, hlWV.grown⟩
          ?ax4 ?assign4 ?body4 ?done4 ?stop4
        case assign4 =>
          intro l x U K hK
          gi_wp2
          exact hK
        case body4 =>
          rintro l pre x U ⟨rfl, uT, uP, uQ, uN, ud, us, uG⟩ hlt
          have ut := cell_1 uT
          have up := cell_1 uP
          have uq := cell_1 uQ
          have upf := fun k => frozen_r uP k
          have uqf := fun k => frozen_r uQ k
          have hPD : P ∉ [] := fun h => by have := hDPQ.out P h; omega
          have hQD : Q ∉ [] := fun h => by have := hDPQ.out Q h; omega
          have e1 := Lib.hid (keepsFrom_set (b := Q) (o := 0) (v := .int .i64 x) (keepsFrom_set (b := P) (o := 0) (v := .int .i64 4) (KeepsFrom.refl V.heap.size U) (by omega)) (by omega))
          have e2 : Hid (((U.setCell ⟨P, 0, none⟩ (.int .i64 4)).setCell ⟨Q, 0, none⟩ (.int .i64 x)).heap[P]? = some (.cells #[.int .i64 4] 3 (0, 0))) := Lib.hid ((Below.heap_setCell _ _ _ P (by show P ≠ Q; omega)).trans (heap_setC uP))
          have e3 : Hid (((U.setCell ⟨P, 0, none⟩ (.int .i64 4)).setCell ⟨Q, 0, none⟩ (.int .i64 x)).heap[Q]? = some (.cells #[.int .i64 x] 3 (0, 0))) := Lib.hid (heap_setC ((Below.heap_setCell _ _ _ Q (by show Q ≠ P; omega)).trans uQ))
          have e4 := Lib.hid (DefsOk.set (b := Q) (o := 0) (v := .int .i64 x) (DefsOk.set (b := P) (o := 0) (v := .int .i64 4) ud hPD) hQD)
          have e5 := Lib.hid (grown_none (grown_none uG (grownBy_set U P 0 (.int .i64 4)) (fun r e => by cases e; omega)) (grownBy_set _ Q 0 (.int .i64 x)) (fun r e => by cases e; omega))
          gi_wp2_with fail
          exact ⟨e1.out, rfl, ⟨x, rfl, e2.out, e3.out⟩, e4.out, e5.out⟩
        case stop4 =>
          rintro D c pre U hD hsp ⟨rfl, ⟨k, rfl, uP, uQ⟩, ud, uG⟩ hK
          have up := cell_1 uP
          have uq := cell_1 uQ
          have upf := fun k => frozen_r uP k
          have uqf := fun k => frozen_r uQ k
          have hEq : wrongQ s = (((4 : Nat) : Int), (k : Int)) := by
            obtain ⟨k', x, hx, hb', hL⟩ := hsp
            obtain ⟨h1, h2⟩ : badL s 4 k' = [] ∧ k = k' := by
              cases hbl : badL s 4 k' with
              | nil => rw [hbl] at hL; simp at hL; exact ⟨rfl, hL⟩
              | cons a l => rw [hbl] at hL; simp at hL
            subst h2
            obtain ⟨l, hl⟩ := badL_cons hx hb' h1 (n := s.os.length) (List.getElem?_eq_some_iff.1 hx).1
            rw [hwf.out]
            exact wrongFrom_hit hl
          replace hEq := Lib.hid hEq
          refine wpIn_wide.2 ?_
          go_wp2_with fail
          go_region
          all_goals
            go_wp2_with fail
            (try rw [Exit.noGoto_ret])
            refine stop_end hEq.out uP uQ ud hnd.out hDPQ.out (by omega) (by omega) hK uG (by omega) (by omega) (fun E hE => by have := hDlt E hE; omega) rfl rfl
        rintro D4 xs U hD hxs ⟨hx0, uT, uP, uQ, uN, ud, us, uG⟩ hK
        have hnil := Lib.hid (hxs.symm.trans hx0)
        have hwf2 : Hid (wrongQ s = wrongFrom s 4 5) := Lib.hid (by rw [hwf.out]; exact wrongFrom_miss hnil.out)
        have hDPQ2 : Hid (∀ D ∈ (D4 :: [] : List Nat), Q < D) := Lib.hid (fun D hD2 => by
          rcases List.mem_cons.1 hD2 with e | h
          · (rw [e]; omega)
          · exact hDPQ.out D h)
        have hnd2 : Hid ((D4 :: [] : List Nat).Nodup) := Lib.hid (List.nodup_cons.2 ⟨fun h => (by have := hDlt D4 h; omega), hnd.out⟩)
        have hd2 : DefsOk (D4 :: []) U := fun D hD2 => by
          rcases List.mem_cons.1 hD2 with e | h
          · (rw [e]; exact hK)
          · exact ud D h
        have ut := cell_1 uT
        go_wp2_with fail
        clear hwf hDPQ hnd hd HS hDlt hxs hx0 t4 c4 v4 vN vP vQ vd yS yP yQ hlV hlWV hlZ hTS hSV hTV
        have hlZ := Later.of_grown uG
        have yS := uN
        have yP := uP
        have yQ := uQ
        have hd := hd2
        have hwf := hwf2
        have hDPQ := hDPQ2
        have hnd := hnd2
        clear uN uP uQ hd2 hwf2 hDPQ2 hnd2 uT ut ud uG hK us
        have t4 : (U.alloc (.cells #[.int .i64 5] 3)).heap[U.heap.size]? = some (.cells #[.int .i64 5] 3 (0, 0)) := heap_alloc_new _ _
        rw [rounds_succ]
        obtain ⟨Z, hZ⟩ : ∃ Z, Z = U.alloc (.cells #[.int .i64 5] 3) := ⟨_, rfl⟩
        obtain ⟨T, hT⟩ : ∃ T, Hid (U.heap.size = T) := ⟨_, rfl⟩
        have hPT : Q < T := by have := (Array.getElem?_eq_some_iff.1 yQ).1; have := hT.out; omega
        have hl := (Later.refl U).alloc (.cells #[.int .i64 5] 3)
        rw [← hZ] at t4 hl
        rw [hT.out] at t4
        rw [← hZ, hT.out]
        replace yS := hl.row yS
        replace yP := hl.row yP
        replace yQ := hl.row yQ
        replace hd := hd.later hl
        replace hlZ := hlZ.trans hl
        clear hZ hT hl
        have c4 := cell_1 t4
        go_wp2_with (refine wpList_load_row rfl _ _ rfl N rfl _ _ (0, 0) _ yS Try.underlying28 rfl (by rw [List.size_toArray]; exact size_scn s) ?_)
        refine (broken_any s 5 _).mono ?_
        rintro e Z1 ⟨rfl, rfl⟩
        obtain ⟨V, hV⟩ : ∃ V, V = (Z.alloc (.cells s.row.toArray 28)).alloc (.cells #[.int .i64 5] 3) := ⟨_, rfl⟩
        have hlV : Later Z V := by rw [hV]; exact ((Later.refl Z).alloc _).alloc _
        have vS : ScnB V Z.heap.size s := by rw [hV]; exact push_one (heap_alloc_new _ _) _
        have vR : V.heap[Z.heap.size + 1]? = some (.cells #[.int .i64 ((5 : Nat) : Int)] 3 (0, 0)) := by rw [hV]; exact push_new _ _ (by simp)
        have hVs : Z.heap.size + 1 < V.heap.size := by rw [hV]; simp
        have v4 := hlV.row t4
        have vN := hlV.row yS
        have vP := hlV.row yP
        have vQ := hlV.row yQ
        have vd := hd.later hlV
        have hlWV := hlZ.trans hlV
        rw [← hV]
        clear hV
        have hvl : (5 : Nat) = 8 → ∀ x ∈ s.os, x.vs.length ≤ 1000000 := by first | (intro h; omega) | exact fun _ => seven_verts hnil.out
        have HS := Lib.hid (broken_stops Z.heap.size (Z.heap.size + 1) s 5 (fun k => k < W.heap.size ∨ k = Z.heap.size ∨ k = Z.heap.size + 1) V (by rw [hn.out]; omega) (by omega) hvl ⟨.inr (.inl rfl), .inr (.inr rfl)⟩
          (fun j hj => by have := hlWV.size; rcases hj with h | h | h <;> omega) (fun U hU => hs.same (fun k hk => (hU k (.inl hk)).trans (hlWV.block k hk))) vS vR)
        have hTV : T < V.heap.size := (Array.getElem?_eq_some_iff.1 v4).1
        obtain ⟨S', hS'⟩ : ∃ S', Hid (Z.heap.size = S') := ⟨_, rfl⟩
        have hTS : T < S' := by have := (Array.getElem?_eq_some_iff.1 t4).1; have := hS'.out; omega
        have hSV : S' + 1 < V.heap.size := by have := hS'.out; omega
        rw [hS'.out] at HS ⊢
        have hDlt := vd.lt
        clear vS vR hS' hvl hVs
        go_wp2_with fail
        refine (wpIn_wide (n := 4)).1 ?_
        refine wpIn_rangeFunc_ownG rfl (by omega) (gf := 72) (lb := #[wp S', wp (S' + 1)]) rfl trivial (enters_of Try.func72 (by kernel_rfl) rfl)
          HS.out KeepS.trans (fun W l o o' hl _ _ _ => KeepS.putObj W l o' (fun k hk => by have := hlWV.size; rcases hk with h | h | h <;> omega)) (Below.refl _ _) (fun _ => rfl)
          (fun (pre : List Nat) U => pre = [] ∧ U.heap[T]? = some (.cells #[.int .i64 5] 3 (0, 0)) ∧ U.heap[P]? = some (.cells #[.int .i64 0] 3 (0, 0)) ∧ U.heap[Q]? = some (.cells #[.int .i64 (-1)] 3 (0, 0)) ∧ ScnB U N s ∧ DefsOk [D4] U ∧ V.heap.size ≤ U.heap.size ∧ W.grownBy U none)
          (fun c pre U => c = .exit 1 ∧ (∃ k : Nat, pre = [k] ∧ U.heap[P]? = some (.cells #[.int .i64 5] 3 (0, 0)) ∧ U.heap[Q]? = some (.cells #[.int .i64 k] 3 (0, 0))) ∧ DefsOk [D4] U ∧ W.grownBy U none)
          (OwnFrom.and (ownFrom_pure _ _) (OwnFrom.and (ownFrom_row (by omega)) (OwnFrom.and (ownFrom_row (by omega)) (OwnFrom.and (ownFrom_row (by omega)) (OwnFrom.and (ownFrom_row (by omega)) (OwnFrom.and (ownFrom_defs hDlt) (OwnFrom.and (ownFrom_size _ _) (ownFrom_none hlWV.size))))))))
          (fun c => OwnFrom.and (ownFrom_pure _ _) (OwnFrom.and (fun _ _ _ _ ⟨k, h1, h2, h3⟩ hg hr => ⟨k, h1, cells_stand hg hr h2, cells_stand hg hr h3⟩) (OwnFrom.and (ownFrom_defs hDlt) (ownFrom_none hlWV.size))))
          ⟨rfl, v4, vP, vQ, vN, vd, Nat.le_refl _, hlWV.grown⟩
          ?ax5 ?assign5 ?body5 ?done5 ?stop5
        case assign5 =>
          intro l x U K hK
          gi_wp2
          exact hK
        case body5 =>
          rintro l pre x U ⟨rfl, uT, uP, uQ, uN, ud, us, uG⟩ hlt
          have ut := cell_1 uT
          have up := cell_1 uP
          have uq := cell_1 uQ
          have upf := fun k => frozen_r uP k
          have uqf := fun k => frozen_r uQ k
          have hPD : P ∉ [D4] := fun h => by have := hDPQ.out P h; omega
          have hQD : Q ∉ [D4] := fun h => by have := hDPQ.out Q h; omega
          have e1 := Lib.hid (keepsFrom_set (b := Q) (o := 0) (v := .int .i64 x) (keepsFrom_set (b := P) (o := 0) (v := .int .i64 5) (KeepsFrom.refl V.heap.size U) (by omega)) (by omega))
          have e2 : Hid (((U.setCell ⟨P, 0, none⟩ (.int .i64 5)).setCell ⟨Q, 0, none⟩ (.int .i64 x)).heap[P]? = some (.cells #[.int .i64 5] 3 (0, 0))) := Lib.hid ((Below.heap_setCell _ _ _ P (by show P ≠ Q; omega)).trans (heap_setC uP))
          have e3 : Hid (((U.setCell ⟨P, 0, none⟩ (.int .i64 5)).setCell ⟨Q, 0, none⟩ (.int .i64 x)).heap[Q]? = some (.cells #[.int .i64 x] 3 (0, 0))) := Lib.hid (heap_setC ((Below.heap_setCell _ _ _ Q (by show Q ≠ P; omega)).trans uQ))
          have e4 := Lib.hid (DefsOk.set (b := Q) (o := 0) (v := .int .i64 x) (DefsOk.set (b := P) (o := 0) (v := .int .i64 5) ud hPD) hQD)
          have e5 := Lib.hid (grown_none (grown_none uG (grownBy_set U P 0 (.int .i64 5)) (fun r e => by cases e; omega)) (grownBy_set _ Q 0 (.int .i64 x)) (fun r e => by cases e; omega))
          gi_wp2_with fail
          exact ⟨e1.out, rfl, ⟨x, rfl, e2.out, e3.out⟩, e4.out, e5.out⟩
        case stop5 =>
          rintro D c pre U hD hsp ⟨rfl, ⟨k, rfl, uP, uQ⟩, ud, uG⟩ hK
          have up := cell_1 uP
          have uq := cell_1 uQ
          have upf := fun k => frozen_r uP k
          have uqf := fun k => frozen_r uQ k
          have hEq : wrongQ s = (((5 : Nat) : Int), (k : Int)) := by
            obtain ⟨k', x, hx, hb', hL⟩ := hsp
            obtain ⟨h1, h2⟩ : badL s 5 k' = [] ∧ k = k' := by
              cases hbl : badL s 5 k' with
              | nil => rw [hbl] at hL; simp at hL; exact ⟨rfl, hL⟩
              | cons a l => rw [hbl] at hL; simp at hL
            subst h2
            obtain ⟨l, hl⟩ := badL_cons hx hb' h1 (n := s.os.length) (List.getElem?_eq_some_iff.1 hx).1
            rw [hwf.out]
            exact wrongFrom_hit hl
          replace hEq := Lib.hid hEq
          refine wpIn_wide.2 ?_
          go_wp2_with fail
          go_region
          all_goals
            go_wp2_with fail
            (try rw [Exit.noGoto_ret])
            refine stop_end hEq.out uP uQ ud hnd.out hDPQ.out (by omega) (by omega) hK uG (by omega) (by omega) (fun E hE => by have := hDlt E hE; omega) rfl rfl
        rintro D5 xs U hD hxs ⟨hx0, uT, uP, uQ, uN, ud, us, uG⟩ hK
        have hnil := Lib.hid (hxs.symm.trans hx0)
        have hwf2 : Hid (wrongQ s = wrongFrom s 3 6) := Lib.hid (by rw [hwf.out]; exact wrongFrom_miss hnil.out)
        have hDPQ2 : Hid (∀ D ∈ (D5 :: [D4] : List Nat), Q < D) := Lib.hid (fun D hD2 => by
          rcases List.mem_cons.1 hD2 with e | h
          · (rw [e]; omega)
          · exact hDPQ.out D h)
        have hnd2 : Hid ((D5 :: [D4] : List Nat).Nodup) := Lib.hid (List.nodup_cons.2 ⟨fun h => (by have := hDlt D5 h; omega), hnd.out⟩)
        have hd2 : DefsOk (D5 :: [D4]) U := fun D hD2 => by
          rcases List.mem_cons.1 hD2 with e | h
          · (rw [e]; exact hK)
          · exact ud D h
        have ut := cell_1 uT
        go_wp2_with fail
        clear hwf hDPQ hnd hd HS hDlt hxs hx0 t4 c4 v4 vN vP vQ vd yS yP yQ hlV hlWV hlZ hTS hSV hTV
        have hlZ := Later.of_grown uG
        have yS := uN
        have yP := uP
        have yQ := uQ
        have hd := hd2
        have hwf := hwf2
        have hDPQ := hDPQ2
        have hnd := hnd2
        clear uN uP uQ hd2 hwf2 hDPQ2 hnd2 uT ut ud uG hK us
        have t4 : (U.alloc (.cells #[.int .i64 6] 3)).heap[U.heap.size]? = some (.cells #[.int .i64 6] 3 (0, 0)) := heap_alloc_new _ _
        rw [rounds_succ]
        obtain ⟨Z, hZ⟩ : ∃ Z, Z = U.alloc (.cells #[.int .i64 6] 3) := ⟨_, rfl⟩
        obtain ⟨T, hT⟩ : ∃ T, Hid (U.heap.size = T) := ⟨_, rfl⟩
        have hPT : Q < T := by have := (Array.getElem?_eq_some_iff.1 yQ).1; have := hT.out; omega
        have hl := (Later.refl U).alloc (.cells #[.int .i64 6] 3)
        rw [← hZ] at t4 hl
        rw [hT.out] at t4
        rw [← hZ, hT.out]
        replace yS := hl.row yS
        replace yP := hl.row yP
        replace yQ := hl.row yQ
        replace hd := hd.later hl
        replace hlZ := hlZ.trans hl
        clear hZ hT hl
        have c4 := cell_1 t4
        go_wp2_with (refine wpList_load_row rfl _ _ rfl N rfl _ _ (0, 0) _ yS Try.underlying28 rfl (by rw [List.size_toArray]; exact size_scn s) ?_)
        refine (broken_any s 6 _).mono ?_
        rintro e Z1 ⟨rfl, rfl⟩
        obtain ⟨V, hV⟩ : ∃ V, V = (Z.alloc (.cells s.row.toArray 28)).alloc (.cells #[.int .i64 6] 3) := ⟨_, rfl⟩
        have hlV : Later Z V := by rw [hV]; exact ((Later.refl Z).alloc _).alloc _
        have vS : ScnB V Z.heap.size s := by rw [hV]; exact push_one (heap_alloc_new _ _) _
        have vR : V.heap[Z.heap.size + 1]? = some (.cells #[.int .i64 ((6 : Nat) : Int)] 3 (0, 0)) := by rw [hV]; exact push_new _ _ (by simp)
        have hVs : Z.heap.size + 1 < V.heap.size := by rw [hV]; simp
        have v4 := hlV.row t4
        have vN := hlV.row yS
        have vP := hlV.row yP
        have vQ := hlV.row yQ
        have vd := hd.later hlV
        have hlWV := hlZ.trans hlV
        rw [← hV]
        clear hV
        have hvl : (6 : Nat) = 8 → ∀ x ∈ s.os, x.vs.length ≤ 1000000 := by first | (intro h; omega) | exact fun _ => seven_verts hnil.out
        have HS := Lib.hid (broken_stops Z.heap.size (Z.heap.size + 1) s 6 (fun k => k < W.heap.size ∨ k = Z.heap.size ∨ k = Z.heap.size + 1) V (by rw [hn.out]; omega) (by omega) hvl ⟨.inr (.inl rfl), .inr (.inr rfl)⟩
          (fun j hj => by have := hlWV.size; rcases hj with h | h | h <;> omega) (fun U hU => hs.same (fun k hk => (hU k (.inl hk)).trans (hlWV.block k hk))) vS vR)
        have hTV : T < V.heap.size := (Array.getElem?_eq_some_iff.1 v4).1
        obtain ⟨S', hS'⟩ : ∃ S', Hid (Z.heap.size = S') := ⟨_, rfl⟩
        have hTS : T < S' := by have := (Array.getElem?_eq_some_iff.1 t4).1; have := hS'.out; omega
        have hSV : S' + 1 < V.heap.size := by have := hS'.out; omega
        rw [hS'.out] at HS ⊢
        have hDlt := vd.lt
        clear vS vR hS' hvl hVs
        go_wp2_with fail
        refine (wpIn_wide (n := 4)).1 ?_
        refine wpIn_rangeFunc_ownG rfl (by omega) (gf := 72) (lb := #[wp S', wp (S' + 1)]) rfl trivial (enters_of Try.func72 (by kernel_rfl) rfl)
          HS.out KeepS.trans (fun W l o o' hl _ _ _ => KeepS.putObj W l o' (fun k hk => by have := hlWV.size; rcases hk with h | h | h <;> omega)) (Below.refl _ _) (fun _ => rfl)
          (fun (pre : List Nat) U => pre = [] ∧ U.heap[T]? = some (.cells #[.int .i64 6] 3 (0, 0)) ∧ U.heap[P]? = some (.cells #[.int .i64 0] 3 (0, 0)) ∧ U.heap[Q]? = some (.cells #[.int .i64 (-1)] 3 (0, 0)) ∧ ScnB U N s ∧ DefsOk [D5, D4] U ∧ V.heap.size ≤ U.heap.size ∧ W.grownBy U none)
          (fun c pre U => c = .exit 1 ∧ (∃ k : Nat, pre = [k] ∧ U.heap[P]? = some (.cells #[.int .i64 6] 3 (0, 0)) ∧ U.heap[Q]? = some (.cells #[.int .i64 k] 3 (0, 0))) ∧ DefsOk [D5, D4] U ∧ W.grownBy U none)
          (OwnFrom.and (ownFrom_pure _ _) (OwnFrom.and (ownFrom_row (by omega)) (OwnFrom.and (ownFrom_row (by omega)) (OwnFrom.and (ownFrom_row (by omega)) (OwnFrom.and (ownFrom_row (by omega)) (OwnFrom.and (ownFrom_defs hDlt) (OwnFrom.and (ownFrom_size _ _) (ownFrom_none hlWV.size))))))))
          (fun c => OwnFrom.and (ownFrom_pure _ _) (OwnFrom.and (fun _ _ _ _ ⟨k, h1, h2, h3⟩ hg hr => ⟨k, h1, cells_stand hg hr h2, cells_stand hg hr h3⟩) (OwnFrom.and (ownFrom_defs hDlt) (ownFrom_none hlWV.size))))
          ⟨rfl, v4, vP, vQ, vN, vd, Nat.le_refl _, hlWV.grown⟩
          ?ax6 ?assign6 ?body6 ?done6 ?stop6
        case assign6 =>
          intro l x U K hK
          gi_wp2
          exact hK
        case body6 =>
          rintro l pre x U ⟨rfl, uT, uP, uQ, uN, ud, us, uG⟩ hlt
          have ut := cell_1 uT
          have up := cell_1 uP
          have uq := cell_1 uQ
          have upf := fun k => frozen_r uP k
          have uqf := fun k => frozen_r uQ k
          have hPD : P ∉ [D5, D4] := fun h => by have := hDPQ.out P h; omega
          have hQD : Q ∉ [D5, D4] := fun h => by have := hDPQ.out Q h; omega
          have e1 := Lib.hid (keepsFrom_set (b := Q) (o := 0) (v := .int .i64 x) (keepsFrom_set (b := P) (o := 0) (v := .int .i64 6) (KeepsFrom.refl V.heap.size U) (by omega)) (by omega))
          have e2 : Hid (((U.setCell ⟨P, 0, none⟩ (.int .i64 6)).setCell ⟨Q, 0, none⟩ (.int .i64 x)).heap[P]? = some (.cells #[.int .i64 6] 3 (0, 0))) := Lib.hid ((Below.heap_setCell _ _ _ P (by show P ≠ Q; omega)).trans (heap_setC uP))
          have e3 : Hid (((U.setCell ⟨P, 0, none⟩ (.int .i64 6)).setCell ⟨Q, 0, none⟩ (.int .i64 x)).heap[Q]? = some (.cells #[.int .i64 x] 3 (0, 0))) := Lib.hid (heap_setC ((Below.heap_setCell _ _ _ Q (by show Q ≠ P; omega)).trans uQ))
          have e4 := Lib.hid (DefsOk.set (b := Q) (o := 0) (v := .int .i64 x) (DefsOk.set (b := P) (o := 0) (v := .int .i64 6) ud hPD) hQD)
          have e5 := Lib.hid (grown_none (grown_none uG (grownBy_set U P 0 (.int .i64 6)) (fun r e => by cases e; omega)) (grownBy_set _ Q 0 (.int .i64 x)) (fun r e => by cases e; omega))
          gi_wp2_with fail
          exact ⟨e1.out, rfl, ⟨x, rfl, e2.out, e3.out⟩, e4.out, e5.out⟩
        case stop6 =>
          rintro D c pre U hD hsp ⟨rfl, ⟨k, rfl, uP, uQ⟩, ud, uG⟩ hK
          have up := cell_1 uP
          have uq := cell_1 uQ
          have upf := fun k => frozen_r uP k
          have uqf := fun k => frozen_r uQ k
          have hEq : wrongQ s = (((6 : Nat) : Int), (k : Int)) := by
            obtain ⟨k', x, hx, hb', hL⟩ := hsp
            obtain ⟨h1, h2⟩ : badL s 6 k' = [] ∧ k = k' := by
              cases hbl : badL s 6 k' with
              | nil => rw [hbl] at hL; simp at hL; exact ⟨rfl, hL⟩
              | cons a l => rw [hbl] at hL; simp at hL
            subst h2
            obtain ⟨l, hl⟩ := badL_cons hx hb' h1 (n := s.os.length) (List.getElem?_eq_some_iff.1 hx).1
            rw [hwf.out]
            exact wrongFrom_hit hl
          replace hEq := Lib.hid hEq
          refine wpIn_wide.2 ?_
          go_wp2_with fail
          go_region
          all_goals
            go_wp2_with fail
            (try rw [Exit.noGoto_ret])
            refine stop_end hEq.out uP uQ ud hnd.out hDPQ.out (by omega) (by omega) hK uG (by omega) (by omega) (fun E hE => by have := hDlt E hE; omega) rfl rfl
        rintro D6 xs U hD hxs ⟨hx0, uT, uP, uQ, uN, ud, us, uG⟩ hK
        have hnil := Lib.hid (hxs.symm.trans hx0)
        have hwf2 : Hid (wrongQ s = wrongFrom s 2 7) := Lib.hid (by rw [hwf.out]; exact wrongFrom_miss hnil.out)
        have hDPQ2 : Hid (∀ D ∈ (D6 :: [D5, D4] : List Nat), Q < D) := Lib.hid (fun D hD2 => by
          rcases List.mem_cons.1 hD2 with e | h
          · (rw [e]; omega)
          · exact hDPQ.out D h)
        have hnd2 : Hid ((D6 :: [D5, D4] : List Nat).Nodup) := Lib.hid (List.nodup_cons.2 ⟨fun h => (by have := hDlt D6 h; omega), hnd.out⟩)
        have hd2 : DefsOk (D6 :: [D5, D4]) U := fun D hD2 => by
          rcases List.mem_cons.1 hD2 with e | h
          · (rw [e]; exact hK)
          · exact ud D h
        have ut := cell_1 uT
        go_wp2_with fail
        clear hwf hDPQ hnd hd HS hDlt hxs hx0 t4 c4 v4 vN vP vQ vd yS yP yQ hlV hlWV hlZ hTS hSV hTV
        have hlZ := Later.of_grown uG
        have yS := uN
        have yP := uP
        have yQ := uQ
        have hd := hd2
        have hwf := hwf2
        have hDPQ := hDPQ2
        have hnd := hnd2
        clear uN uP uQ hd2 hwf2 hDPQ2 hnd2 uT ut ud uG hK us
        have t4 : (U.alloc (.cells #[.int .i64 7] 3)).heap[U.heap.size]? = some (.cells #[.int .i64 7] 3 (0, 0)) := heap_alloc_new _ _
        rw [rounds_succ]
        obtain ⟨Z, hZ⟩ : ∃ Z, Z = U.alloc (.cells #[.int .i64 7] 3) := ⟨_, rfl⟩
        obtain ⟨T, hT⟩ : ∃ T, Hid (U.heap.size = T) := ⟨_, rfl⟩
        have hPT : Q < T := by have := (Array.getElem?_eq_some_iff.1 yQ).1; have := hT.out; omega
        have hl := (Later.refl U).alloc (.cells #[.int .i64 7] 3)
        rw [← hZ] at t4 hl
        rw [hT.out] at t4
        rw [← hZ, hT.out]
        replace yS := hl.row yS
        replace yP := hl.row yP
        replace yQ := hl.row yQ
        replace hd := hd.later hl
        replace hlZ := hlZ.trans hl
        clear hZ hT hl
        have c4 := cell_1 t4
        go_wp2_with (refine wpList_load_row rfl _ _ rfl N rfl _ _ (0, 0) _ yS Try.underlying28 rfl (by rw [List.size_toArray]; exact size_scn s) ?_)
        refine (broken_any s 7 _).mono ?_
        rintro e Z1 ⟨rfl, rfl⟩
        obtain ⟨V, hV⟩ : ∃ V, V = (Z.alloc (.cells s.row.toArray 28)).alloc (.cells #[.int .i64 7] 3) := ⟨_, rfl⟩
        have hlV : Later Z V := by rw [hV]; exact ((Later.refl Z).alloc _).alloc _
        have vS : ScnB V Z.heap.size s := by rw [hV]; exact push_one (heap_alloc_new _ _) _
        have vR : V.heap[Z.heap.size + 1]? = some (.cells #[.int .i64 ((7 : Nat) : Int)] 3 (0, 0)) := by rw [hV]; exact push_new _ _ (by simp)
        have hVs : Z.heap.size + 1 < V.heap.size := by rw [hV]; simp
        have v4 := hlV.row t4
        have vN := hlV.row yS
        have vP := hlV.row yP
        have vQ := hlV.row yQ
        have vd := hd.later hlV
        have hlWV := hlZ.trans hlV
        rw [← hV]
        clear hV
        have hvl : (7 : Nat) = 8 → ∀ x ∈ s.os, x.vs.length ≤ 1000000 := by first | (intro h; omega) | exact fun _ => seven_verts hnil.out
        have HS := Lib.hid (broken_stops Z.heap.size (Z.heap.size + 1) s 7 (fun k => k < W.heap.size ∨ k = Z.heap.size ∨ k = Z.heap.size + 1) V (by rw [hn.out]; omega) (by omega) hvl ⟨.inr (.inl rfl), .inr (.inr rfl)⟩
          (fun j hj => by have := hlWV.size; rcases hj with h | h | h <;> omega) (fun U hU => hs.same (fun k hk => (hU k (.inl hk)).trans (hlWV.block k hk))) vS vR)
        have hTV : T < V.heap.size := (Array.getElem?_eq_some_iff.1 v4).1
        obtain ⟨S', hS'⟩ : ∃ S', Hid (Z.heap.size = S') := ⟨_, rfl⟩
        have hTS : T < S' := by have := (Array.getElem?_eq_some_iff.1 t4).1; have := hS'.out; omega
        have hSV : S' + 1 < V.heap.size := by have := hS'.out; omega
        rw [hS'.out] at HS ⊢
        have hDlt := vd.lt
        clear vS vR hS' hvl hVs
        go_wp2_with fail
        refine (wpIn_wide (n := 4)).1 ?_
        refine wpIn_rangeFunc_ownG rfl (by omega) (gf := 72) (lb := #[wp S', wp (S' + 1)]) rfl trivial (enters_of Try.func72 (by kernel_rfl) rfl)
          HS.out KeepS.trans (fun W l o o' hl _ _ _ => KeepS.putObj W l o' (fun k hk => by have := hlWV.size; rcases hk with h | h | h <;> omega)) (Below.refl _ _) (fun _ => rfl)
          (fun (pre : List Nat) U => pre = [] ∧ U.heap[T]? = some (.cells #[.int .i64 7] 3 (0, 0)) ∧ U.heap[P]? = some (.cells #[.int .i64 0] 3 (0, 0)) ∧ U.heap[Q]? = some (.cells #[.int .i64 (-1)] 3 (0, 0)) ∧ ScnB U N s ∧ DefsOk [D6, D5, D4] U ∧ V.heap.size ≤ U.heap.size ∧ W.grownBy U none)
          (fun c pre U => c = .exit 1 ∧ (∃ k : Nat, pre = [k] ∧ U.heap[P]? = some (.cells #[.int .i64 7] 3 (0, 0)) ∧ U.heap[Q]? = some (.cells #[.int .i64 k] 3 (0, 0))) ∧ DefsOk [D6, D5, D4] U ∧ W.grownBy U none)
          (OwnFrom.and (ownFrom_pure _ _) (OwnFrom.and (ownFrom_row (by omega)) (OwnFrom.and (ownFrom_row (by omega)) (OwnFrom.and (ownFrom_row (by omega)) (OwnFrom.and (ownFrom_row (by omega)) (OwnFrom.and (ownFrom_defs hDlt) (OwnFrom.and (ownFrom_size _ _) (ownFrom_none hlWV.size))))))))
          (fun c => OwnFrom.and (ownFrom_pure _ _) (OwnFrom.and (fun _ _ _ _ ⟨k, h1, h2, h3⟩ hg hr => ⟨k, h1, cells_stand hg hr h2, cells_stand hg hr h3⟩) (OwnFrom.and (ownFrom_defs hDlt) (ownFrom_none hlWV.size))))
          ⟨rfl, v4, vP, vQ, vN, vd, Nat.le_refl _, hlWV.grown⟩
          ?ax7 ?assign7 ?body7 ?done7 ?stop7
        case assign7 =>
          intro l x U K hK
          gi_wp2
          exact hK
        case body7 =>
          rintro l pre x U ⟨rfl, uT, uP, uQ, uN, ud, us, uG⟩ hlt
          have ut := cell_1 uT
          have up := cell_1 uP
          have uq := cell_1 uQ
          have upf := fun k => frozen_r uP k
          have uqf := fun k => frozen_r uQ k
          have hPD : P ∉ [D6, D5, D4] := fun h => by have := hDPQ.out P h; omega
          have hQD : Q ∉ [D6, D5, D4] := fun h => by have := hDPQ.out Q h; omega
          have e1 := Lib.hid (keepsFrom_set (b := Q) (o := 0) (v := .int .i64 x) (keepsFrom_set (b := P) (o := 0) (v := .int .i64 7) (KeepsFrom.refl V.heap.size U) (by omega)) (by omega))
          have e2 : Hid (((U.setCell ⟨P, 0, none⟩ (.int .i64 7)).setCell ⟨Q, 0, none⟩ (.int .i64 x)).heap[P]? = some (.cells #[.int .i64 7] 3 (0, 0))) := Lib.hid ((Below.heap_setCell _ _ _ P (by show P ≠ Q; omega)).trans (heap_setC uP))
          have e3 : Hid (((U.setCell ⟨P, 0, none⟩ (.int .i64 7)).setCell ⟨Q, 0, none⟩ (.int .i64 x)).heap[Q]? = some (.cells #[.int .i64 x] 3 (0, 0))) := Lib.hid (heap_setC ((Below.heap_setCell _ _ _ Q (by show Q ≠ P; omega)).trans uQ))
          have e4 := Lib.hid (DefsOk.set (b := Q) (o := 0) (v := .int .i64 x) (DefsOk.set (b := P) (o := 0) (v := .int .i64 7) ud hPD) hQD)
          have e5 := Lib.hid (grown_none (grown_none uG (grownBy_set U P 0 (.int .i64 7)) (fun r e => by cases e; omega)) (grownBy_set _ Q 0 (.int .i64 x)) (fun r e => by cases e; omega))
          gi_wp2_with fail
          exact ⟨e1.out, rfl, ⟨x, rfl, e2.out, e3.out⟩, e4.out, e5.out⟩
        case stop7 =>
          rintro D c pre U hD hsp ⟨rfl, ⟨k, rfl, uP, uQ⟩, ud, uG⟩ hK
          have up := cell_1 uP
          have uq := cell_1 uQ
          have upf := fun k => frozen_r uP k
          have uqf := fun k => frozen_r uQ k
          have hEq : wrongQ s = (((7 : Nat) : Int), (k : Int)) := by
            obtain ⟨k', x, hx, hb', hL⟩ := hsp
            obtain ⟨h1, h2⟩ : badL s 7 k' = [] ∧ k = k' := by
              cases hbl : badL s 7 k' with
              | nil => rw [hbl] at hL; simp at hL; exact ⟨rfl, hL⟩
              | cons a l => rw [hbl] at hL; simp at hL
            subst h2
            obtain ⟨l, hl⟩ := badL_cons hx hb' h1 (n := s.os.length) (List.getElem?_eq_some_iff.1 hx).1
            rw [hwf.out]
            exact wrongFrom_hit hl
          replace hEq := Lib.hid hEq
          refine wpIn_wide.2 ?_
          go_wp2_with fail
          go_region
          all_goals
            go_wp2_with fail
            (try rw [Exit.noGoto_ret])
            refine stop_end hEq.out uP uQ ud hnd.out hDPQ.out (by omega) (by omega) hK uG (by omega) (by omega) (fun E hE => by have := hDlt E hE; omega) rfl rfl
        rintro D7 xs U hD hxs ⟨hx0, uT, uP, uQ, uN, ud, us, uG⟩ hK
        have hnil := Lib.hid (hxs.symm.trans hx0)
        have hwf2 : Hid (wrongQ s = wrongFrom s 1 8) := Lib.hid (by rw [hwf.out]; exact wrongFrom_miss hnil.out)
        have hDPQ2 : Hid (∀ D ∈ (D7 :: [D6, D5, D4] : List Nat), Q < D) := Lib.hid (fun D hD2 => by
          rcases List.mem_cons.1 hD2 with e | h
          · (rw [e]; omega)
          · exact hDPQ.out D h)
        have hnd2 : Hid ((D7 :: [D6, D5, D4] : List Nat).Nodup) := Lib.hid (List.nodup_cons.2 ⟨fun h => (by have := hDlt D7 h; omega), hnd.out⟩)
        have hd2 : DefsOk (D7 :: [D6, D5, D4]) U := fun D hD2 => by
          rcases List.mem_cons.1 hD2 with e | h
          · (rw [e]; exact hK)
          · exact ud D h
        have ut := cell_1 uT
        go_wp2_with fail
        clear hwf hDPQ hnd hd HS hDlt hxs hx0 t4 c4 v4 vN vP vQ vd yS yP yQ hlV hlWV hlZ hTS hSV hTV
        have hlZ := Later.of_grown uG
        have yS := uN
        have yP := uP
        have yQ := uQ
        have hd := hd2
        have hwf := hwf2
        have hDPQ := hDPQ2
        have hnd := hnd2
        clear uN uP uQ hd2 hwf2 hDPQ2 hnd2 uT ut ud uG hK us
        have t4 : (U.alloc (.cells #[.int .i64 8] 3)).heap[U.heap.size]? = some (.cells #[.int .i64 8] 3 (0, 0)) := heap_alloc_new _ _
        rw [rounds_succ]
        obtain ⟨Z, hZ⟩ : ∃ Z, Z = U.alloc (.cells #[.int .i64 8] 3) := ⟨_, rfl⟩
        obtain ⟨T, hT⟩ : ∃ T, Hid (U.heap.size = T) := ⟨_, rfl⟩
        have hPT : Q < T := by have := (Array.getElem?_eq_some_iff.1 yQ).1; have := hT.out; omega
        have hl := (Later.refl U).alloc (.cells #[.int .i64 8] 3)
        rw [← hZ] at t4 hl
        rw [hT.out] at t4
        rw [← hZ, hT.out]
        replace yS := hl.row yS
        replace yP := hl.row yP
        replace yQ := hl.row yQ
        replace hd := hd.later hl
        replace hlZ := hlZ.trans hl
        clear hZ hT hl
        have c4 := cell_1 t4
        go_wp2_with (refine wpList_load_row rfl _ _ rfl N rfl _ _ (0, 0) _ yS Try.underlying28 rfl (by rw [List.size_toArray]; exact size_scn s) ?_)
        refine (broken_any s 8 _).mono ?_
        rintro e Z1 ⟨rfl, rfl⟩
        obtain ⟨V, hV⟩ : ∃ V, V = (Z.alloc (.cells s.row.toArray 28)).alloc (.cells #[.int .i64 8] 3) := ⟨_, rfl⟩
        have hlV : Later Z V := by rw [hV]; exact ((Later.refl Z).alloc _).alloc _
        have vS : ScnB V Z.heap.size s := by rw [hV]; exact push_one (heap_alloc_new _ _) _
        have vR : V.heap[Z.heap.size + 1]? = some (.cells #[.int .i64 ((8 : Nat) : Int)] 3 (0, 0)) := by rw [hV]; exact push_new _ _ (by simp)
        have hVs : Z.heap.size + 1 < V.heap.size := by rw [hV]; simp
        have v4 := hlV.row t4
        have vN := hlV.row yS
        have vP := hlV.row yP
        have vQ := hlV.row yQ
        have vd := hd.later hlV
        have hlWV := hlZ.trans hlV
        rw [← hV]
        clear hV
        have hvl : (8 : Nat) = 8 → ∀ x ∈ s.os, x.vs.length ≤ 1000000 := by first | (intro h; omega) | exact fun _ => seven_verts hnil.out
        have HS := Lib.hid (broken_stops Z.heap.size (Z.heap.size + 1) s 8 (fun k => k < W.heap.size ∨ k = Z.heap.size ∨ k = Z.heap.size + 1) V (by rw [hn.out]; omega) (by omega) hvl ⟨.inr (.inl rfl), .inr (.inr rfl)⟩
          (fun j hj => by have := hlWV.size; rcases hj with h | h | h <;> omega) (fun U hU => hs.same (fun k hk => (hU k (.inl hk)).trans (hlWV.block k hk))) vS vR)
        have hTV : T < V.heap.size := (Array.getElem?_eq_some_iff.1 v4).1
        obtain ⟨S', hS'⟩ : ∃ S', Hid (Z.heap.size = S') := ⟨_, rfl⟩
        have hTS : T < S' := by have := (Array.getElem?_eq_some_iff.1 t4).1; have := hS'.out; omega
        have hSV : S' + 1 < V.heap.size := by have := hS'.out; omega
        rw [hS'.out] at HS ⊢
        have hDlt := vd.lt
        clear vS vR hS' hvl hVs
        go_wp2_with fail
        refine (wpIn_wide (n := 4)).1 ?_
        refine wpIn_rangeFunc_ownG rfl (by omega) (gf := 72) (lb := #[wp S', wp (S' + 1)]) rfl trivial (enters_of Try.func72 (by kernel_rfl) rfl)
          HS.out KeepS.trans (fun W l o o' hl _ _ _ => KeepS.putObj W l o' (fun k hk => by have := hlWV.size; rcases hk with h | h | h <;> omega)) (Below.refl _ _) (fun _ => rfl)
          (fun (pre : List Nat) U => pre = [] ∧ U.heap[T]? = some (.cells #[.int .i64 8] 3 (0, 0)) ∧ U.heap[P]? = some (.cells #[.int .i64 0] 3 (0, 0)) ∧ U.heap[Q]? = some (.cells #[.int .i64 (-1)] 3 (0, 0)) ∧ ScnB U N s ∧ DefsOk [D7, D6, D5, D4] U ∧ V.heap.size ≤ U.heap.size ∧ W.grownBy U none)
          (fun c pre U => c = .exit 1 ∧ (∃ k : Nat, pre = [k] ∧ U.heap[P]? = some (.cells #[.int .i64 8] 3 (0, 0)) ∧ U.heap[Q]? = some (.cells #[.int .i64 k] 3 (0, 0))) ∧ DefsOk [D7, D6, D5, D4] U ∧ W.grownBy U none)
          (OwnFrom.and (ownFrom_pure _ _) (OwnFrom.and (ownFrom_row (by omega)) (OwnFrom.and (ownFrom_row (by omega)) (OwnFrom.and (ownFrom_row (by omega)) (OwnFrom.and (ownFrom_row (by omega)) (OwnFrom.and (ownFrom_defs hDlt) (OwnFrom.and (ownFrom_size _ _) (ownFrom_none hlWV.size))))))))
          (fun c => OwnFrom.and (ownFrom_pure _ _) (OwnFrom.and (fun _ _ _ _ ⟨k, h1, h2, h3⟩ hg hr => ⟨k, h1, cells_stand hg hr h2, cells_stand hg hr h3⟩) (OwnFrom.and (ownFrom_defs hDlt) (ownFrom_none hlWV.size))))
          ⟨rfl, v4, vP, vQ, vN, vd, Nat.le_refl _, hlWV.grown⟩
          ?ax8 ?assign8 ?body8 ?done8 ?stop8
        case assign8 =>
          intro l x U K hK
          gi_wp2
          exact hK
        case body8 =>
          rintro l pre x U ⟨rfl, uT, uP, uQ, uN, ud, us, uG⟩ hlt
          have ut := cell_1 uT
          have up := cell_1 uP
          have uq := cell_1 uQ
          have upf := fun k => frozen_r uP k
          have uqf := fun k => frozen_r uQ k
          have hPD : P ∉ [D7, D6, D5, D4] := fun h => by have := hDPQ.out P h; omega
          have hQD : Q ∉ [D7, D6, D5, D4] := fun h => by have := hDPQ.out Q h; omega
          have e1 := Lib.hid (keepsFrom_set (b := Q) (o := 0) (v := .int .i64 x) (keepsFrom_set (b := P) (o := 0) (v := .int .i64 8) (KeepsFrom.refl V.heap.size U) (by omega)) (by omega))
          have e2 : Hid (((U.setCell ⟨P, 0, none⟩ (.int .i64 8)).setCell ⟨Q, 0, none⟩ (.int .i64 x)).heap[P]? = some (.cells #[.int .i64 8] 3 (0, 0))) := Lib.hid ((Below.heap_setCell _ _ _ P (by show P ≠ Q; omega)).trans (heap_setC uP))
          have e3 : Hid (((U.setCell ⟨P, 0, none⟩ (.int .i64 8)).setCell ⟨Q, 0, none⟩ (.int .i64 x)).heap[Q]? = some (.cells #[.int .i64 x] 3 (0, 0))) := Lib.hid (heap_setC ((Below.heap_setCell _ _ _ Q (by show Q ≠ P; omega)).trans uQ))
          have e4 := Lib.hid (DefsOk.set (b := Q) (o := 0) (v := .int .i64 x) (DefsOk.set (b := P) (o := 0) (v := .int .i64 8) ud hPD) hQD)
          have e5 := Lib.hid (grown_none (grown_none uG (grownBy_set U P 0 (.int .i64 8)) (fun r e => by cases e; omega)) (grownBy_set _ Q 0 (.int .i64 x)) (fun r e => by cases e; omega))
          gi_wp2_with fail
          exact ⟨e1.out, rfl, ⟨x, rfl, e2.out, e3.out⟩, e4.out, e5.out⟩
        case stop8 =>
          rintro D c pre U hD hsp ⟨rfl, ⟨k, rfl, uP, uQ⟩, ud, uG⟩ hK
          have up := cell_1 uP
          have uq := cell_1 uQ
          have upf := fun k => frozen_r uP k
          have uqf := fun k => frozen_r uQ k
          have hEq : wrongQ s = (((8 : Nat) : Int), (k : Int)) := by
            obtain ⟨k', x, hx, hb', hL⟩ := hsp
            obtain ⟨h1, h2⟩ : badL s 8 k' = [] ∧ k = k' := by
              cases hbl : badL s 8 k' with
              | nil => rw [hbl] at hL; simp at hL; exact ⟨rfl, hL⟩
              | cons a l => rw [hbl] at hL; simp at hL
            subst h2
            obtain ⟨l, hl⟩ := badL_cons hx hb' h1 (n := s.os.length) (List.getElem?_eq_some_iff.1 hx).1
            rw [hwf.out]
            exact wrongFrom_hit hl
          replace hEq := Lib.hid hEq
          refine wpIn_wide.2 ?_
          go_wp2_with fail
          go_region
          all_goals
            go_wp2_with fail
            (try rw [Exit.noGoto_ret])
            refine stop_end hEq.out uP uQ ud hnd.out hDPQ.out (by omega) (by omega) hK uG (by omega) (by omega) (fun E hE => by have := hDlt E hE; omega) rfl rfl
        rintro D8 xs U hD hxs ⟨hx0, uT, uP, uQ, uN, ud, us, uG⟩ hK
        have hnil := Lib.hid (hxs.symm.trans hx0)
        have hwf2 : Hid (wrongQ s = wrongFrom s 0 9) := Lib.hid (by rw [hwf.out]; exact wrongFrom_miss hnil.out)
        have hDPQ2 : Hid (∀ D ∈ (D8 :: [D7, D6, D5, D4] : List Nat), Q < D) := Lib.hid (fun D hD2 => by
          rcases List.mem_cons.1 hD2 with e | h
          · (rw [e]; omega)
          · exact hDPQ.out D h)
        have hnd2 : Hid ((D8 :: [D7, D6, D5, D4] : List Nat).Nodup) := Lib.hid (List.nodup_cons.2 ⟨fun h => (by have := hDlt D8 h; omega), hnd.out⟩)
        have hd2 : DefsOk (D8 :: [D7, D6, D5, D4]) U := fun D hD2 => by
          rcases List.mem_cons.1 hD2 with e | h
          · (rw [e]; exact hK)
          · exact ud D h
        have ut := cell_1 uT
        go_wp2_with fail
        clear hwf hDPQ hnd hd HS hDlt hxs hx0 t4 c4 v4 vN vP vQ vd yS yP yQ hlV hlWV hlZ hTS hSV hTV
        have hlZ := Later.of_grown uG
        have yS := uN
        have yP := uP
        have yQ := uQ
        have hd := hd2
        have hwf := hwf2
        have hDPQ := hDPQ2
        have hnd := hnd2
        clear uN uP uQ hd2 hwf2 hDPQ2 hnd2 uT ut ud uG hK us
        have t4 : (U.alloc (.cells #[.int .i64 9] 3)).heap[U.heap.size]? = some (.cells #[.int .i64 9] 3 (0, 0)) := heap_alloc_new _ _
        rw [rounds_succ]
        obtain ⟨Z, hZ⟩ : ∃ Z, Z = U.alloc (.cells #[.int .i64 9] 3) := ⟨_, rfl⟩
        obtain ⟨T, hT⟩ : ∃ T, Hid (U.heap.size = T) := ⟨_, rfl⟩
        have hPT : Q < T := by have := (Array.getElem?_eq_some_iff.1 yQ).1; have := hT.out; omega
        have hl := (Later.refl U).alloc (.cells #[.int .i64 9] 3)
        rw [← hZ] at t4 hl
        rw [hT.out] at t4
        rw [← hZ, hT.out]
        replace yS := hl.row yS
        replace yP := hl.row yP
        replace yQ := hl.row yQ
        replace hd := hd.later hl
        replace hlZ := hlZ.trans hl
        clear hZ hT hl
        have c4 := cell_1 t4
        have up := cell_1 yP
        have uq := cell_1 yQ
        have upf := fun k => frozen_r yP k
        have uqf := fun k => frozen_r yQ k
        have hEq : Hid (wrongQ s = (0, -1)) := Lib.hid hwf.out
        go_wp2_with fail
        go_region
        all_goals
          go_wp2_with fail
          (try rw [Exit.noGoto_ret])
          exact stop_all hEq.out yP yQ hd hnd.out hDPQ.out (by omega) hlZ.grown (by omega) (by omega) rfl rfl
end Go.Proofs.Ytackbajbladhhaa
