/-
  Chapter 6: a copy of a scene, in new memory.
  Chapter 6: a copy of any scene: it is a scene, the same one, and its IDs and vertices may be written.
-/
import Derived.Test.YtackbajbladhhaaSeG
import Derived.Deep.RegionWith
namespace Go.Proofs.Ytackbajbladhhaa
open Go.RowKit Go.Shelf
set_option linter.unusedVariables false
set_option linter.unusedSimpArgs false
attribute [local go_sem] Oper.semAt_some

theorem ty_ne {w : World} {a b : Nat} {c d : Array Value} {s t : TypeId} {fr gr : Nat × Nat} (h : w.heap[a]? = some (.cells c s fr)) (k : w.heap[b]? = some (.cells d t gr)) (hst : s ≠ t) : a ≠ b := fun e => by
  subst e
  have := h.symm.trans k
  injection this with this
  injection this with _ h2
  exact hst h2
theorem obj_set (x : SObj) (u v : Value) (r : List Value) : (((x.row ++ r).set 17 u).set 18 v) = ({ x with uv := u, ut := v } : SObj).row ++ r := rfl
theorem flat_set : ∀ (c : List SObj) (k : Nat) (x : SObj) (u v : Value) (z : List Value), c[k]? = some x →
    ((((c.map SObj.row).flatten ++ z).set (k * 19 + 17) u).set (k * 19 + 18) v) = ((c.set k { x with uv := u, ut := v }).map SObj.row).flatten ++ z
  | [], k, x, u, v, z, h => by simp at h
  | y :: r, 0, x, u, v, z, h => by
    obtain rfl : y = x := by simpa using h
    show (((y.row ++ (r.map SObj.row).flatten ++ z).set 17 u).set 18 v) = _
    rw [List.append_assoc, obj_set]
    show _ = (({ y with uv := u, ut := v } : SObj).row ++ (r.map SObj.row).flatten) ++ z
    rw [List.append_assoc]
  | y :: r, k + 1, x, u, v, z, h => by
    have ih := flat_set r k x u v z (by simpa using h)
    show (((y.row ++ (r.map SObj.row).flatten ++ z).set ((k + 1) * 19 + 17) u).set ((k + 1) * 19 + 18) v) = (y.row ++ ((r.set k { x with uv := u, ut := v }).map SObj.row).flatten) ++ z
    have hl := y.row_length
    rw [List.append_assoc, List.append_assoc, ← ih]
    rw [List.set_append_right _ _ (by rw [hl]; omega), List.set_append_right _ _ (by rw [hl]; omega), hl]
    rw [show (k + 1) * 19 + 17 - 19 = k * 19 + 17 by omega, show (k + 1) * 19 + 18 - 19 = k * 19 + 18 by omega]
theorem NewR.set {n E m : Nat} {w : World} {u : Value} {L : List (List Value)} (h : NewR n E m w u L) {D o : Nat} {v : Value} {cs : Array Value} {fr : Nat × Nat} (hD : w.heap[D]? = some (.cells cs 37 fr)) (hE : E ≠ 37) : NewR n E m (w.setCell ⟨D, o, none⟩ v) u L := by
  rcases h with h | ⟨G, c, z, h1, h2, h3, hG⟩
  · exact Or.inl h
  · exact Or.inr ⟨G, c, z, h1, h2, h3, (Below.heap_setCell _ _ _ _ (ty_ne hG hD hE)).trans hG⟩
theorem NewR.weak {n E m m' : Nat} {w : World} {u : Value} {L : List (List Value)} (h : NewR n E m w u L) (hm : m' ≤ m) : NewR n E m' w u L := by
  rcases h with h | ⟨G, c, z, h1, h2, h3, hG⟩
  · exact Or.inl h
  · exact Or.inr ⟨G, c, z, h1, h2, Nat.le_trans hm h3, hG⟩
theorem NewR.keep {n E m : Nat} {w w' : World} {u : Value} {L : List (List Value)} (h : NewR n E m w u L) {T : Nat} (hw : ∀ j, j ≠ T → w'.heap[j]? = w.heap[j]?) {cs : Array Value} {t : TypeId} {fr : Nat × Nat} (hT : w.heap[T]? = some (.cells cs t fr)) (hE : E ≠ t) : NewR n E m w' u L := by
  rcases h with h | ⟨G, c, z, h1, h2, h3, hG⟩
  · exact Or.inl h
  · exact Or.inr ⟨G, c, z, h1, h2, h3, (hw _ (ty_ne hG hT hE)).trans hG⟩
theorem NewR.form {n E m : Nat} {w : World} {u : Value} {L : List (List Value)} (h : NewR n E m w u L) : ∃ ao l c, u = .slice ao l c := by
  rcases h with ⟨_, ao, c, h, _⟩ | ⟨G, c, z, h1, _⟩
  · exact ⟨_, _, _, h⟩
  · exact ⟨_, _, _, h1⟩
theorem NewR.drew {n E m : Nat} {w : World} {u : Value} {L : List (List Value)} (h : NewR n E m w u L) : NewR n E m w.drew u L := h
theorem scn_set_uo (s : Scn) (u : Value) (c : List SObj) : s.row.toArray.setIfInBounds 18 u = ({ s with uo := u, os := c } : Scn).row.toArray := by kernel_rfl
theorem scn_one' (s : Scn) (h : s.uo.oneCell' = true) : s.row.toArray.all (·.oneCell') = true := by
  simp only [Scn.row, List.all_toArray, List.all_cons, List.all_append, List.all_map, List.all_nil, h, Bool.and_true, Bool.true_and]
  rfl
/-- What a copy's object has of the other one. -/
structure Like (m : Nat) (w : World) (x y : SObj) : Prop where
  id : x.id = y.id
  mat : x.m = y.m
  vs : x.vs = y.vs
  ts : x.ts = y.ts
  nv : NewR 3 40 m w x.uv (y.vs.map vrow)
  nt : NewR 4 84 m w x.ut (y.ts.map trow)
/-- The copy so far. -/
structure CpI (s : Scn) (W w : World) (D k : Nat) (c : List SObj) (z : List Value) : Prop where
  len : c.length = s.os.length
  row : w.heap[D]? = some (.cells ((c.map SObj.row).flatten ++ z).toArray 37 (0, 0))
  old : ∀ (i : Nat) x, k ≤ i → c[i]? = some x → s.os[i]? = some x
  new : ∀ (i : Nat) x y, i < k → c[i]? = some x → s.os[i]? = some y → Like W.heap.size w x y
  lat : Later W w
theorem row_at {w : World} {D k : Nat} {c : List SObj} {z : List Value} {x : SObj} (h : w.heap[D]? = some (.cells ((c.map SObj.row).flatten ++ z).toArray 37 (0, 0))) (hx : c[k]? = some x) {j : Nat} {v : Value} (hj : x.row[j]? = some v) : w.cell? ⟨D, k * 19 + j, none⟩ = some v := by
  have h1 := flat_at (c.map SObj.row) (fun l hl => by obtain ⟨y, _, rfl⟩ := List.mem_map.1 hl; exact SObj.row_length y) k x.row j v (by rw [List.getElem?_map, hx]; rfl) hj
  have h2 := row_range h (k * 19 + j) v (by rw [List.getElem?_append_left (List.getElem?_eq_some_iff.1 h1).1]; exact h1)
  rwa [Nat.zero_add] at h2
theorem CpI.step {s : Scn} {W w V : World} {D k : Nat} {c : List SObj} {z : List Value} (h : CpI s W w D k c z) {x : SObj} (hx : c[k]? = some x) (hD : W.heap.size ≤ D) (hl : Later w V) {u1 u2 : Value} (n1 : NewR 3 40 W.heap.size V u1 (x.vs.map vrow)) (n2 : NewR 4 84 W.heap.size V u2 (x.ts.map trow)) :
    CpI s W ((V.setCell ⟨D, k * 19 + 17, none⟩ u1).setCell ⟨D, k * 19 + 18, none⟩ u2) D (k + 1) (c.set k { x with uv := u1, ut := u2 }) z := by
  have hV := hl.row h.row
  have hV2 : (V.setCell ⟨D, k * 19 + 17, none⟩ u1).heap[D]? = some (.cells _ 37 (0, 0)) := heap_setC hV
  have keep : ∀ {n E : Nat} {u : Value} {L : List (List Value)}, NewR n E W.heap.size V u L → E ≠ 37 → NewR n E W.heap.size ((V.setCell ⟨D, k * 19 + 17, none⟩ u1).setCell ⟨D, k * 19 + 18, none⟩ u2) u L := fun hn hE => (hn.set hV hE).set hV2 hE
  have hk := (List.getElem?_eq_some_iff.1 hx).1
  refine ⟨by rw [List.length_set]; exact h.len, ?_, ?_, ?_, ?_⟩
  · rw [← flat_set c k x u1 u2 z hx]
    have := heap_setC (j := k * 19 + 18) (v := u2) hV2
    rw [this, List.setIfInBounds_toArray, List.setIfInBounds_toArray]
  · intro i y hi hy
    rw [List.getElem?_set_ne (by omega)] at hy
    exact h.old i y (by omega) hy
  · intro i y q hi hy hq
    by_cases e : i = k
    · subst e
      rw [List.getElem?_set_self hk] at hy
      obtain rfl := Option.some.inj hy
      obtain rfl : x = q := Option.some.inj ((h.old i x (Nat.le_refl _) hx).symm.trans hq)
      exact ⟨rfl, rfl, rfl, rfl, keep n1 (by decide), keep n2 (by decide)⟩
    · rw [List.getElem?_set_ne (fun e' => e e'.symm)] at hy
      have := h.new i y q (by omega) hy hq
      exact ⟨this.id, this.mat, this.vs, this.ts, keep (this.nv.later hl) (by decide), keep (this.nt.later hl) (by decide)⟩
  · exact ((h.lat.trans hl).setCell (p := ⟨D, _, none⟩) hD _).setCell (p := ⟨D, _, none⟩) hD _
set_option maxRecDepth 100000 in
set_option maxHeartbeats 4000000 in
theorem copy_some (s : Scn) (W : World) (hs : s.Ok W) (hsm : SmallS s) (hpos : 0 < s.os.length) :
    Calls Try.prog 19 #[s.V] W fun e w' => ∃ (c : List SObj) (D cap : Nat) (z : List Value), e = .returned ({ s with uo := .slice (some ⟨D, 0, none⟩) s.os.length cap, os := c } : Scn).V ∧ W.heap.size ≤ D ∧ s.os.length ≤ cap ∧ CpI s W w' D s.os.length c z := by
  obtain ⟨X, hX⟩ : ∃ X, X = (W.alloc (.cells s.row.toArray 28)).alloc (.cells #[.int .i64 0, .int .i64 0, .int .i64 0, .int .i64 0, .int .i64 0, .int .i64 0, .int .i64 0, .int .i64 0, .int .i64 0, .int .i64 0, .int .i64 0, .int .i64 0, .int .i64 0, .int .i64 0, .int .i64 0, .int .i64 0, .int .i64 0, .int .i64 0, .slice none 0 0] 28) := ⟨_, rfl⟩
  have hlX : Later W X := by rw [hX]; exact ((Later.refl W).alloc _).alloc _
  have kS : ScnB X W.heap.size s := by rw [hX]; exact push_one (heap_alloc_new _ _) _
  have kZ : X.heap[W.heap.size + 1]? = some (.cells #[.int .i64 0, .int .i64 0, .int .i64 0, .int .i64 0, .int .i64 0, .int .i64 0, .int .i64 0, .int .i64 0, .int .i64 0, .int .i64 0, .int .i64 0, .int .i64 0, .int .i64 0, .int .i64 0, .int .i64 0, .int .i64 0, .int .i64 0, .int .i64 0, .slice none 0 0] 28 (0, 0)) := by rw [hX]; exact push_new _ _ (World.size_alloc _ _)
  have hXs : Hid (X.heap.size = W.heap.size + 1 + 1) := Lib.hid (by rw [hX]; simp)
  have hC := Lib.hid (clone_os s.uo (s.os.map SObj.row) X (hs.later hlX).1 (fun l hl => by obtain ⟨y, _, rfl⟩ := List.mem_map.1 hl; exact SObj.row_length y) (by rw [List.length_map]; have := hsm.1; omega))
  have hCv := Lib.hid (fun (x : SObj) (hx : x ∈ s.os) V (h : Later W V) => clone_vs x.uv (x.vs.map vrow) V ((hs.2 x hx).later h).1 (fun l hl => by obtain ⟨y, _, rfl⟩ := List.mem_map.1 hl; rfl) (by rw [List.length_map]; have := (hsm.2 x hx).1; omega))
  have hCt := Lib.hid (fun (x : SObj) (hx : x ∈ s.os) V (h : Later W V) => clone_ts x.ut (x.ts.map trow) V ((hs.2 x hx).later h).2 (fun l hl => by obtain ⟨y, _, rfl⟩ := List.mem_map.1 hl; rfl) (by rw [List.length_map]; have := (hsm.2 x hx).2; omega))
  obtain ⟨n, hn⟩ : ∃ n, Hid (s.os.length = n) := ⟨_, rfl⟩
  have hn20 : n ≤ 20 := by rw [← hn.out]; exact hsm.1
  rw [hn.out] at hpos ⊢
  have so := kS.uo
  go_enter Try.func19, Try.ntmps19
  go_upto_region 1 with fail
  rw [← hX]
  clear hX
  obtain ⟨P, hP⟩ : ∃ P, Hid (W.heap.size = P) := ⟨_, rfl⟩
  rw [hP.out] at kS kZ so ⊢
  go_wp2_with fail
  refine hC.out.mono ?_
  rintro e w1 ⟨u, rfl, hu, hl1⟩
  rcases hu with ⟨h0, -⟩ | ⟨D, cap, z, rfl, hcap, hDX, hDr⟩
  · exfalso
    have := congrArg List.length h0
    rw [List.length_map, hn.out] at this
    simp at this
    omega
  rw [List.length_map, hn.out] at hcap ⊢
  have kS1 := hl1.row kS
  have kZ1 := hl1.row kZ
  have c18 : w1.cell? ⟨P, 18, none⟩ = some s.uo := ScnB.uo kS1
  have f18 := frozen_r kS1 18
  clear hC kS kZ so
  go_upto_region 2 with fail
  obtain ⟨w2, hw2⟩ : ∃ w, w = w1.setCell ⟨P, 18, none⟩ (.slice (some ⟨D, 0, none⟩) n cap) := ⟨_, rfl⟩
  rw [← hw2]
  have hPD : Hid (P + 1 < D) := Lib.hid (by have := hXs.out; have := hP.out; omega)
  obtain ⟨u, hu⟩ : ∃ u, Hid (Value.slice (some ⟨D, 0, none⟩) n cap = u) := ⟨_, rfl⟩
  have kS2 : ScnB w2 P { s with uo := u, os := s.os } := by
    rw [hw2, hu.out]; unfold ScnB; rw [← scn_set_uo s u s.os]; exact heap_setC kS1
  have kZ2 : w2.heap[P + 1]? = some (.cells #[.int .i64 0, .int .i64 0, .int .i64 0, .int .i64 0, .int .i64 0, .int .i64 0, .int .i64 0, .int .i64 0, .int .i64 0, .int .i64 0, .int .i64 0, .int .i64 0, .int .i64 0, .int .i64 0, .int .i64 0, .int .i64 0, .int .i64 0, .int .i64 0, .slice none 0 0] 28 (0, 0)) := by rw [hw2]; exact (Below.heap_setCell _ _ _ _ (by show P + 1 ≠ P; omega)).trans kZ1
  have hD2 : w2.heap[D]? = some (.cells ((s.os.map SObj.row).flatten ++ z).toArray 37 (0, 0)) := by rw [hw2]; exact (Below.heap_setCell _ _ _ _ (by have := hPD.out; show D ≠ P; omega)).trans hDr
  have hlW2 : Later W w2 := by rw [hw2]; exact (hlX.trans hl1).setCell (p := ⟨P, 18, none⟩) (Nat.le_of_eq hP.out) _
  have hWD : Hid (W.heap.size ≤ D) := Lib.hid (by have := hPD.out; have := hP.out; omega)
  have hI0 : CpI s W w2 D 0 s.os z := ⟨rfl, hD2, fun i x _ h => h, fun i x y hi => by omega, hlW2⟩
  replace kS2 : w2.heap[P]? = some (.cells (({ s with uo := u, os := s.os } : Scn).row.toArray) 28 (0, 0)) := kS2
  obtain ⟨rs, hrs⟩ : ∃ r, Hid ((({ s with uo := u, os := s.os } : Scn).row) = r) := ⟨_, rfl⟩
  have hr18 : Hid (rs[18]? = some (.slice (some ⟨D, 0, none⟩) n cap)) := Lib.hid (by rw [← hrs.out, hu.out]; rfl)
  rw [hrs.out] at kS2
  clear hw2 kS1 kZ1 c18 f18 hDr hD2 hlW2 hl1 hlX
  replace hI0 := Lib.hid hI0
  have su2 : w2.cell? ⟨P, 18, none⟩ = some (.slice (some ⟨D, 0, none⟩) n cap) := row_range kS2 18 _ hr18.out
  go_wp2_with fail
  go_loopw [12] (fun y wr => ∃ (k : Nat) (c : List SObj), k ≤ n ∧ y = .int .i64 k ∧ Hid (CpI s W wr D k c z ∧ wr.heap[P]? = some (.cells rs.toArray 28 (0, 0)) ∧ wr.heap[P + 1]? = some (.cells #[.int .i64 0, .int .i64 0, .int .i64 0, .int .i64 0, .int .i64 0, .int .i64 0, .int .i64 0, .int .i64 0, .int .i64 0, .int .i64 0, .int .i64 0, .int .i64 0, .int .i64 0, .int .i64 0, .int .i64 0, .int .i64 0, .int .i64 0, .int .i64 0, .slice none 0 0] 28 (0, 0)))) (fun y _ => (300 - intOf y).toNat)
  case atStart => exact ⟨0, s.os, by omega, rfl, Lib.hid ⟨hI0.out, kS2, kZ2⟩⟩
  case round =>
    clear kS2 kZ2 hI0 su2
    obtain ⟨k, c, hk, rfl, hinv⟩ := hrel
    obtain ⟨wi, rfl⟩ : ∃ wo : World, wo = wr := ⟨_, rfl⟩
    obtain ⟨hI, kSi, kZi⟩ := hinv.out
    have su : wi.cell? ⟨P, 18, none⟩ = some (.slice (some ⟨D, 0, none⟩) n cap) := row_range kSi 18 _ hr18.out
    by_cases hkN : k < n
    · obtain ⟨x, hx⟩ : ∃ x, Hid (c[k]? = some x) := ⟨_, Lib.hid (List.getElem?_eq_getElem (by rw [hI.len, hn.out]; exact hkN))⟩
      have hxs := hI.old k x (Nat.le_refl _) hx.out
      have hxm : x ∈ s.os := List.mem_of_getElem? hxs
      have hVx := Lib.hid (fun V (h : Later W V) => hCv.out x hxm V h)
      have hTx := Lib.hid (fun V (h : Later W V) => hCt.out x hxm V h)
      have c17 : wi.cell? ⟨D, k * 19 + 17, none⟩ = some x.uv := row_at hI.row hx.out rfl
      have c18 : wi.cell? ⟨D, k * 19 + 18, none⟩ = some x.ut := row_at hI.row hx.out rfl
      have f17 := frozen_r hI.row (k * 19 + 17)
      have f18 := frozen_r hI.row (k * 19 + 18)
      have hki : (k : Int) < n := by omega
      have hlW := hI.lat
      have hDlt : D < wi.heap.size := (Array.getElem?_eq_some_iff.1 hI.row).1
      have hd0 : Later W wi.drew := hlW.drew
      have hdi : Later wi wi.drew := (Later.refl wi).drew
      have hfin : Hid (∀ (V : World) (u1 u2 : Value), Later wi V → NewR 3 40 W.heap.size V u1 (x.vs.map vrow) → NewR 4 84 W.heap.size V u2 (x.ts.map trow) →
          Hid (CpI s W ((V.setCell ⟨D, k * 19 + 17, none⟩ u1).setCell ⟨D, k * 19 + 18, none⟩ u2) D (k + 1) (c.set k { x with uv := u1, ut := u2 }) z ∧ ((V.setCell ⟨D, k * 19 + 17, none⟩ u1).setCell ⟨D, k * 19 + 18, none⟩ u2).heap[P]? = some (.cells rs.toArray 28 (0, 0)) ∧ ((V.setCell ⟨D, k * 19 + 17, none⟩ u1).setCell ⟨D, k * 19 + 18, none⟩ u2).heap[P + 1]? = some (.cells #[.int .i64 0, .int .i64 0, .int .i64 0, .int .i64 0, .int .i64 0, .int .i64 0, .int .i64 0, .int .i64 0, .int .i64 0, .int .i64 0, .int .i64 0, .int .i64 0, .int .i64 0, .int .i64 0, .int .i64 0, .int .i64 0, .int .i64 0, .int .i64 0, .slice none 0 0] 28 (0, 0)))) := Lib.hid (fun V u1 u2 hl n1 n2 => Lib.hid ⟨hI.step hx.out hWD.out hl n1 n2,
          (Below.heap_setCell _ _ _ _ (by have := hPD.out; show P ≠ D; omega)).trans ((Below.heap_setCell _ _ _ _ (by have := hPD.out; show P ≠ D; omega)).trans (hl.row kSi)),
          (Below.heap_setCell _ _ _ _ (by have := hPD.out; show P + 1 ≠ D; omega)).trans ((Below.heap_setCell _ _ _ _ (by have := hPD.out; show P + 1 ≠ D; omega)).trans (hl.row kZi))⟩)
      clear hinv hI kSi kZi hxs hxm hlW
      go_upto_region 6 with fail
      go_region_with (first
        | (go_at_call 43; with_reducible refine (hVx.out _ hd0).mono ?_; rintro e V1 ⟨u1, rfl, hu1, hLa⟩; obtain ⟨q1, l1, r1, rfl⟩ := hu1.form; have hL1 : Later wi V1 := hdi.trans hLa; have hd1 : Later W V1 := hd0.trans hLa; have e17 := hL1.cell c17; have e18 := hL1.cell c18; have g17 := hL1.frozen c17 f17; have g18 := hL1.frozen c18 f18)
        | (go_at_call 44; with_reducible refine (hTx.out _ hd1).mono ?_; rintro e V2 ⟨u2, rfl, hu2, hLb⟩; obtain ⟨q2, l2, r2, rfl⟩ := hu2.form; have hL2 : Later wi V2 := hL1.trans hLb; have i17 := hL2.cell c17; have i18 := hL2.cell c18; have j17 := hL2.frozen c17 f17; have j18 := hL2.frozen c18 f18))
      all_goals
        have hres := hfin.out V2 _ _ hL2 ((hu1.later hLb).weak hd0.size) (hu2.weak hd1.size)
        clear hfin hVx hTx
        go_wp2_with fail
        go_roundw
        case rel => exact ⟨k + 1, _, by omega, by go_num, hres⟩
        case measure => simp [intOf]; omega
    · obtain rfl : k = n := by omega
      have hsz : (Try.prog.info? 28).map (·.size) = some rs.toArray.size := by rw [List.size_toArray, ← hrs.out]; exact size_scn _
      have hone : rs.toArray.all (·.oneCell') = true := by rw [← hrs.out, ← hu.out]; exact scn_one' _ rfl
      have hzz : (#[.int .i64 0, .int .i64 0, .int .i64 0, .int .i64 0, .int .i64 0, .int .i64 0, .int .i64 0, .int .i64 0, .int .i64 0, .int .i64 0, .int .i64 0, .int .i64 0, .int .i64 0, .int .i64 0, .int .i64 0, .int .i64 0, .int .i64 0, .int .i64 0, .slice none 0 0] : Array Value).size = rs.toArray.size := by show (19 : Nat) = _; rw [List.size_toArray, ← hrs.out, Scn.row_length]
      go_wp2_with (first | refine wpList_load_row rfl _ _ rfl P rfl _ _ (0, 0) _ kSi Try.underlying28 rfl hsz ?_ | refine wpList_store_row rfl 28 _ _ rfl (P + 1) rs.toArray rfl rfl 28 #[.int .i64 0, .int .i64 0, .int .i64 0, .int .i64 0, .int .i64 0, .int .i64 0, .int .i64 0, .int .i64 0, .int .i64 0, .int .i64 0, .int .i64 0, .int .i64 0, .int .i64 0, .int .i64 0, .int .i64 0, .int .i64 0, .int .i64 0, .int .i64 0, .slice none 0 0] kZi hsz hzz hone ?_)
      have kR : (wi.setRow (P + 1) rs.toArray).heap[P + 1]? = some (.cells rs.toArray 28 (0, 0)) := setRow_heap _ _ _ _ _ _ kZi
      have hload : (loadVar 28 ⟨P + 1, 0, none⟩).run Try.prog (wi.setRow (P + 1) rs.toArray) = .ok (.agg rs.toArray) (wi.setRow (P + 1) rs.toArray) := run_loadVar_mid _ (P + 1) 0 _ _ _ (row_range kR) Try.underlying28 rfl (by rw [← hrs.out]; exact size_scn _)
      refine bodyPost_ret (v := .agg rs.toArray) (results_cell1 (a := 2) (t := 28) (by kernel_rfl) _ rfl hload) rfl ⟨c, D, cap, z, ?_, hWD.out, hcap, ?_⟩
      · rw [← hrs.out, ← hu.out]; rfl
      · exact ⟨hI.len, (setRow_other _ _ _ _ (by have := hPD.out; show D ≠ P + 1; omega)).trans hI.row, hI.old, fun i x y h1 h2 h3 => by
          have := hI.new i x y h1 h2 h3
          have hw : ∀ j, j ≠ P + 1 → (wi.setRow (P + 1) rs.toArray).heap[j]? = wi.heap[j]? := fun j hj => setRow_other _ _ _ _ hj
          exact ⟨this.id, this.mat, this.vs, this.ts, this.nv.keep hw kZi (by decide), this.nt.keep hw kZi (by decide)⟩, hI.lat.setRow (by have := hP.out; omega) _⟩
end Go.Proofs.Ytackbajbladhhaa
namespace Go.Proofs.Ytackbajbladhhaa
open Go.RowKit Go.Shelf
set_option linter.unusedVariables false
set_option linter.unusedSimpArgs false
attribute [local go_sem] Oper.semAt_some

set_option maxRecDepth 100000 in
set_option maxHeartbeats 2000000 in
theorem copy_none (s : Scn) (W : World) (hs : s.Ok W) (hnil : s.os = []) :
    Calls Try.prog 19 #[s.V] W fun e w' => ∃ ao cap, e = .returned ({ s with uo := .slice ao 0 cap, os := [] } : Scn).V ∧ (ao = none → cap = 0) ∧ Later W w' := by
  obtain ⟨X, hX⟩ : ∃ X, X = (W.alloc (.cells s.row.toArray 28)).alloc (.cells #[.int .i64 0, .int .i64 0, .int .i64 0, .int .i64 0, .int .i64 0, .int .i64 0, .int .i64 0, .int .i64 0, .int .i64 0, .int .i64 0, .int .i64 0, .int .i64 0, .int .i64 0, .int .i64 0, .int .i64 0, .int .i64 0, .int .i64 0, .int .i64 0, .slice none 0 0] 28) := ⟨_, rfl⟩
  have hlX : Later W X := by rw [hX]; exact ((Later.refl W).alloc _).alloc _
  have kS : ScnB X W.heap.size s := by rw [hX]; exact push_one (heap_alloc_new _ _) _
  have kZ : X.heap[W.heap.size + 1]? = some (.cells #[.int .i64 0, .int .i64 0, .int .i64 0, .int .i64 0, .int .i64 0, .int .i64 0, .int .i64 0, .int .i64 0, .int .i64 0, .int .i64 0, .int .i64 0, .int .i64 0, .int .i64 0, .int .i64 0, .int .i64 0, .int .i64 0, .int .i64 0, .int .i64 0, .slice none 0 0] 28 (0, 0)) := by rw [hX]; exact push_new _ _ (World.size_alloc _ _)
  have hC := Lib.hid (clone_os s.uo (s.os.map SObj.row) X (hs.later hlX).1 (fun l hl => by obtain ⟨y, _, rfl⟩ := List.mem_map.1 hl; exact SObj.row_length y) (by rw [List.length_map, hnil]; simp))
  have so := kS.uo
  go_enter Try.func19, Try.ntmps19
  go_upto_region 1 with fail
  rw [← hX]
  clear hX
  obtain ⟨P, hP⟩ : ∃ P, Hid (W.heap.size = P) := ⟨_, rfl⟩
  rw [hP.out] at kS kZ so ⊢
  go_wp2_with fail
  refine hC.out.mono ?_
  rintro e w1 ⟨u, rfl, hu, hl1⟩
  obtain ⟨ao, cap, rfl, h0⟩ : ∃ ao cap, u = .slice ao 0 cap ∧ (ao = none → cap = 0) := by
    rw [hnil] at hu
    rcases hu with ⟨-, ao, cap, h, h0⟩ | ⟨D, cap, z, h, -, -, -⟩
    · exact ⟨ao, cap, h, h0⟩
    · exact ⟨_, cap, h, fun h => by cases h⟩
  have kS1 := hl1.row kS
  have kZ1 := hl1.row kZ
  have c18 : w1.cell? ⟨P, 18, none⟩ = some s.uo := ScnB.uo kS1
  have f18 := frozen_r kS1 18
  clear hC kS kZ so
  go_upto_region 2 with fail
  obtain ⟨w2, hw2⟩ : ∃ w, w = w1.setCell ⟨P, 18, none⟩ (.slice ao 0 cap) := ⟨_, rfl⟩
  rw [← hw2]
  obtain ⟨u, hu⟩ : ∃ u, Hid (Value.slice ao 0 cap = u) := ⟨_, rfl⟩
  have kS2 : w2.heap[P]? = some (.cells (({ s with uo := u, os := [] } : Scn).row.toArray) 28 (0, 0)) := by
    rw [hw2, hu.out, ← scn_set_uo s u []]; exact heap_setC kS1
  have kZ2 : w2.heap[P + 1]? = some (.cells #[.int .i64 0, .int .i64 0, .int .i64 0, .int .i64 0, .int .i64 0, .int .i64 0, .int .i64 0, .int .i64 0, .int .i64 0, .int .i64 0, .int .i64 0, .int .i64 0, .int .i64 0, .int .i64 0, .int .i64 0, .int .i64 0, .int .i64 0, .int .i64 0, .slice none 0 0] 28 (0, 0)) := by rw [hw2]; exact (Below.heap_setCell _ _ _ _ (by show P + 1 ≠ P; omega)).trans kZ1
  have hlW2 : Later W w2 := by rw [hw2]; exact (hlX.trans hl1).setCell (p := ⟨P, 18, none⟩) (Nat.le_of_eq hP.out) _
  obtain ⟨rs, hrs⟩ : ∃ r, Hid ((({ s with uo := u, os := [] } : Scn).row) = r) := ⟨_, rfl⟩
  have su : w2.cell? ⟨P, 18, none⟩ = some (.slice ao 0 cap) := row_range kS2 18 _ (by rw [hu.out]; rfl)
  rw [hrs.out] at kS2
  have hsz : (Try.prog.info? 28).map (·.size) = some rs.toArray.size := by rw [List.size_toArray, ← hrs.out]; exact size_scn _
  have hone : rs.toArray.all (·.oneCell') = true := by rw [← hrs.out, ← hu.out]; exact scn_one' _ rfl
  have hzz : (#[.int .i64 0, .int .i64 0, .int .i64 0, .int .i64 0, .int .i64 0, .int .i64 0, .int .i64 0, .int .i64 0, .int .i64 0, .int .i64 0, .int .i64 0, .int .i64 0, .int .i64 0, .int .i64 0, .int .i64 0, .int .i64 0, .int .i64 0, .int .i64 0, .slice none 0 0] : Array Value).size = rs.toArray.size := by show (19 : Nat) = _; rw [List.size_toArray, ← hrs.out, Scn.row_length]
  clear hw2 kS1 kZ1 c18 f18 hl1 hlX
  go_wp2_with fail
  refine wp_loop_rounds 1 ?_
  rw [rounds_succ]
  go_wp2_with (first | refine wpList_load_row rfl _ _ rfl P rfl _ _ (0, 0) _ kS2 Try.underlying28 rfl hsz ?_ | refine wpList_store_row rfl 28 _ _ rfl (P + 1) rs.toArray rfl rfl 28 #[.int .i64 0, .int .i64 0, .int .i64 0, .int .i64 0, .int .i64 0, .int .i64 0, .int .i64 0, .int .i64 0, .int .i64 0, .int .i64 0, .int .i64 0, .int .i64 0, .int .i64 0, .int .i64 0, .int .i64 0, .int .i64 0, .int .i64 0, .int .i64 0, .slice none 0 0] kZ2 hsz hzz hone ?_)
  have kR : (w2.setRow (P + 1) rs.toArray).heap[P + 1]? = some (.cells rs.toArray 28 (0, 0)) := setRow_heap _ _ _ _ _ _ kZ2
  have hload : (loadVar 28 ⟨P + 1, 0, none⟩).run Try.prog (w2.setRow (P + 1) rs.toArray) = .ok (.agg rs.toArray) (w2.setRow (P + 1) rs.toArray) := run_loadVar_mid _ (P + 1) 0 _ _ _ (row_range kR) Try.underlying28 rfl (by rw [← hrs.out]; exact size_scn _)
  refine bodyPost_ret (v := .agg rs.toArray) (results_cell1 (a := 2) (t := 28) (by kernel_rfl) _ rfl hload) rfl ⟨ao, cap, ?_, h0, hlW2.setRow (by have := hP.out; omega) _⟩
  rw [← hrs.out, ← hu.out]
/-- What may be written of a copy. -/
def WrD (m : Nat) (w : World) (D n : Nat) : Prop := ∀ i, i < n → (∃ v, w.cell? ⟨D, i * 19, none⟩ = some (.int .i64 v)) ∧ w.frozen? ⟨D, i * 19, none⟩ = false ∧
  ∃ av nv cv, w.cell? ⟨D, i * 19 + 17, none⟩ = some (.slice av nv cv) ∧ nv ≤ 80 ∧ ∀ j, j < nv → ∃ B, av = some ⟨B, 0, none⟩ ∧ m ≤ B ∧ (∃ v, w.cell? ⟨B, j * 3, none⟩ = some (.int .i64 v)) ∧ w.frozen? ⟨B, j * 3, none⟩ = false
theorem int_keep {w : World} {b o b' o' : Nat} {u : Int} (hb : ∃ v, w.cell? ⟨b, o, none⟩ = some (.int .i64 v)) (h : ∃ v, w.cell? ⟨b', o', none⟩ = some (.int .i64 v)) : ∃ v, (w.setCell ⟨b, o, none⟩ (.int .i64 u)).cell? ⟨b', o', none⟩ = some (.int .i64 v) := by
  by_cases e : b = b' ∧ o = o'
  · obtain ⟨rfl, rfl⟩ := e
    obtain ⟨v, hv⟩ := hb
    exact ⟨u, cell_setCell_s hv⟩
  · obtain ⟨v, hv⟩ := h
    exact ⟨v, cell_setCell_o hv e⟩
theorem slice_keep {w : World} {b o b' o' : Nat} {u : Int} (hb : ∃ v, w.cell? ⟨b, o, none⟩ = some (.int .i64 v)) {a : Option Addr} {n c : Nat} (h : w.cell? ⟨b', o', none⟩ = some (.slice a n c)) : (w.setCell ⟨b, o, none⟩ (.int .i64 u)).cell? ⟨b', o', none⟩ = some (.slice a n c) := by
  refine cell_setCell_o h (fun e => ?_)
  obtain ⟨rfl, rfl⟩ := e
  obtain ⟨v, hv⟩ := hb
  rw [hv] at h
  cases h
theorem WrD.set {m : Nat} {w : World} {D n : Nat} (h : WrD m w D n) {b o : Nat} {u : Int} (hb : ∃ v, w.cell? ⟨b, o, none⟩ = some (.int .i64 v)) : WrD m (w.setCell ⟨b, o, none⟩ (.int .i64 u)) D n := fun i hi => by
  obtain ⟨h1, h2, av, nv, cv, h3, h4, h5⟩ := h i hi
  refine ⟨int_keep hb h1, by rw [World.frozen?_setCell]; exact h2, av, nv, cv, slice_keep hb h3, h4, fun j hj => ?_⟩
  obtain ⟨B, k1, k2, k3, k4⟩ := h5 j hj
  exact ⟨B, k1, k2, int_keep hb k3, by rw [World.frozen?_setCell]; exact k4⟩
theorem WrD.later {m : Nat} {w w' : World} {D n : Nat} (h : WrD m w D n) (hl : Later w w') : WrD m w' D n := fun i hi => by
  obtain ⟨⟨v1, h1⟩, h2, av, nv, cv, h3, h4, h5⟩ := h i hi
  refine ⟨⟨v1, hl.cell h1⟩, hl.frozen h1 h2, av, nv, cv, hl.cell h3, h4, fun j hj => ?_⟩
  obtain ⟨B, k1, k2, ⟨v, k3⟩, k4⟩ := h5 j hj
  exact ⟨B, k1, k2, ⟨v, hl.cell k3⟩, hl.frozen k3 k4⟩
theorem same_of {s : Scn} {c : List SObj} {u : Value} (hlen : c.length = s.os.length) (h : ∀ (i : Nat) x y, c[i]? = some x → s.os[i]? = some y → x.id = y.id ∧ x.m = y.m ∧ x.vs = y.vs ∧ x.ts = y.ts) : sameB { s with uo := u, os := c } s = true := by
  unfold sameB
  have h1 : matEq s.cam s.cam = true := matEq_iff.2 (fun _ _ => rfl)
  have h2 : osEq c s.os = true := osEq_yes hlen (fun i x y hx hy => by
    obtain ⟨a1, a2, a3, a4⟩ := h i x y hx hy
    unfold sobjEq
    rw [a1, a2, a3, a4, matEq_iff.2 (fun _ _ => rfl)]
    simp)
  show ((s.W == s.W) && ((s.H == s.H) && (matEq s.cam s.cam && osEq c s.os))) = true
  rw [h1, h2]; simp
theorem copy_any (s : Scn) (W : World) (hs : s.Ok W) (hsm : SmallS s) :
    Calls Try.prog 19 #[s.V] W fun e w' => ∃ (c : Scn) (ao : Option Addr) (cap : Nat), e = .returned c.V ∧ c.Ok w' ∧ sameB c s = true ∧ SmallS c ∧ Later W w' ∧ c.uo = .slice ao s.os.length cap ∧ ∀ D o, ao = some ⟨D, o, none⟩ → 0 < s.os.length → o = 0 ∧ W.heap.size ≤ D ∧ WrD W.heap.size w' D s.os.length := by
  by_cases h0 : s.os = []
  · refine (copy_none s W hs h0).mono ?_
    rintro e w' ⟨ao, cap, rfl, hn, hl⟩
    refine ⟨_, ao, cap, rfl, ⟨⟨ao, cap, rfl, ⟨by simp, hn⟩, fun k x hx => by simp at hx⟩, fun x hx => by simp at hx⟩, same_of (by rw [h0]) (fun i x y hx => by simp at hx), ⟨by simp, fun x hx => by simp at hx⟩, hl, by rw [h0]; rfl, fun D o _ hp => ?_⟩
    rw [h0] at hp; simp at hp
  · have hpos : 0 < s.os.length := List.length_pos_iff.2 h0
    refine (copy_some s W hs hsm hpos).mono ?_
    rintro e w' ⟨c, D, cap, z, rfl, hD, hcap, hI⟩
    have hlike : ∀ (i : Nat) x, c[i]? = some x → ∃ y, s.os[i]? = some y ∧ Like W.heap.size w' x y := fun i x hx => by
      have hi := (List.getElem?_eq_some_iff.1 hx).1
      rw [hI.len] at hi
      exact ⟨_, List.getElem?_eq_getElem hi, hI.new i x _ hi hx (List.getElem?_eq_getElem hi)⟩
    have hok : ∀ x ∈ c, x.Ok w' := fun x hx => by
      obtain ⟨i, hi, rfl⟩ := List.getElem_of_mem hx
      obtain ⟨y, -, hL⟩ := hlike i _ (List.getElem?_eq_getElem hi)
      refine ⟨?_, ?_⟩
      · rw [hL.vs]; exact hL.nv.rows (fun l hl => by obtain ⟨v, _, rfl⟩ := List.mem_map.1 hl; rfl)
      · rw [hL.ts]; exact hL.nt.rows (fun l hl => by obtain ⟨v, _, rfl⟩ := List.mem_map.1 hl; rfl)
    refine ⟨_, some ⟨D, 0, none⟩, cap, rfl, ⟨⟨some ⟨D, 0, none⟩, cap, by rw [List.length_map]; show Value.slice _ _ _ = Value.slice _ c.length _; rw [hI.len], ⟨by rw [List.length_map]; show c.length ≤ cap; rw [hI.len]; exact hcap, fun h => by cases h⟩, fun k r hr => ⟨D, 0, rfl, fun j v hv => ?_⟩⟩, hok⟩, same_of hI.len (fun i x y hx hy => ?_), ⟨by show c.length ≤ 20; rw [hI.len]; exact hsm.1, fun x hx => ?_⟩, hI.lat, rfl, fun D' o e hp => ?_⟩
    · rw [Nat.zero_add]
      obtain ⟨x, hx, rfl⟩ := Option.map_eq_some_iff.1 (by rw [List.getElem?_map] at hr; exact hr)
      exact row_at hI.row hx hv
    · obtain ⟨y', hy', hL⟩ := hlike i x hx
      obtain rfl := Option.some.inj (hy.symm.trans hy')
      exact ⟨hL.id, hL.mat, hL.vs, hL.ts⟩
    · obtain ⟨i, hi, rfl⟩ := List.getElem_of_mem hx
      obtain ⟨y, hy, hL⟩ := hlike i _ (List.getElem?_eq_getElem hi)
      have := hsm.2 y (List.mem_of_getElem? hy)
      exact ⟨by rw [hL.vs]; exact this.1, by rw [hL.ts]; exact this.2⟩
    · cases e
      refine ⟨rfl, hD, fun i hi => ?_⟩
      obtain ⟨x, hx⟩ : ∃ x, c[i]? = some x := ⟨_, List.getElem?_eq_getElem (by rw [hI.len]; exact hi)⟩
      obtain ⟨y, hy, hL⟩ := hlike i x hx
      have hvl := (hsm.2 y (List.mem_of_getElem? hy)).1
      refine ⟨⟨x.id, row_at (j := 0) hI.row hx rfl⟩, frozen_r hI.row _, ?_⟩
      have c17 : w'.cell? ⟨D, i * 19 + 17, none⟩ = some x.uv := row_at hI.row hx rfl
      rcases hL.nv with ⟨h1, av, cv, h2, -⟩ | ⟨B, cv, z', h2, h3, h4, hB⟩
      · exact ⟨av, 0, cv, by rw [c17, h2], by omega, fun j hj => by omega⟩
      · refine ⟨some ⟨B, 0, none⟩, (y.vs.map vrow).length, cv, by rw [c17, h2], by rw [List.length_map]; exact hvl, fun j hj => ⟨B, rfl, h4, ?_, frozen_r hB _⟩⟩
        rw [List.length_map] at hj
        have h5 := flat_at (n := 3) (y.vs.map vrow) (fun l hl => by obtain ⟨v, _, rfl⟩ := List.mem_map.1 hl; rfl) j (vrow y.vs[j]) 0 (.int .i64 (y.vs[j]).1) (by rw [List.getElem?_map, List.getElem?_eq_getElem hj]; rfl) rfl
        rw [Nat.add_zero] at h5
        have h6 := row_range hB (j * 3) (.int .i64 (y.vs[j]).1) (by rw [List.getElem?_append_left (List.getElem?_eq_some_iff.1 h5).1]; exact h5)
        rw [Nat.zero_add] at h6
        exact ⟨_, h6⟩
end Go.Proofs.Ytackbajbladhhaa
