/-
  Chapter 8's laws: the chapter's scene is dealt as the chapter says.
  Chapter 8's laws: a map that counts.
-/
import Derived.Test.YtackbajbladhhaaShG1
import Derived.Maps.Own
import Derived.Maps.OwnOps
import Derived.Maps.OwnSet
import Derived.Maps.Views
namespace Go.Proofs.Ytackbajbladhhaa
open Go.RowKit Go.Shelf
set_option linter.unusedVariables false
set_option linter.unusedSimpArgs false
attribute [local go_sem] Oper.semAt_some

theorem n_keeps {s : Scn} (hc : s.cam = idQ) {k : Nat} {i : Int} {r : Nat} (hr : 5 ≤ r ∧ r ≤ 8) : keepsB s k (nObj i) r = true := by
  rcases (show r = 5 ∨ r = 6 ∨ r = 7 ∨ r = 8 by omega) with rfl | rfl | rfl | rfl
  · unfold keepsB
    simp only [show ¬ (5 : Nat) = 4 by omega, if_false, if_true, decide_eq_true_eq]
    exact id_within
  · unfold keepsB
    simp only [show ¬ (6 : Nat) = 4 by omega, show ¬ (6 : Nat) = 5 by omega, if_false, if_true, decide_eq_true_eq]
    rw [hc]
    exact id_may
  · rfl
  · rfl
theorem s8_right (u : Value) : (wrongQ (s8 u)).1 = 0 := by
  refine wrong_of (by simp [sizeMay, allIn]) id_within (by simp) (fun r h1 h2 k x hx => ?_)
  by_cases e : r = 4
  · subst e
    match k, hx with
    | 0, hx =>
      obtain rfl := Option.some.inj hx
      rfl
    | 1, hx =>
      obtain rfl := Option.some.inj hx
      rfl
    | 2, hx =>
      obtain rfl := Option.some.inj hx
      rfl
  · match k, hx with
    | 0, hx =>
      obtain rfl := Option.some.inj hx
      exact n_keeps rfl ⟨by omega, h2⟩
    | 1, hx =>
      obtain rfl := Option.some.inj hx
      exact n_keeps rfl ⟨by omega, h2⟩
    | 2, hx =>
      obtain rfl := Option.some.inj hx
      exact n_keeps rfl ⟨by omega, h2⟩
theorem s8_ids (u : Value) : srt (idL (s8 u)) = [4, 7, 9] := by
  show srt [9, 4, 7] = [4, 7, 9]
  rw [srt_perm (show [(9 : Int), 4, 7].Perm [4, 7, 9] by decide)]
  exact List.mergeSort_of_pairwise (by decide)
structure Ex8 (S : Scn) (w : World) : Prop where
  ok : S.Ok w
  right : (wrongQ S).1 = 0
  ids : srt (idL S) = [4, 7, 9]
theorem Ex8.later {S : Scn} {w w' : World} (h : Ex8 S w) (hl : Later w w') : Ex8 S w' := ⟨h.ok.later hl, h.right, h.ids⟩
theorem Ex8.may {S : Scn} {w : World} (h : Ex8 S w) (M : List Int) : mayQ S M = memB M := by
  unfold mayQ; simp [h.right]
theorem ex8_any (W : World) : Calls Try.prog 29 #[] W fun e w' => ∃ S : Scn, e = .returned S.V ∧ Later W w' ∧ Ex8 S w' :=
  (some8_any W).mono fun e w' ⟨G, he, hl, hok⟩ => ⟨_, he, hl, hok, s8_right _, s8_ids _⟩
theorem intsV_new (W : World) (L : List Int) (c : Nat) (t : TypeId) : IntsV (W.alloc (.cells (L.map (Value.int .i64)).toArray t)) (.slice (some ⟨W.heap.size, 0, none⟩) L.length c) L :=
  ⟨_, c, rfl, fun k hk => ⟨W.heap.size, rfl, by
    rw [World.cell?_alloc_new]
    rw [List.getElem?_toArray, List.getElem?_map, List.getElem?_eq_getElem hk, List.getD_eq_getElem?_getD, List.getElem?_eq_getElem hk]; rfl⟩⟩
theorem of8 {S : Scn} {W : World} (h : Ex8 S W) (M : List Int) (v : Value) (node : Int) (L : List Int) (hv : IntsO W v M) (hm : (memB M && M.contains node) = true) (hlen : M.length ≤ 64) (hL : ofQ [4, 7, 9] M node = L) :
    Calls Try.prog 26 #[S.V, v, .int .i64 node] W fun e w' => ∃ u, e = .returned (.tuple #[u, .int .i64 0]) ∧ IntsF W.heap.size w' u L ∧ Later W w' := by
  have h1 : mayQ S M = true ∧ M.contains node = true := by rw [h.may]; simpa using hm
  have := of_yes S M v node W h.ok hv h1.1 h1.2
  rw [h.ids, hL] at this
  exact this
set_option maxRecDepth 100000 in
set_option maxHeartbeats 1000000 in
theorem alive8_any (W : World) :
    Calls Try.prog 24 #[] W fun e w' => e = .returned (.bool true) ∧ Later W w' := by
  have hX := Lib.hid (fun W => ex8_any W)
  have hO1 := Lib.hid (fun (S : Scn) (U : World) (h : Ex8 S U) (v : Value) (hv : IntsO U v [2, 5]) => of8 h [2, 5] v 2 [4, 9] hv (by decide) (by decide) (by decide))
  have hO2 := Lib.hid (fun (S : Scn) (U : World) (h : Ex8 S U) (v : Value) (hv : IntsO U v [2, 5]) => of8 h [2, 5] v 5 [7] hv (by decide) (by decide) (by decide))
  go_enter Try.func24, Try.ntmps24
  go_wp2_with fail
  refine (hX.out _).mono ?_
  rintro e w1 ⟨S, rfl, h1, x1⟩
  go_wp2_with fail
  refine (hO1.out S _ (x1.later ((Later.refl _).alloc _)) _ (intsV_new w1 [2, 5] 2 3).o).mono ?_
  rintro e w2 ⟨u, rfl, hu, h2⟩
  have g2 : Later W w2 := (h1.alloc _).trans h2
  go_wp2_with fail
  refine (hX.out _).mono ?_
  rintro e w3 ⟨S2, rfl, h3, x3⟩
  go_wp2_with fail
  refine (hO2.out S2 _ (x3.later ((Later.refl _).alloc _)) _ (intsV_new w3 [2, 5] 2 3).o).mono ?_
  rintro e w4 ⟨u2, rfl, hu2, h4⟩
  have g4 : Later w2 w4 := (h3.alloc _).trans h4
  have v1 : IntsV w4 u [4, 9] := hu.1.later g4
  have v2 : IntsV w4 u2 [7] := hu2.1
  obtain ⟨ao, ac, rfl, hca⟩ := hu.1
  obtain ⟨bo, bc, rfl, hcb⟩ := hu2.1
  have gW := Lib.hid (g2.trans g4)
  replace v1 := Lib.hid v1
  replace v2 := Lib.hid v2
  clear hu hu2 hca hcb h1 h2 h3 h4 x1 x3 hX hO1 hO2 g2 g4
  go_wp2_with fail
  refine (ints_same _ _ [4, 9] _ (v1.out.later ((Later.refl _).alloc _)) (intsV_new w4 [4, 9] 2 3) (by decide)).mono ?_
  rintro e w5 ⟨rfl, h5⟩
  have h45 : Later w4 w5 := ((Later.refl _).alloc _).trans h5
  go_wp2_with fail
  refine (ints_same _ _ [7] _ (v2.out.later (h45.alloc _)) (intsV_new w5 [7] 1 3) (by decide)).mono ?_
  rintro e w6 ⟨rfl, h6⟩
  have h56 : Later w5 w6 := ((Later.refl _).alloc _).trans h6
  go_wp2_with fail
  go_ret
  exact ⟨rfl, gW.out.trans (h45.trans h56)⟩
end Go.Proofs.Ytackbajbladhhaa
namespace Go.Proofs.Ytackbajbladhhaa
open Go.RowKit Go.Shelf Go.Maps
set_option linter.unusedVariables false
set_option linter.unusedSimpArgs false
attribute [local go_sem] Oper.semAt_some

theorem lawI : Keyed Try.prog 3 := int_keyed Try.underlying3
theorem zeroI (w : World) : (zeroValue 3).run Try.prog w = .ok (.int .i64 0) w := by kernel_rfl
/-- How often each number is on a list: what a map says of it. -/
structure CntOk (D : DataW Unit) (L : List Int) : Prop where
  tidy : Tidy D
  at' : ∀ x : Int, D.atKey (.int .i64 x) (.lit (.int .i64 0)) = .lit (.int .i64 (L.count x : Nat))
  has' : ∀ x : Int, Maps.has D (.int .i64 x) = L.contains x
  size' : L.Nodup → Maps.size D = L.length
theorem CntOk.nil : CntOk (.map []) [] := ⟨tidy_empty, fun x => rfl, fun x => rfl, fun _ => rfl⟩
theorem lit_ne {x z : Int} (h : x ≠ z) : (Lit.int .i64 x) ≠ .int .i64 z := fun e => h (by injection e)
theorem CntOk.step {D : DataW Unit} {L : List Int} (h : CntOk D L) (z : Int) : CntOk (D.put (.int .i64 z) (.lit (.int .i64 ((L.count z : Nat) + 1)))) (L ++ [z]) := by
  have hk : WideAt.IsKeyLit (Lit.int .i64 z) := by first | trivial | simp [WideAt.IsKeyLit]
  refine ⟨h.tidy.put hk _, fun x => ?_, fun x => ?_, fun hn => ?_⟩
  · by_cases e : x = z
    · subst e
      rw [atKey_put_same h.tidy.isMap hk, List.count_append]
      simp
    · rw [atKey_put_other (lit_ne e), h.at', List.count_append]
      have : [z].count x = 0 := List.count_eq_zero.2 (fun hm => e (List.mem_singleton.1 hm))
      rw [this, Nat.add_zero]
  · by_cases e : x = z
    · subst e
      rw [has_put_same h.tidy.isMap hk]
      simp
    · rw [has_put_other (lit_ne e), h.has']
      have : (L ++ [z]).contains x = L.contains x := by
        rw [Bool.eq_iff_iff, List.contains_iff_mem, List.contains_iff_mem, List.mem_append, List.mem_singleton]
        constructor
        · rintro (h | h)
          · exact h
          · exact absurd h e
        · exact .inl
      rw [this]
  · rw [List.nodup_append] at hn
    have hz : L.contains z = false := by
      rw [Bool.eq_false_iff]
      intro hc
      exact hn.2.2 z (List.contains_iff_mem.1 hc) z (List.mem_singleton.2 rfl) rfl
    rw [size_put h.tidy, h.has', hz, if_neg (by simp), h.size' hn.1, List.length_append]
    rfl
theorem ids_small {s : Scn} (h : (wrongQ s).1 = 0) : ∀ z ∈ srt (idL s), 1 ≤ z ∧ z ≤ 65535 := by
  intro z hz
  have hz2 : z ∈ idL s := (List.mergeSort_perm _ _).mem_iff.1 hz
  unfold idL at hz2
  obtain ⟨x, hx, rfl⟩ := List.mem_map.1 hz2
  obtain ⟨k, hk, rfl⟩ := List.getElem_of_mem hx
  have h4 := (right_all h).2 4 (by omega) (by omega) k _ (List.getElem?_eq_getElem hk)
  unfold keepsB at h4
  rw [if_pos rfl, Bool.and_eq_true] at h4
  have := h4.1
  unfold allIn at this
  simpa using this
end Go.Proofs.Ytackbajbladhhaa
