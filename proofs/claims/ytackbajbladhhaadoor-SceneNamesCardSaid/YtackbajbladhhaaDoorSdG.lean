/-
  Chapter 6's laws: the examples in which one rule is broken, plainly.
-/
import Derived.Test.YtackbajbladhhaaDoorScS
import Derived.Test.YtackbajbladhhaaDoorScY
namespace Go.Proofs.YtackbajbladhhaaDoor
open Go.RowKit Go.Shelf
set_option linter.unusedVariables false
set_option linter.unusedSimpArgs false

theorem one_wrong {s : Scn} {x : SObj} (ho : s.os = [x]) (hz : sizeMay s = true) (hc : Within 16777216 16 s.cam) {r : Nat} (h4 : 4 ≤ r) (h8 : r ≤ 8) (hk : ∀ q, 4 ≤ q → q < r → keepsB s 0 x q = true) (hn : keepsB s 0 x r = false) :
    wrongQ s = ((r : Int), 0) := by
  have hx : s.os[0]? = some x := by rw [ho]; rfl
  have hlen : s.os.length = 1 := by rw [ho]; rfl
  obtain ⟨l, hl⟩ := badL_cons (s := s) (r := r) (k := 0) (n := s.os.length) hx hn rfl (by rw [hlen]; omega)
  have hmiss : ∀ q, 4 ≤ q → q < r → badL s q s.os.length = [] := fun q h1 h2 => nil_badL (fun k y hk' hy => by
    rw [hlen] at hk'
    obtain rfl : k = 0 := by omega
    obtain rfl : x = y := Option.some.inj (hx.symm.trans hy)
    exact hk q h1 h2)
  unfold wrongQ
  rw [if_neg (by rw [hz]; decide), if_neg (fun h => h hc), if_neg (by rw [hlen]; omega)]
  rcases (show r = 4 ∨ r = 5 ∨ r = 6 ∨ r = 7 ∨ r = 8 by omega) with rfl | rfl | rfl | rfl | rfl
  · exact wrongFrom_hit hl
  · rw [wrongFrom_miss (hmiss 4 (by omega) (by omega))]; exact wrongFrom_hit hl
  · rw [wrongFrom_miss (hmiss 4 (by omega) (by omega)), wrongFrom_miss (hmiss 5 (by omega) (by omega))]; exact wrongFrom_hit hl
  · rw [wrongFrom_miss (hmiss 4 (by omega) (by omega)), wrongFrom_miss (hmiss 5 (by omega) (by omega)), wrongFrom_miss (hmiss 6 (by omega) (by omega))]; exact wrongFrom_hit hl
  · rw [wrongFrom_miss (hmiss 4 (by omega) (by omega)), wrongFrom_miss (hmiss 5 (by omega) (by omega)), wrongFrom_miss (hmiss 6 (by omega) (by omega)), wrongFrom_miss (hmiss 7 (by omega) (by omega))]; exact wrongFrom_hit hl

/-- The chapter's object with another matrix, other vertices, other triangles. -/
def objX (m : Nat → Int) (uv : Value) (vs : List V3) (ut : Value) (ts : List T4) : SObj := { id := 7, m := m, uv := uv, vs := vs, ut := ut, ts := ts }
def scnX (cam : Nat → Int) (uo : Value) (os : List SObj) : Scn := { W := 4, H := 3, cam := cam, uo := uo, os := os }
def z3 : List V3 := [(0, 0, 0), (0, 0, 0), (0, 0, 0)]
abbrev greatQ : Nat → Int := scaQ 16777216 16777216 16777216
def camC (k : Nat) : Int := if k = 6 then 16777217 else idQ k
def matE (k : Nat) : Int := if k = 15 then -16777217 else idQ k
theorem size_x (cam : Nat → Int) (uo : Value) (os : List SObj) : sizeMay (scnX cam uo os) = true := by simp [sizeMay, allIn, scnX]
theorem keeps4 (cam : Nat → Int) (uo : Value) (x : SObj) (h : x.id = 7) : keepsB (scnX cam uo [x]) 0 x 4 = true := by
  unfold keepsB
  rw [if_pos rfl, h]
  rfl
theorem keeps5 (s : Scn) (x : SObj) (h : Within 16777216 16 x.m) : keepsB s 0 x 5 = true := by
  unfold keepsB
  simp only [show ¬ (5 : Nat) = 4 by omega, if_false, if_true, decide_eq_true_eq]
  exact h
theorem keeps6 (s : Scn) (x : SObj) (h : mulMay s.cam x.m ∧ Within 67108864 16 (mulQ s.cam x.m)) : keepsB s 0 x 6 = true := by
  unfold keepsB
  simp only [show ¬ (6 : Nat) = 4 by omega, show ¬ (6 : Nat) = 5 by omega, if_false, if_true, decide_eq_true_eq]
  exact h
theorem wrong_a (uo uv ut : Value) : wrongQ (scnX idQ uo [objX idQ uv z3 ut [(0, 1, 3, 0)]]) = (8, 0) :=
  one_wrong rfl (size_x _ _ _) id_within (r := 8) (by omega) (by omega) (fun q h1 h2 => by
    rcases (show q = 4 ∨ q = 5 ∨ q = 6 ∨ q = 7 by omega) with rfl | rfl | rfl | rfl
    · exact keeps4 _ _ _ rfl
    · exact keeps5 _ _ id_within
    · exact keeps6 _ _ id_may
    · rfl) rfl
theorem great_within : Within 16777216 16 greatQ := by unfold Within; decide
theorem wrong_b (uo uv ut : Value) : wrongQ (scnX greatQ uo [objX greatQ uv z3 ut [(0, 1, 2, 0)]]) = (6, 0) :=
  one_wrong rfl (size_x _ _ _) great_within (r := 6) (by omega) (by omega) (fun q h1 h2 => by
    rcases (show q = 4 ∨ q = 5 by omega) with rfl | rfl
    · exact keeps4 _ _ _ rfl
    · exact keeps5 _ _ great_within) (by
    unfold keepsB
    simp only [show ¬ (6 : Nat) = 4 by omega, show ¬ (6 : Nat) = 5 by omega, if_false, if_true, decide_eq_false_iff_not]
    intro h
    have h0 := (h.2 0 (by omega)).2
    revert h0
    show ¬ (mulQ greatQ greatQ 0 ≤ 67108864)
    decide)
theorem wrong_c (uo : Value) (os : List SObj) : wrongQ (scnX camC uo os) = (2, -1) := by
  unfold wrongQ
  rw [if_neg (by rw [size_x]; decide), if_pos (fun h => by
    have h0 := (h 6 (by omega)).2
    revert h0
    show ¬ (camC 6 ≤ 16777216)
    decide)]
theorem wrong_d (uo : Value) (os : List SObj) (h : 16 < os.length) : wrongQ (scnX idQ uo os) = (3, -1) := by
  unfold wrongQ
  rw [if_neg (by rw [size_x]; decide), if_neg (fun h => h id_within), if_pos (show 16 < (scnX idQ uo os).os.length from h)]
theorem wrong_e (uo uv ut : Value) (vs : List V3) (ts : List T4) : wrongQ (scnX idQ uo [objX matE uv vs ut ts]) = (5, 0) :=
  one_wrong rfl (size_x _ _ _) id_within (r := 5) (by omega) (by omega) (fun q h1 h2 => by
    obtain rfl : q = 4 := by omega
    exact keeps4 _ _ _ rfl) (by
    unfold keepsB
    simp only [show ¬ (5 : Nat) = 4 by omega, if_false, if_true, decide_eq_false_iff_not]
    intro h
    have h0 := (h 15 (by omega)).1
    revert h0
    show ¬ (-16777216 ≤ matE 15)
    decide)
theorem keeps_to6 (uo uv ut : Value) (vs : List V3) (ts : List T4) (q : Nat) (h1 : 4 ≤ q) (h2 : q < 7) : keepsB (scnX idQ uo [objX idQ uv vs ut ts]) 0 (objX idQ uv vs ut ts) q = true := by
  rcases (show q = 4 ∨ q = 5 ∨ q = 6 by omega) with rfl | rfl | rfl
  · exact keeps4 _ _ _ rfl
  · exact keeps5 _ _ id_within
  · exact keeps6 _ _ id_may
theorem wrong_f (uo uv ut : Value) (ts : List T4) : wrongQ (scnX idQ uo [objX idQ uv [(0, 0, 0), (0, 0, 0), (0, 1073741825, 0)] ut ts]) = (7, 0) :=
  one_wrong rfl (size_x _ _ _) id_within (r := 7) (by omega) (by omega) (fun q h1 h2 => keeps_to6 _ _ _ _ _ q h1 h2) rfl
theorem wrong_g (uo uv ut : Value) (vs : List V3) (ts : List T4) (h : 64 < vs.length) : wrongQ (scnX idQ uo [objX idQ uv vs ut ts]) = (7, 0) :=
  one_wrong rfl (size_x _ _ _) id_within (r := 7) (by omega) (by omega) (fun q h1 h2 => keeps_to6 _ _ _ _ _ q h1 h2) (by
    unfold keepsB
    simp only [show ¬ (7 : Nat) = 4 by omega, show ¬ (7 : Nat) = 5 by omega, show ¬ (7 : Nat) = 6 by omega, if_false, if_true]
    show (decide ((objX idQ uv vs ut ts).vs.length ≤ 64) && _) = false
    rw [decide_eq_false (show ¬ (objX idQ uv vs ut ts).vs.length ≤ 64 from fun h' => absurd h (by show ¬ 64 < vs.length; exact Nat.not_lt.2 h')), Bool.false_and])

/-! Rows side by side in one block. -/
theorem flat_get {n : Nat} : ∀ (L : List (List Value)), (∀ l ∈ L, l.length = n) → ∀ k x j v, L[k]? = some x → x[j]? = some v → L.flatten[k * n + j]? = some v
  | [], _, k, x, j, v, h, _ => by simp at h
  | l :: r, hl, 0, x, j, v, h, hj => by
    obtain rfl : l = x := by simpa using h
    have hlt := (List.getElem?_eq_some_iff.1 hj).1
    rw [List.flatten_cons, Nat.zero_mul, Nat.zero_add, List.getElem?_append_left hlt]
    exact hj
  | l :: r, hl, k + 1, x, j, v, h, hj => by
    have h1 := hl l (by simp)
    rw [List.flatten_cons, List.getElem?_append_right (by rw [h1, Nat.succ_mul]; omega), h1, Nat.succ_mul, show k * n + n + j - n = k * n + j by omega]
    exact flat_get r (fun m hm => hl m (by simp [hm])) k x j v (by simpa using h) hj
theorem rows_flat {n : Nat} {w : World} {V m : Nat} {L : List (List Value)} {t : TypeId} {fr : Nat × Nat} (hL : ∀ l ∈ L, l.length = n) (hm : L.length = m) (h : w.heap[V]? = some (.cells L.flatten.toArray t fr)) :
    RowsV n w (.slice (some ⟨V, 0, none⟩) m m) L := by
  refine ⟨some ⟨V, 0, none⟩, m, by rw [hm], ⟨by rw [hm]; exact Nat.le_refl _, fun h => by cases h⟩, fun k x hx => ⟨V, 0, rfl, fun j v hv => ?_⟩⟩
  rw [Nat.zero_add]
  have := row_range h (k * n + j) v (flat_get L hL k x j v hx hv)
  rwa [Nat.zero_add] at this
theorem objX_ok {w : World} {m : Nat → Int} {V T nv nt : Nat} {vs : List V3} {ts : List T4} {t1 t2 : TypeId} {f1 f2 : Nat × Nat} (hv : vs.length = nv) (ht : ts.length = nt)
    (hV : w.heap[V]? = some (.cells ((vs.map vrow).flatten).toArray t1 f1)) (hT : w.heap[T]? = some (.cells ((ts.map trow).flatten).toArray t2 f2)) :
    (objX m (.slice (some ⟨V, 0, none⟩) nv nv) vs (.slice (some ⟨T, 0, none⟩) nt nt) ts).Ok w :=
  ⟨rows_flat (by intro l hl; obtain ⟨v, _, rfl⟩ := List.mem_map.1 hl; rfl) (by rw [List.length_map]; exact hv) hV,
   rows_flat (by intro l hl; obtain ⟨v, _, rfl⟩ := List.mem_map.1 hl; rfl) (by rw [List.length_map]; exact ht) hT⟩
theorem scnX_ok {w : World} {cam : Nat → Int} {G : Nat} {x : SObj} (hG : ObjB w G x) (hx : x.Ok w) : (scnX cam (.slice (some ⟨G, 0, none⟩) 1 1) [x]).Ok w := by
  refine ⟨rows_flat (by intro l hl; obtain rfl : l = x.row := by simpa [scnX] using hl
                        exact SObj.row_length x) (by rfl) (by show w.heap[G]? = some (.cells ([x.row].flatten).toArray _ _); rw [List.flatten_cons, List.flatten_nil, List.append_nil]; exact hG), fun y hy => ?_⟩
  obtain rfl : y = x := by simpa [scnX] using hy
  exact hx
/-! Cells that are written one behind the other. -/
def setMany (cs : Array Value) : Nat → List Value → Array Value
  | _, [] => cs
  | o, v :: r => setMany (cs.setIfInBounds o v) (o + 1) r
theorem heap_setCells {M : Nat} {t : TypeId} {fr : Nat × Nat} : ∀ (vs : List Value) (o : Nat) (W : World) (cs : Array Value), W.heap[M]? = some (.cells cs t fr) → (W.setCells M o vs).heap[M]? = some (.cells (setMany cs o vs) t fr)
  | [], _, _, _, h => h
  | v :: r, o, W, cs, h => heap_setCells r (o + 1) _ _ (heap_setC h)
theorem there_row {W : World} {M : Nat} {cs : Array Value} {t : TypeId} (h : W.heap[M]? = some (.cells cs t (0, 0))) (o n : Nat) (hn : o + n ≤ cs.size) : W.there M o n := fun j hj => by
  refine ⟨?_, frozen_r h _⟩
  rw [cell_of_row W M _ _ _ _ h, Array.getElem?_eq_getElem (by omega)]
  rfl
end Go.Proofs.YtackbajbladhhaaDoor
