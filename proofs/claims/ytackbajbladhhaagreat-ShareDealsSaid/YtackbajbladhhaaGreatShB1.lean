/-
  Chapter 8: members.
  Chapter 8: may.
  Chapter 8, plainly: which member has which object.
-/
import Derived.BigQuiet
import Derived.Test.YtackbajbladhhaaGreatScW
namespace Go.Proofs.YtackbajbladhhaaGreat
open Go.RowKit Go.Shelf
set_option linter.unusedVariables false
set_option linter.unusedSimpArgs false
attribute [local go_sem] Oper.semAt_some

theorem size_scn2 (s : Scn) : (Tryz.prog.info? 28).map (·.size) = some s.row.toArray.size := by rw [List.size_toArray]; exact size_scn s
/-- A list of members may be, from here on. -/
def memFrom (M : List Int) (k : Nat) : Bool :=
  decide (0 ≤ M.getD k 0) && decide (M.getD k 0 < 64) && (k == 0 || decide (M.getD (k - 1) 0 < M.getD k 0))
def memB (M : List Int) : Bool := (List.range M.length).all (memFrom M) && decide (0 < M.length)
theorem memB_no {M : List Int} {k : Nat} (hk : k < M.length) (h : memFrom M k = false) : memB M = false := by
  unfold memB
  have : (List.range M.length).all (memFrom M) = false := by
    rw [List.all_eq_false]
    exact ⟨k, List.mem_range.2 hk, by simp [h]⟩
  rw [this]; rfl
theorem memB_yes {M : List Int} (h : ∀ k, k < M.length → memFrom M k = true) : memB M = decide (0 < M.length) := by
  unfold memB
  have : (List.range M.length).all (memFrom M) = true := List.all_eq_true.2 (fun k hk => h k (List.mem_range.1 hk))
  rw [this]; rfl
/-- A slice of ints that may begin anywhere in its block. -/
def IntsO (w : World) (v : Value) (L : List Int) : Prop :=
  ∃ ao cap, v = .slice ao L.length cap ∧ ∀ k, k < L.length → ∃ g o, ao = some ⟨g, o, none⟩ ∧ w.cell? ⟨g, o + k, none⟩ = some (.int .i64 (L.getD k 0))
theorem IntsO.later {w w' : World} {v : Value} {L : List Int} (h : IntsO w v L) (hl : Later w w') : IntsO w' v L := by
  obtain ⟨ao, cap, rfl, hv⟩ := h
  exact ⟨ao, cap, rfl, fun k hk => by obtain ⟨g, o, e, hc⟩ := hv k hk; exact ⟨g, o, e, hl.cell hc⟩⟩
theorem IntsV.o {w : World} {v : Value} {L : List Int} (h : IntsV w v L) : IntsO w v L := by
  obtain ⟨ao, cap, rfl, hv⟩ := h
  exact ⟨ao, cap, rfl, fun k hk => by obtain ⟨g, e, hc⟩ := hv k hk; exact ⟨g, 0, e, by rw [Nat.zero_add]; exact hc⟩⟩
theorem memFrom_le {M : List Int} {k : Nat} (h : ∀ j, j < k → memFrom M j = true) : k ≤ 64 := by
  have hf : ∀ j, j < k → (0 ≤ M.getD j 0 ∧ M.getD j 0 < 64) ∧ (j = 0 ∨ M.getD (j - 1) 0 < M.getD j 0) := fun j hj => by
    have := h j hj
    unfold memFrom at this
    simp only [Bool.and_eq_true, Bool.or_eq_true, decide_eq_true_eq, beq_iff_eq] at this
    exact this
  have hle : ∀ j, j < k → (j : Int) ≤ M.getD j 0 := by
    intro j
    induction j with
    | zero => intro hj; exact (hf 0 hj).1.1
    | succ j ih =>
      intro hj
      have h1 := ih (by omega)
      have h2 := (hf (j + 1) hj).2
      rw [Nat.add_sub_cancel] at h2
      omega
  by_cases h0 : k = 0
  · omega
  · have h4 := hle (k - 1) (by omega)
    have h5 := (hf (k - 1) (by omega)).1.2
    omega
set_option maxRecDepth 100000 in
set_option maxHeartbeats 2000000 in
theorem members_any (v : Value) (M : List Int) (W : World) (hv : IntsO W v M) :
    Calls Tryz.prog 13 #[v] W fun e w' => e = .returned (.bool (memB M)) ∧ w' = W := by
  obtain ⟨ao, cap, rfl, hc⟩ := hv
  obtain ⟨n, hn⟩ : ∃ n, Hid (M.length = n) := ⟨_, rfl⟩
  rw [hn.out] at hc ⊢
  go_enter Tryz.func13, Tryz.ntmps13
  go_wp2_with fail
  go_loop [7] (fun y => ∃ k : Nat, k ≤ n ∧ y = .int .i64 k ∧ ∀ j, j < k → memFrom M j = true) (fun y => (1000 - intOf y).toNat)
  case atStart => exact ⟨0, by omega, rfl, fun j hj => by omega⟩
  case round =>
    obtain ⟨k, hk, rfl, hall⟩ := hrel
    have hk64 := memFrom_le hall
    replace hall := Lib.hid hall
    by_cases hkn : k < n
    · have hki : (k : Int) < n := by omega
      obtain ⟨g, o, rfl, d1⟩ := hc k hkn
      obtain ⟨x, hx⟩ : ∃ z, Hid (M.getD k 0 = z) := ⟨_, rfl⟩
      rw [hx.out] at d1
      by_cases h0 : x < 0
      · have hno : memB M = false := memB_no (k := k) (by rw [hn.out]; exact hkn) (by unfold memFrom; rw [hx.out]; simp; omega)
        replace hno := Lib.hid hno
        go_wp2_with fail
        go_ret
        exact ⟨by rw [hno.out]; rfl, rfl⟩
      by_cases h64 : 64 ≤ x
      · have hno : memB M = false := memB_no (k := k) (by rw [hn.out]; exact hkn) (by unfold memFrom; rw [hx.out]; simp; omega)
        replace hno := Lib.hid hno
        go_wp2_with fail
        go_ret
        exact ⟨by rw [hno.out]; rfl, rfl⟩
      cases k with
      | zero =>
        replace d1 : W.cell? ⟨g, o, none⟩ = some (.int .i64 x) := d1
        go_wp2_with fail
        go_round
        case rel => exact ⟨1, by omega, rfl, fun j hj => by
          obtain rfl : j = 0 := by omega
          unfold memFrom; rw [hx.out]; simp; omega⟩
        case measure => simp [intOf]
      | succ i =>
        obtain ⟨_, _, e1, d3⟩ := hc i (by omega)
        injection e1 with e1
        injection e1 with e1 e2
        subst e1
        subst e2
        obtain ⟨q, hq⟩ : ∃ z, Hid (M.getD i 0 = z) := ⟨_, rfl⟩
        rw [hq.out] at d3
        have hii : (i : Int) < n := by omega
        have hii1 : (i : Int) + 1 < n := by omega
        have hgt0 : (0 : Int) < (i : Int) + 1 := by omega
        by_cases hle : x ≤ q
        · have hno : memB M = false := memB_no (k := i + 1) (by rw [hn.out]; exact hkn) (by unfold memFrom; rw [hx.out, Nat.add_sub_cancel, hq.out]; simp; omega)
          replace hno := Lib.hid hno
          go_wp2_with fail
          go_ret
          exact ⟨by rw [hno.out]; rfl, rfl⟩
        · go_wp2_with fail
          go_round
          case rel => exact ⟨i + 1 + 1, by omega, by go_num, fun j hj => by
            by_cases e : j = i + 1
            · rw [e]
              unfold memFrom; rw [hx.out, Nat.add_sub_cancel, hq.out]; simp; omega
            · exact hall.out j (by omega)⟩
          case measure => simp [intOf]; omega
    · obtain rfl : k = n := by omega
      have hm : Hid (memB M = decide (0 < k)) := Lib.hid (by
        rw [memB_yes (fun j hj => hall.out j (by rw [← hn.out]; exact hj)), hn.out])
      go_wp2_with fail
      go_ret
      exact ⟨by rw [hm.out]; rfl, rfl⟩
end Go.Proofs.YtackbajbladhhaaGreat
namespace Go.Proofs.YtackbajbladhhaaGreat
open Go.RowKit Go.Shelf
set_option linter.unusedVariables false
set_option linter.unusedSimpArgs false
attribute [local go_sem] Oper.semAt_some

noncomputable def mayQ (s : Scn) (M : List Int) : Bool := memB M && @decide ((wrongQ s).1 = 0) (Classical.propDecidable _)
set_option maxRecDepth 100000 in
theorem may_any (s : Scn) (v : Value) (M : List Int) (W : World) (hs : s.Ok W) (hv : IntsO W v M) :
    Calls Tryz.prog 17 #[s.V, v] W fun e w' => e = .returned (.bool (mayQ s M)) ∧ Later W w' := by
  obtain ⟨X, hX⟩ : ∃ X, X = W.alloc (.cells s.row.toArray 28) := ⟨_, rfl⟩
  have hlX : Later W X := by rw [hX]; exact (Later.refl W).alloc _
  have kS : ScnB X W.heap.size s := by rw [hX]; exact heap_alloc_new _ _
  have hss := size_scn2 s
  have hM := Lib.hid (members_any v M X (hv.later hlX))
  have hC := Lib.hid (check_scene s X (hs.later hlX))
  by_cases hm : memB M = true
  · by_cases h0 : (wrongQ s).1 = 0
    all_goals
      first
        | (rw [if_pos h0] at hC; have hq : mayQ s M = true := by unfold mayQ; rw [hm]; simp [h0])
        | (rw [if_neg h0] at hC; have hq : mayQ s M = false := by unfold mayQ; rw [hm]; simp [h0])
      rw [hm] at hM
      replace hq := Lib.hid hq
      clear hm h0
      go_enter Tryz.func17, Tryz.ntmps17
      go_upto_region 1 with fail
      rw [← hX]
      clear hX
      go_wp2_with fail
      refine hM.out.mono ?_
      rintro e w2 ⟨rfl, rfl⟩
      go_wp2_with (refine wpList_load_row_w rfl _ _ rfl W.heap.size rfl _ _ (0, 0) _ kS Tryz.underlying28 rfl hss ?_)
      refine hC.out.mono ?_
      rintro e w3 ⟨rfl, hl3⟩
      go_wp2_with fail
      go_ret
      exact ⟨by rw [hq.out]; rfl, hlX.trans hl3⟩
  · have hm2 : memB M = false := by simpa using hm
    have hq : Hid (mayQ s M = false) := Lib.hid (by unfold mayQ; rw [hm2]; rfl)
    rw [hm2] at hM
    clear hm hm2
    go_enter Tryz.func17, Tryz.ntmps17
    go_upto_region 1 with fail
    rw [← hX]
    clear hX
    go_wp2_with fail
    refine hM.out.mono ?_
    rintro e w2 ⟨rfl, rfl⟩
    go_wp2_with fail
    go_ret
    exact ⟨by rw [hq.out]; rfl, hlX⟩
end Go.Proofs.YtackbajbladhhaaGreat
namespace Go.Proofs.YtackbajbladhhaaGreat
open Go.RowKit Go.Shelf
set_option linter.unusedVariables false
set_option linter.unusedSimpArgs false

/-- Whose the object at a place is. -/
def ow (M : List Int) (i : Nat) : Int := M.getD (i % M.length) 0
/-- The numbers at the first places that are asked for. -/
def selN (p : Nat → Bool) (I : List Int) (n : Nat) : List Int := ((List.range n).filter p).map (I.getD · 0)
theorem selN_zero (p : Nat → Bool) (I : List Int) : selN p I 0 = [] := rfl
theorem selN_hit {p : Nat → Bool} {I : List Int} {n : Nat} (h : p n = true) : selN p I (n + 1) = selN p I n ++ [I.getD n 0] := by
  unfold selN; rw [List.range_succ, List.filter_append, List.map_append]; simp [h]
theorem selN_miss {p : Nat → Bool} {I : List Int} {n : Nat} (h : p n = false) : selN p I (n + 1) = selN p I n := by
  unfold selN; rw [List.range_succ, List.filter_append, List.map_append]; simp [h]
theorem selN_length (p : Nat → Bool) (I : List Int) (n : Nat) : (selN p I n).length ≤ n := by
  unfold selN; rw [List.length_map]
  have := List.length_filter_le p (List.range n)
  rwa [List.length_range] at this
theorem selN_congr {p q : Nat → Bool} {I : List Int} {n : Nat} (h : ∀ i, i < n → p i = q i) : selN p I n = selN q I n := by
  unfold selN
  rw [List.filter_congr (fun i hi => h i (List.mem_range.1 hi))]
theorem selN_nil {p : Nat → Bool} {I : List Int} {n : Nat} (h : ∀ i, i < n → p i = false) : selN p I n = [] := by
  unfold selN
  rw [List.filter_eq_nil_iff.2 (fun i hi => by rw [h i (List.mem_range.1 hi)]; simp)]; rfl
theorem mem_selN {p : Nat → Bool} {I : List Int} {n : Nat} {x : Int} : x ∈ selN p I n ↔ ∃ i, i < n ∧ p i = true ∧ I.getD i 0 = x := by
  unfold selN
  simp only [List.mem_map, List.mem_filter, List.mem_range]
  constructor
  · rintro ⟨i, ⟨h1, h2⟩, h3⟩; exact ⟨i, h1, h2, h3⟩
  · rintro ⟨i, h1, h2, h3⟩; exact ⟨i, ⟨h1, h2⟩, h3⟩
/-- The first place of a number. -/
def plc (I : List Int) (id : Int) : Option Nat := (List.range I.length).find? (fun i => I.getD i 0 == id)
/-- Whose an object is, or -1. -/
def ownQ (I M : List Int) (id : Int) : Int := match plc I id with | some i => ow M i | none => -1
/-- What Owner answers. -/
def ownR (I M : List Int) (id : Int) : Int := if ownQ I M id < 0 then 0 else ownQ I M id
def ofQ (I M : List Int) (node : Int) : List Int := selN (fun i => ow M i == node) I I.length
def movQ (I A B : List Int) : List Int := selN (fun i => !(ownR I B (I.getD i 0) == ow A i)) I I.length

def Rises (I : List Int) : Prop := ∀ i j, i < j → j < I.length → I.getD i 0 < I.getD j 0
theorem plc_at {I : List Int} (h : Rises I) {i : Nat} (hi : i < I.length) : plc I (I.getD i 0) = some i := by
  unfold plc
  rw [List.find?_range_eq_some]
  refine ⟨by simp, List.mem_range.2 hi, fun j hj => ?_⟩
  have := h j i hj hi
  simp only [Bool.not_eq_true', beq_eq_false_iff_ne, ne_eq]
  omega
theorem plc_none {I : List Int} {id : Int} (h : ∀ i, i < I.length → I.getD i 0 ≠ id) : plc I id = none := by
  unfold plc
  rw [List.find?_eq_none]
  intro i hi
  have := h i (List.mem_range.1 hi)
  simpa using this
theorem ownQ_at {I M : List Int} (h : Rises I) {i : Nat} (hi : i < I.length) : ownQ I M (I.getD i 0) = ow M i := by
  unfold ownQ; rw [plc_at h hi]

/-- Members that may be. -/
theorem mem_may {M : List Int} (h : memB M = true) : 0 < M.length ∧ (∀ k, k < M.length → 0 ≤ M.getD k 0 ∧ M.getD k 0 < 64) ∧ Rises M := by
  unfold memB at h
  rw [Bool.and_eq_true, decide_eq_true_eq, List.all_eq_true] at h
  obtain ⟨h1, h2⟩ := h
  have hk : ∀ k, k < M.length → (0 ≤ M.getD k 0 ∧ M.getD k 0 < 64) ∧ (k = 0 ∨ M.getD (k - 1) 0 < M.getD k 0) := fun k hk => by
    have := h1 k (List.mem_range.2 hk)
    unfold memFrom at this
    simp only [Bool.and_eq_true, Bool.or_eq_true, decide_eq_true_eq, beq_iff_eq] at this
    exact this
  refine ⟨h2, fun k h => (hk k h).1, fun i j hij hj => ?_⟩
  induction j with
  | zero => omega
  | succ j ih =>
    have h3 := (hk (j + 1) hj).2
    rw [Nat.add_sub_cancel] at h3
    have h4 : M.getD j 0 < M.getD (j + 1) 0 := by omega
    by_cases e : i = j
    · rw [e]; exact h4
    · exact Int.lt_trans (ih (by omega) (by omega)) h4
theorem ow_may {M : List Int} (h : memB M = true) (i : Nat) : 0 ≤ ow M i ∧ ow M i < 64 :=
  (mem_may h).2.1 _ (Nat.mod_lt _ (mem_may h).1)
theorem ownR_at {I M : List Int} (h : Rises I) (hM : memB M = true) {i : Nat} (hi : i < I.length) : ownR I M (I.getD i 0) = ow M i := by
  unfold ownR
  rw [ownQ_at h hi]
  have := ow_may hM i
  rw [if_neg (by omega)]
theorem mem_length {M : List Int} (h : memB M = true) : M.length ≤ 64 := by
  obtain ⟨h1, h2, h3⟩ := mem_may h
  have : ∀ k, k < M.length → (k : Int) ≤ M.getD k 0 := by
    intro k
    induction k with
    | zero => intro hk; exact (h2 0 hk).1
    | succ k ih =>
      intro hk
      have := ih (by omega)
      have := h3 k (k + 1) (by omega) hk
      omega
  have h4 := this (M.length - 1) (by omega)
  have h5 := (h2 (M.length - 1) (by omega)).2
  omega
/-- Among the same members nothing changes hands. -/
theorem mov_same {I A : List Int} (h : Rises I) (hA : memB A = true) : movQ I A A = [] :=
  selN_nil fun i hi => by rw [ownR_at h hA hi]; simp
/-- What changes hands changes back. -/
theorem mov_back {I A B : List Int} (h : Rises I) (hA : memB A = true) (hB : memB B = true) : movQ I A B = movQ I B A :=
  selN_congr fun i hi => by
    rw [ownR_at h hA hi, ownR_at h hB hi]
    by_cases e : ow A i = ow B i
    · rw [e]
    · have e2 : ¬ ow B i = ow A i := fun h => e h.symm
      show (!(ow B i == ow A i)) = (!(ow A i == ow B i))
      rw [beq_eq_false_iff_ne.2 e, beq_eq_false_iff_ne.2 e2]
theorem ow_mem {M : List Int} (h : memB M = true) (i : Nat) : ow M i ∈ M := by
  have hl := Nat.mod_lt i (mem_may h).1
  unfold ow
  rw [List.getD_eq_getElem?_getD, List.getElem?_eq_getElem hl]
  exact List.getElem_mem hl
theorem rises_inj {I : List Int} (h : Rises I) {i j : Nat} (hi : i < I.length) (hj : j < I.length) (e : I.getD i 0 = I.getD j 0) : i = j := by
  rcases Nat.lt_trichotomy i j with h1 | h1 | h1
  · have := h i j h1 hj; omega
  · exact h1
  · have := h j i h1 hi; omega
theorem selN_count {p : Nat → Bool} {I : List Int} (h : Rises I) : ∀ {n i : Nat}, n ≤ I.length → i < n → (selN p I n).count (I.getD i 0) = if p i then 1 else 0
  | 0, _, _, hi => by omega
  | n + 1, i, hn, hi => by
    by_cases e : i = n
    · subst e
      have h0 : (selN p I i).count (I.getD i 0) = 0 := by
        rw [List.count_eq_zero]
        intro hm
        obtain ⟨j, hj, _, he⟩ := mem_selN.1 hm
        have := rises_inj h (by omega) (by omega) he
        omega
      cases hp : p i
      · rw [selN_miss hp, h0]; rfl
      · rw [selN_hit hp, List.count_append, h0]; simp
    · have ih := selN_count h (p := p) (n := n) (i := i) (by omega) (by omega)
      cases hp : p n
      · rw [selN_miss hp, ih]
      · rw [selN_hit hp, List.count_append, ih]
        have h3 : I.getD n 0 ≠ I.getD i 0 := fun e2 => e (rises_inj h (by omega) (by omega) e2).symm
        have h4 : [I.getD n 0].count (I.getD i 0) = 0 := List.count_eq_zero.2 (fun hm => h3 (List.mem_singleton.1 hm).symm)
        rw [h4, Nat.add_zero]
/-- Whoever goes gives all that it had. -/
theorem mov_all {I A B : List Int} (h : Rises I) (hA : memB A = true) (hB : memB B = true) {node id : Int} (hn : node ∉ B) (hid : id ∈ ofQ I A node) : (movQ I A B).count id = 1 := by
  obtain ⟨i, hi, hp, rfl⟩ := mem_selN.1 hid
  unfold movQ
  rw [selN_count h (Nat.le_refl _) hi, ownR_at h hB hi]
  have e1 : ow A i = node := by simpa using hp
  have e2 : ow B i ≠ ow A i := fun e => hn (by rw [← e1, ← e]; exact ow_mem hB i)
  simp [e2]
/-- The IDs of a scene that may be rise. -/
theorem ids_rise {s : Scn} (h : (wrongQ s).1 = 0) : Rises (srt (idL s)) := by
  have hnd : (idL s).Nodup := by
    unfold List.Nodup idL
    rw [List.pairwise_map, List.pairwise_iff_getElem]
    intro i j hi hj hij
    exact right_ids h (List.getElem?_eq_getElem hj) i _ hij (List.getElem?_eq_getElem hi)
  have hnd2 : (srt (idL s)).Nodup := (List.mergeSort_perm _ _).nodup_iff.2 hnd
  have hs := srt_sorted (idL s)
  intro i j hij hj
  have h1 := List.pairwise_iff_getElem.1 hs i j (by omega) hj hij
  have h2 := List.pairwise_iff_getElem.1 hnd2 i j (by omega) hj hij
  rw [List.getD_eq_getElem?_getD, List.getD_eq_getElem?_getD, List.getElem?_eq_getElem hj, List.getElem?_eq_getElem (show i < (srt (idL s)).length by omega)]
  show (srt (idL s))[i] < (srt (idL s))[j]
  omega
theorem srt_length (L : List Int) : (srt L).length = L.length := List.length_mergeSort _
theorem ids_length (s : Scn) : (srt (idL s)).length = s.os.length := by rw [srt_length]; unfold idL; rw [List.length_map]
end Go.Proofs.YtackbajbladhhaaGreat
