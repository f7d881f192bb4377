/-
  Chapter 21's theorem, plainly: the pieces of some messages, put in any order.
-/
import Derived.Test.YtjelfiljebamgaaBxN
namespace Go.Proofs.Ytjelfiljebamgaa
set_option linter.unusedVariables false
set_option linter.unusedSimpArgs false

/-- What is still to be put: of message i the place k. -/
abbrev Td := List (Nat × Nat)
def cntT (N : Nat) (T : Td) (i : Nat) : Nat := ((List.range N).filter fun k => T.contains (i, k)).length
def plT (C : List (List Int)) (T : Td) (i : Nat) : List (Option (List Int)) := (List.range C.length).map fun k => if T.contains (i, k) then none else some (C.getD k [])
def msT (C : List (List Int)) (T : Td) (i : Nat) : Msg := ⟨plT C T i, cntT C.length T i, ((plT C T i).map fun o => o.getD []).flatten.length⟩
/-- The box: CC: each message's pieces. -/
def bxT (CC : List (List (List Int))) (T : Td) : Bx := fun i => if i < CC.length ∧ 0 < cntT (CC.getD i []).length T i ∧ cntT (CC.getD i []).length T i < (CC.getD i []).length then some (msT (CC.getD i []) T i) else none
theorem plT_len (C : List (List Int)) (T : Td) (i : Nat) : (plT C T i).length = C.length := by simp [plT]
theorem plT_at {C : List (List Int)} {T : Td} {i k : Nat} (h : k < C.length) : (plT C T i).getD k none = if T.contains (i, k) then none else some (C.getD k []) := by
  rw [List.getD_eq_getElem?_getD]
  simp [plT, h]
theorem cntT_all {N : Nat} {T : Td} {i : Nat} (h : cntT N T i = N) : ∀ k, k < N → T.contains (i, k) = true := by
  intro k hk
  have h1 : ((List.range N).filter fun k => T.contains (i, k)).length = (List.range N).length := by rw [List.length_range]; exact h
  rw [List.length_filter_eq_length_iff] at h1
  exact h1 k (List.mem_range.2 hk)
theorem cntT_le (N : Nat) (T : Td) (i : Nat) : cntT N T i ≤ N := by
  unfold cntT
  refine Nat.le_trans (List.length_filter_le _ _) ?_
  simp
theorem cntT_zero {N : Nat} {T : Td} {i : Nat} (h : cntT N T i = 0) : ∀ k, k < N → T.contains (i, k) = false := by
  intro k hk
  unfold cntT at h
  rw [List.length_eq_zero_iff, List.filter_eq_nil_iff] at h
  have := h k (List.mem_range.2 hk)
  simpa using this
/-- One less is to be put. -/
theorem contains_erase {T : Td} {p q : Nat × Nat} (hn : T.Nodup) : (T.erase p).contains q = (T.contains q && !(q == p)) := by
  rw [Bool.eq_iff_iff, List.contains_iff_mem, hn.mem_erase_iff, Bool.and_eq_true, List.contains_iff_mem]
  constructor
  · rintro ⟨h1, h2⟩
    exact ⟨h2, by simpa using h1⟩
  · rintro ⟨h1, h2⟩
    exact ⟨by simpa using h2, h1⟩
theorem cntT_other {N : Nat} {T : Td} {i j k : Nat} (hn : T.Nodup) (h : j ≠ i) : cntT N (T.erase (i, k)) j = cntT N T j := by
  unfold cntT
  congr 1
  refine List.filter_congr (fun x _ => ?_)
  rw [contains_erase hn]
  have : ((j, x) == (i, k)) = false := by
    rw [beq_eq_false_iff_ne]
    intro e; injection e with e1 _; exact h e1
  rw [this]; simp
theorem filter_one_less : ∀ {l : List Nat} {k : Nat} (f : Nat → Bool), l.Nodup → k ∈ l → f k = true → (l.filter fun x => f x && !(x == k)).length + 1 = (l.filter f).length
  | [], k, f, _, h, _ => by simp at h
  | x :: r, k, f, hn, hm, hf => by
    have hd := List.nodup_cons.1 hn
    by_cases e : x = k
    · subst e
      have : (r.filter fun y => f y && !(y == x)) = r.filter f := by
        refine List.filter_congr (fun y hy => ?_)
        have : (y == x) = false := by
          rw [beq_eq_false_iff_ne]
          rintro rfl; exact hd.1 hy
        rw [this]; simp
      rw [List.filter_cons_of_neg (by simp), this, List.filter_cons_of_pos hf, List.length_cons]
    · have hm2 : k ∈ r := by
        rcases List.mem_cons.1 hm with h | h
        · exact absurd h.symm e
        · exact h
      have ih := filter_one_less f hd.2 hm2 hf
      have hxk : (x == k) = false := by rw [beq_eq_false_iff_ne]; exact e
      by_cases hx : f x = true
      · rw [List.filter_cons_of_pos (by simp [hx, hxk]), List.filter_cons_of_pos hx, List.length_cons, List.length_cons]
        omega
      · rw [List.filter_cons_of_neg (by simp [hx]), List.filter_cons_of_neg hx]
        exact ih
theorem cntT_one {N : Nat} {T : Td} {i k : Nat} (hn : T.Nodup) (hm : (i, k) ∈ T) (hk : k < N) : cntT N (T.erase (i, k)) i + 1 = cntT N T i := by
  have e : cntT N (T.erase (i, k)) i = ((List.range N).filter fun x => T.contains (i, x) && !(x == k)).length := by
    unfold cntT
    congr 1
    refine List.filter_congr (fun x _ => ?_)
    rw [contains_erase hn]
    congr 1
    congr 1
    rw [Bool.eq_iff_iff, beq_iff_eq, beq_iff_eq]
    constructor
    · intro h; injection h
    · rintro rfl; rfl
  rw [e]
  exact filter_one_less (fun x => T.contains (i, x)) List.nodup_range (List.mem_range.2 hk) (List.contains_iff_mem.2 hm)
theorem plT_set {C : List (List Int)} {T : Td} {i k : Nat} (hn : T.Nodup) (hk : k < C.length) : (plT C T i).set k (some (C.getD k [])) = plT C (T.erase (i, k)) i := by
  apply List.ext_getElem?
  intro j
  by_cases hj : j < C.length
  · have h1 : j < (plT C T i).length := by rw [plT_len]; exact hj
    have h2 : j < (plT C (T.erase (i, k)) i).length := by rw [plT_len]; exact hj
    have e2 : (plT C (T.erase (i, k)) i)[j]? = some (if (T.erase (i, k)).contains (i, j) then none else some (C.getD j [])) := by simp [plT, hj]
    have e1 : (plT C T i)[j]? = some (if T.contains (i, j) then none else some (C.getD j [])) := by simp [plT, hj]
    rw [e2, List.getElem?_set, contains_erase hn]
    by_cases e : k = j
    · subst e
      rw [if_pos rfl, if_pos h1]
      have : ((i, k) == (i, k)) = true := beq_self_eq_true _
      rw [this]; simp
    · rw [if_neg e, e1]
      have : ((i, j) == (i, k)) = false := by
        rw [beq_eq_false_iff_ne]
        intro e2; injection e2 with _ e3; exact e e3.symm
      rw [this]; simp
  · rw [List.getElem?_eq_none (by rw [List.length_set, plT_len]; omega), List.getElem?_eq_none (by rw [plT_len]; omega)]
theorem msT_fill {C : List (List Int)} {T : Td} {i k of : Nat} (hn : T.Nodup) (hm : (i, k) ∈ T) (hk : k < C.length) : (msT C T i).fill ⟨i, k, of, C.getD k []⟩ = msT C (T.erase (i, k)) i := by
  have h1 := cntT_one hn hm hk
  have h2 : (plT C T i).getD k none = none := by rw [plT_at hk, List.contains_iff_mem.2 hm]; rfl
  unfold msT Msg.fill
  have e1 := plT_set (i := i) hn hk
  have e2 : cntT C.length T i - 1 = cntT C.length (T.erase (i, k)) i := by omega
  have e3 : ((plT C T i).map fun o => o.getD []).flatten.length + (C.getD k []).length = ((plT C (T.erase (i, k)) i).map fun o => o.getD []).flatten.length := by
    rw [← e1, pcat_set (by rw [plT_len]; exact hk) h2]
  show Msg.mk ((plT C T i).set k (some (C.getD k []))) (cntT C.length T i - 1) (((plT C T i).map fun o => o.getD []).flatten.length + (C.getD k []).length) = _
  rw [e1, e2, e3]
theorem plT_fresh {C : List (List Int)} {T : Td} {i : Nat} (h : cntT C.length T i = C.length) : plT C T i = List.replicate C.length none := by
  apply List.ext_getElem?
  intro j
  by_cases hj : j < C.length
  · have e1 : (plT C T i)[j]? = some (if T.contains (i, j) then none else some (C.getD j [])) := by simp [plT, hj]
    rw [e1, cntT_all h j hj, List.getElem?_replicate, if_pos hj]; rfl
  · rw [List.getElem?_eq_none (by rw [plT_len]; omega), List.getElem?_eq_none (by rw [List.length_replicate]; omega)]
theorem msT_fresh {C : List (List Int)} {T : Td} {i : Nat} (h : cntT C.length T i = C.length) : msT C T i = Msg.fresh C.length := by
  unfold msT Msg.fresh
  rw [plT_fresh h, h]
  simp
theorem plT_full {C : List (List Int)} {T : Td} {i : Nat} (h : cntT C.length T i = 0) : (plT C T i).map (fun o => o.getD []) = C := by
  apply List.ext_getElem?
  intro j
  rw [List.getElem?_map]
  by_cases hj : j < C.length
  · have e1 : (plT C T i)[j]? = some (if T.contains (i, j) then none else some (C.getD j [])) := by simp [plT, hj]
    rw [e1, cntT_zero h j hj, List.getD_eq_getElem?_getD, List.getElem?_eq_getElem hj]; rfl
  · rw [List.getElem?_eq_none (by rw [plT_len]; omega), List.getElem?_eq_none (by omega)]; rfl
theorem flat_le {C : List (List Int)} {T : Td} {i : Nat} : ((plT C T i).map fun o => o.getD []).flatten.length ≤ C.flatten.length := by
  have h : ∀ (l : List Nat) (f g : Nat → List Int), (∀ k, (f k).length ≤ (g k).length) → ((l.map f).flatten).length ≤ ((l.map g).flatten).length := by
    intro l f g hfg
    induction l with
    | nil => simp
    | cons x r ih =>
      simp only [List.map_cons, List.flatten_cons, List.length_append]
      have := hfg x
      omega
  have e : C = (List.range C.length).map fun k => C.getD k [] := list_range C []
  unfold plT
  rw [List.map_map]
  conv => rhs; rw [e]
  refine h _ _ _ (fun k => ?_)
  show ((if T.contains (i, k) then none else some (C.getD k [])).getD []).length ≤ _
  split
  · simp
  · simp
theorem msT_other {C : List (List Int)} {T : Td} {i j k : Nat} (hn : T.Nodup) (h : j ≠ i) : msT C (T.erase (i, k)) j = msT C T j := by
  have e1 : plT C (T.erase (i, k)) j = plT C T j := by
    unfold plT
    refine List.map_congr_left (fun x _ => ?_)
    rw [contains_erase hn]
    have : ((j, x) == (i, k)) = false := by
      rw [beq_eq_false_iff_ne]
      intro e; injection e with e1 _; exact h e1
    rw [this]; simp
  unfold msT
  rw [e1, cntT_other hn h]
theorem bxT_other {CC : List (List (List Int))} {T : Td} {i j k : Nat} (hn : T.Nodup) (h : j ≠ i) : bxT CC (T.erase (i, k)) j = bxT CC T j := by
  unfold bxT
  rw [msT_other hn h, cntT_other hn h]
theorem bxT_some {CC : List (List (List Int))} {T : Td} {i : Nat} {C : List (List Int)} (hC : CC.getD i [] = C) (hi : i < CC.length) (h0 : 0 < cntT C.length T i) (h1 : cntT C.length T i < C.length) : bxT CC T i = some (msT C T i) := by
  unfold bxT
  rw [hC, if_pos ⟨hi, h0, h1⟩]
theorem bxT_none {CC : List (List (List Int))} {T : Td} {i : Nat} {C : List (List Int)} (hC : CC.getD i [] = C) (h : ¬ (0 < cntT C.length T i ∧ cntT C.length T i < C.length)) : bxT CC T i = none := by
  unfold bxT
  rw [hC, if_neg (fun h1 => h h1.2)]
/-- A piece that was missing is put. -/
theorem put_bxT {CC : List (List (List Int))} {T : Td} {i k n : Nat} {C : List (List Int)} (hC : CC.getD i [] = C) (hn : T.Nodup) (hm : (i, k) ∈ T) (hi : i < CC.length) (hk : k < C.length) (h8 : CC.length ≤ 8) (hflat : C.flatten.length ≤ 131072) (hcn : Cnt (bxT CC T) n) :
    pput (bxT CC T) n 8 ⟨i, k, C.length, C.getD k []⟩ = (if cntT C.length (T.erase (i, k)) i = 0 then C.flatten else [], decide (cntT C.length (T.erase (i, k)) i = 0), 0, bxT CC (T.erase (i, k))) := by
  have h1 := cntT_one hn hm hk
  have hle := cntT_le C.length T i
  have hpos : 0 < cntT C.length T i := by omega
  have hfill := msT_fill (of := C.length) hn hm hk
  have hplace : (plT C T i).getD k none = none := by rw [plT_at hk, List.contains_iff_mem.2 hm]; rfl
  have hby : (msT C T i).by' + (C.getD k []).length ≤ 131072 := by
    have e : (msT C T i).by' + (C.getD k []).length = (msT C (T.erase (i, k)) i).by' := by rw [← hfill]; rfl
    rw [e]
    exact Nat.le_trans flat_le hflat
  have hgd : ((bxT CC T) i).getD (Msg.fresh C.length) = msT C T i := by
    by_cases h : cntT C.length T i < C.length
    · rw [bxT_some hC hi hpos h]; rfl
    · rw [bxT_none hC (fun h2 => h h2.2), msT_fresh (by omega)]; rfl
  have hcl : pclash (bxT CC T) ⟨i, k, C.length, C.getD k []⟩ = false := by
    by_cases h : cntT C.length T i < C.length
    · exact pclash_no (bxT_some hC hi hpos h) (plT_len C T i) hplace
    · exact pclash_fresh (bxT_none hC (fun h2 => h h2.2))
  have hth : pthere (bxT CC T) ⟨i, k, C.length, C.getD k []⟩ = false := by
    by_cases h : cntT C.length T i < C.length
    · rw [pthere_at (p := ⟨i, k, C.length, C.getD k []⟩) (bxT_some hC hi hpos h)]
      show ((plT C T i).getD k none).isSome = false
      rw [hplace]; rfl
    · exact pthere_fresh (bxT_none hC (fun h2 => h h2.2))
  have hfull : ¬ (((bxT CC T) i).isNone = true ∧ (8 : Int) ≤ (n : Int) ∨ 131072 < (((bxT CC T) i).getD (Msg.fresh C.length)).by' + (C.getD k []).length) := by
    rw [hgd]
    rintro (⟨hno, h8n⟩ | h)
    · obtain ⟨ks, k1, k2, k3⟩ := hcn
      have hni : i ∉ ks := fun hin => by have := (k3 i).1 hin; rw [Option.isNone_iff_eq_none.1 hno] at this; cases this
      have hlt := nodup_lt CC.length (i :: ks) (List.nodup_cons.2 ⟨hni, k1⟩) (fun j hj => by
        rcases List.mem_cons.1 hj with rfl | hj
        · exact hi
        · have := (k3 j).1 hj
          unfold bxT at this
          split at this
          · rename_i h; exact h.1
          · cases this)
      rw [List.length_cons, k2] at hlt
      omega
    · omega
  have hMo : ∀ j, j ≠ i → bxT CC (T.erase (i, k)) j = bxT CC T j := fun j hj => bxT_other hn hj
  by_cases h0 : cntT C.length (T.erase (i, k)) i = 0
  · rw [pput_whole hcl hth hfull hgd (by rw [hfill]; show ¬ 0 < cntT C.length (T.erase (i, k)) i; omega), if_pos h0, hfill]
    have e1 : pcat (msT C (T.erase (i, k)) i) = C.flatten := by
      show ((plT C (T.erase (i, k)) i).map fun o => o.getD []).flatten = _
      rw [plT_full h0]
    have e2 : (fun j => if j = i then none else bxT CC T j) = bxT CC (T.erase (i, k)) := by
      funext j
      by_cases hj : j = i
      · subst hj
        rw [if_pos rfl, bxT_none (T := T.erase (j, k)) (i := j) hC (fun h => by omega)]
      · rw [if_neg hj, hMo j hj]
    rw [e1, decide_eq_true h0, ← e2]
  · rw [pput_open hcl hth hfull hgd (by rw [hfill]; show 0 < cntT C.length (T.erase (i, k)) i; omega), if_neg h0, hfill]
    have e2 : (fun j => if j = i then some (msT C (T.erase (i, k)) i) else bxT CC T j) = bxT CC (T.erase (i, k)) := by
      funext j
      by_cases hj : j = i
      · subst hj
        rw [if_pos rfl, bxT_some (T := T.erase (j, k)) (i := j) hC hi (by omega) (by omega)]
      · rw [if_neg hj, hMo j hj]
    rw [decide_eq_false h0, ← e2]
/-- A piece that is there is put once more. -/
theorem put_again {CC : List (List (List Int))} {T : Td} {i k n : Nat} {C : List (List Int)} (hC : CC.getD i [] = C) (hi : i < CC.length) (hk : k < C.length) (hm : T.contains (i, k) = false) (h0 : 0 < cntT C.length T i) :
    pput (bxT CC T) n 8 ⟨i, k, C.length, C.getD k []⟩ = ([], false, 0, bxT CC T) := by
  have hlt : cntT C.length T i < C.length := by
    rcases Nat.lt_or_ge (cntT C.length T i) C.length with h | h
    · exact h
    · have := cntT_all (Nat.le_antisymm (cntT_le _ _ _) h) k hk
      rw [hm] at this; cases this
  have hM := bxT_some hC hi h0 hlt
  have hpl : (msT C T i).l.getD k none = some (C.getD k []) := by show (plT C T i).getD k none = _; rw [plT_at hk, hm]; rfl
  refine pput_there (pclash_eq (p := ⟨i, k, C.length, C.getD k []⟩) hM (plT_len C T i) hpl (by simp)) ?_
  rw [pthere_at (p := ⟨i, k, C.length, C.getD k []⟩) hM]
  show ((msT C T i).l.getD k none).isSome = true
  rw [hpl]; rfl
theorem miss_bxT {CC : List (List (List Int))} {T : Td} {i : Nat} {C : List (List Int)} (hC : CC.getD i [] = C) (hi : i < CC.length) (h0 : 0 < cntT C.length T i) (h1 : cntT C.length T i < C.length) : (missB (bxT CC T) i).length = cntT C.length T i := by
  unfold missB
  rw [bxT_some hC hi h0 h1]
  show ((List.range (plT C T i).length).filter fun k => ((plT C T i).getD k none).isNone).length = _
  rw [plT_len]
  unfold cntT
  congr 1
  refine List.filter_congr (fun k hk => ?_)
  rw [plT_at (List.mem_range.1 hk)]
  cases T.contains (i, k) <;> rfl
theorem bxT_nil (CC : List (List (List Int))) : ∀ i, bxT CC [] i = none := by
  intro i
  unfold bxT
  have : cntT (CC.getD i []).length [] i = 0 := by simp [cntT]
  rw [this, if_neg (fun h => absurd h.2.1 (by omega))]
theorem cnt_full {N : Nat} {T : Td} {i : Nat} (h : ∀ k, k < N → (i, k) ∈ T) : cntT N T i = N := by
  unfold cntT
  have : (List.range N).filter (fun k => T.contains (i, k)) = List.range N := by
    rw [List.filter_eq_self]
    intro k hk
    exact List.contains_iff_mem.2 (h k (List.mem_range.1 hk))
  rw [this, List.length_range]
/-- Ahead of the first piece nothing is there. -/
theorem bxT_start {CC : List (List (List Int))} {T : Td} (h : ∀ i k, i < CC.length → k < (CC.getD i []).length → (i, k) ∈ T) : bxT CC T = fun _ => none := by
  funext i
  unfold bxT
  by_cases hi : i < CC.length
  · rw [if_neg]
    rintro ⟨_, _, h2⟩
    rw [cnt_full (fun k hk => h i k hi hk)] at h2
    omega
  · rw [if_neg (fun h => hi h.1)]
end Go.Proofs.Ytjelfiljebamgaa
