/-
  Chapter 21's theorem: lists of lists of bytes in memory; what is still to be put; chunks.
-/
import Derived.Test.YtjelfiljebamgaaBxQ
import Derived.Test.YtjelfiljebamgaaPcO
import Derived.Test.YtjelfiljebamgaaRow
namespace Go.Proofs.Ytjelfiljebamgaa
open Go.RowKit Go.Shelf Go.Maps
set_option linter.unusedVariables false
set_option linter.unusedSimpArgs false

theorem chunks_flat_n {s : Nat} (hs : 1 ≤ s) : ∀ (n : Nat) (L : List Int), L.length ≤ n → (chunks L s).flatten = L
  | 0, L, h => by
    have h0 : L = [] := List.length_eq_zero_iff.1 (by omega)
    subst h0
    rw [chunks_eq hs]; simp
  | n + 1, L, h => by
    rw [chunks_eq hs]
    by_cases hl : L.length ≤ s
    · rw [if_pos hl]
      simp [List.take_of_length_le hl]
    · rw [if_neg hl, List.flatten_cons, chunks_flat_n hs n (L.drop s) (by rw [List.length_drop]; omega), List.take_append_drop]
theorem chunks_flat {s : Nat} (hs : 1 ≤ s) (L : List Int) : (chunks L s).flatten = L := chunks_flat_n hs _ L (Nat.le_refl _)
theorem chunks_pos {s : Nat} (hs : 1 ≤ s) (L : List Int) : 1 ≤ (chunks L s).length := (chunks_len hs _ L (Nat.le_refl _)).1
theorem cutL_at {id : Int} {N : Nat} {L : List Int} {s k : Nat} (hN : (chunks L s).length = N) (hk : k < N) : (cutL id N L s)[k]? = some (wrL id k N ((chunks L s).getD k [])) := by
  unfold cutL
  rw [List.getElem?_zipWith, List.getElem?_range hk, List.getElem?_eq_getElem (by omega), List.getD_eq_getElem?_getD, List.getElem?_eq_getElem (by omega)]
  rfl
theorem cutL_length {id : Int} {N : Nat} {L : List Int} {s : Nat} (hN : (chunks L s).length = N) : (cutL id N L s).length = N := by
  unfold cutL
  rw [List.length_zipWith, List.length_range, hN]; simp
/-- Some lists of lists of bytes, all of the call's own. -/
def AllV (w : World) (B : Nat) (v : Value) (PP : List (List (List Int))) : Prop :=
  ∃ vs, w.ownsRow B 35 1 v PP.length vs ∧ ∀ i, i < PP.length → ∃ u us, vs[i]? = some u ∧ w.ownsRow B 23 1 u (PP.getD i []).length us ∧ Pcs w B us (PP.getD i [])
/-- Rows of these three kinds stay. -/
def Stay3 (B : Nat) (w w' : World) : Prop := ∀ k c t, B ≤ k → (t = 35 ∨ t = 23 ∨ t = 5) → w.heap[k]? = some (.cells c t (0, 0)) → w'.heap[k]? = some (.cells c t (0, 0))
theorem row_stay {w w' : World} {B e k : Nat} {v : Value} {xs : List Value} (h : w.ownsRow B e 1 v k xs) (hs : Stay3 B w w') (he : e = 35 ∨ e = 23 ∨ e = 5) : w'.ownsRow B e 1 v k xs := by
  obtain ⟨hx, h⟩ := h
  refine ⟨hx, ?_⟩
  rcases h with h | ⟨g, cap, cur, hv, hg, hb, hr⟩
  · exact .inl h
  · exact .inr ⟨g, cap, cur, hv, hg, hs g cur e hg he hb, hr⟩
theorem AllV.stay {w w' : World} {B : Nat} {v : Value} {PP : List (List (List Int))} (h : AllV w B v PP) (hs : Stay3 B w w') : AllV w' B v PP := by
  obtain ⟨vs, h1, h2⟩ := h
  refine ⟨vs, row_stay h1 hs (.inl rfl), fun i hi => ?_⟩
  obtain ⟨u, us, k1, k2, k3⟩ := h2 i hi
  exact ⟨u, us, k1, row_stay k2 hs (.inr (.inl rfl)), k3.1, fun j u D a b => row_stay (k3.2 j u D a b) hs (.inr (.inr rfl))⟩
theorem Stay3.of_later {B : Nat} {w w' : World} (h : Later w w') : Stay3 B w w' := fun k c t _ _ hk => h.obj hk
theorem Stay3.trans {B : Nat} {a b c : World} (h : Stay3 B a b) (k : Stay3 B b c) : Stay3 B a c := fun i cc t hb ht hi => k i cc t hb ht (h i cc t hb ht hi)
/-- What the row of one message holds. -/
theorem AllV.at_ {w : World} {B : Nat} {v : Value} {PP : List (List (List Int))} (h : AllV w B v PP) {i : Nat} (hi : i < PP.length) : ∃ g cap u n, v = .slice (some ⟨g, 0, none⟩) PP.length cap ∧ w.cell? ⟨g, i, none⟩ = some u ∧ (PP.getD i []).length = n ∧ (∃ ao c, u = .slice ao n c) ∧
    ∀ k D, (PP.getD i [])[k]? = some D → ∃ g2 c2 u2, u = .slice (some ⟨g2, 0, none⟩) n c2 ∧ w.cell? ⟨g2, k, none⟩ = some u2 ∧ w.ownsRow B 5 1 u2 D.length (encB D) := by
  obtain ⟨vs, h1, h2⟩ := h
  obtain ⟨u, us, k1, k2, k3⟩ := h2 i hi
  rcases h1.2 with ⟨_, h0⟩ | ⟨g, cap, cur, rfl, hg, hb, hr⟩
  · omega
  · refine ⟨g, cap, u, _, rfl, by rw [← k1]; exact h1.cellAt i (by omega), rfl, own_form k2, fun k D hk => ?_⟩
    have hkl : k < (PP.getD i []).length := (List.getElem?_eq_some_iff.1 hk).1
    rcases k2.2 with ⟨_, h0⟩ | ⟨g2, cap2, cur2, rfl, hg2, hb2, hr2⟩
    · omega
    · have hus : k < us.length := by rw [k3.1]; exact hkl
      exact ⟨g2, cap2, us[k], rfl, by rw [← List.getElem?_eq_getElem hus]; exact k2.cellAt k (by omega), k3.2 k _ D (List.getElem?_eq_getElem hus) hk⟩
/-- One list of bytes more. -/
theorem AllV.snoc {W w1 : World} {B : Nat} {va v' u : Value} {PP : List (List (List Int))} {P : List (List Int)} {vs us : List Value} {tmp : Obj} (h1 : W.ownsRow B 35 1 va PP.length vs)
    (h2 : ∀ i, i < PP.length → ∃ u us, vs[i]? = some u ∧ W.ownsRow B 23 1 u (PP.getD i []).length us ∧ Pcs W B us (PP.getD i []))
    (k1 : W.ownsRow B 23 1 u P.length us) (k2 : Pcs W B us P) (hown : w1.ownsRow B 35 1 v' (PP.length + 1) (vs ++ [u])) (hg : (W.alloc tmp).grownBy w1 va.ownBlock) : AllV w1 B v' (PP ++ [P]) := by
  have hk : ∀ {e k : Nat} {v : Value} {xs : List Value}, (e = 23 ∨ e = 5) → W.ownsRow B e 1 v k xs → w1.ownsRow B e 1 v k xs := fun he hr => (hr.alloc tmp).kept hg (own_ne hr h1 (by rcases he with rfl | rfl <;> decide))
  have hl : vs.length = PP.length := by have := h1.1; omega
  refine ⟨vs ++ [u], by rw [List.length_append]; exact hown, fun i hi => ?_⟩
  rw [List.length_append, List.length_singleton] at hi
  by_cases hi2 : i < PP.length
  · obtain ⟨u2, us2, a1, a2, a3⟩ := h2 i hi2
    have e : (PP ++ [P]).getD i [] = PP.getD i [] := by rw [List.getD_eq_getElem?_getD, List.getElem?_append_left hi2, ← List.getD_eq_getElem?_getD]
    rw [e]
    exact ⟨u2, us2, by rw [List.getElem?_append_left (by omega)]; exact a1, hk (.inl rfl) a2, a3.1, fun j u D x y => hk (.inr rfl) (a3.2 j u D x y)⟩
  · obtain rfl : i = PP.length := by omega
    have e : (PP ++ [P]).getD PP.length [] = P := by rw [List.getD_eq_getElem?_getD, List.getElem?_append_right (Nat.le_refl _)]; simp
    rw [e]
    exact ⟨u, us, by rw [List.getElem?_append_right (by omega)]; simp [hl], hk (.inl rfl) k1, k2.1, fun j u D x y => hk (.inr rfl) (k2.2 j u D x y)⟩
/-- The pieces' bytes of the first k messages. -/
def ppL (Ls : List (List Int)) (s k : Nat) : List (List (List Int)) := (List.range k).map fun i => cutL (i : Nat) (chunks (Ls.getD i []) s).length (Ls.getD i []) s
theorem ppL_len (Ls : List (List Int)) (s k : Nat) : (ppL Ls s k).length = k := by simp [ppL]
theorem ppL_succ (Ls : List (List Int)) (s k : Nat) : ppL Ls s (k + 1) = ppL Ls s k ++ [cutL (k : Nat) (chunks (Ls.getD k []) s).length (Ls.getD k []) s] := by unfold ppL; rw [List.range_succ, List.map_append]; rfl
theorem ppL_at {Ls : List (List Int)} {s k i : Nat} (h : i < k) : (ppL Ls s k).getD i [] = cutL (i : Nat) (chunks (Ls.getD i []) s).length (Ls.getD i []) s := by
  rw [List.getD_eq_getElem?_getD]; simp [ppL, h]
theorem chunks_small {s : Nat} (hs : 20 ≤ s) {L : List Int} (h : L.length ≤ 3000) : (chunks L s).length ≤ 151 := by
  have h1 := (chunks_len (s := s) (by omega) _ L (Nat.le_refl _)).2.1
  rcases Nat.lt_or_ge 151 (chunks L s).length with h2 | h2
  · have h3 : 151 * 20 ≤ ((chunks L s).length - 1) * s := Nat.mul_le_mul (by omega) hs
    omega
  · exact h2
/-! ### what is still to be put -/
def encT (T : Td) : List Value := T.flatMap fun p => [.int .i64 (p.1 : Nat), .int .i64 (p.2 : Nat)]
theorem encT_len (T : Td) : (encT T).length = T.length * 2 := by
  induction T with
  | nil => rfl
  | cons p r ih => unfold encT at ih ⊢; rw [List.flatMap_cons, List.length_append, ih, List.length_cons]; simp; omega
theorem encT_app (T U : Td) : encT (T ++ U) = encT T ++ encT U := by unfold encT; rw [List.flatMap_append]
theorem encT_at {T : Td} : ∀ {j : Nat} {p : Nat × Nat}, T[j]? = some p → (encT T)[j * 2]? = some (.int .i64 (p.1 : Nat)) ∧ (encT T)[j * 2 + 1]? = some (.int .i64 (p.2 : Nat)) := by
  induction T with
  | nil => intro j p h; simp at h
  | cons q r ih =>
    intro j p h
    have e : encT (q :: r) = .int .i64 (q.1 : Nat) :: .int .i64 (q.2 : Nat) :: encT r := rfl
    rw [e]
    cases j with
    | zero =>
      obtain rfl : q = p := by simpa using h
      exact ⟨rfl, rfl⟩
    | succ j =>
      have h1 := ih (j := j) (p := p) (by simpa using h)
      rw [show (j + 1) * 2 = j * 2 + 1 + 1 by omega]
      exact h1
theorem encT_one {T : Td} : ∀ u ∈ encT T, u.oneCell' = true := by
  intro u hu
  unfold encT at hu
  obtain ⟨p, _, hp⟩ := List.mem_flatMap.1 hu
  simp at hp
  rcases hp with rfl | rfl <;> rfl
theorem encT_take (T : Td) (k : Nat) : encT (T.take k) = (encT T).take (k * 2) := by
  induction T generalizing k with
  | nil => simp [encT]
  | cons q r ih =>
    cases k with
    | zero => simp [encT]
    | succ k =>
      have e : encT (q :: r) = .int .i64 (q.1 : Nat) :: .int .i64 (q.2 : Nat) :: encT r := rfl
      have e2 : encT ((q :: r).take (k + 1)) = .int .i64 (q.1 : Nat) :: .int .i64 (q.2 : Nat) :: encT (r.take k) := rfl
      rw [e, e2, ih, show (k + 1) * 2 = k * 2 + 1 + 1 by omega]; rfl
theorem encT_drop (T : Td) (k : Nat) : encT (T.drop k) = (encT T).drop (k * 2) := by
  induction T generalizing k with
  | nil => simp [encT]
  | cons q r ih =>
    cases k with
    | zero => simp
    | succ k =>
      have e : encT (q :: r) = .int .i64 (q.1 : Nat) :: .int .i64 (q.2 : Nat) :: encT r := rfl
      rw [e, show (k + 1) * 2 = k * 2 + 1 + 1 by omega]
      show encT (r.drop k) = _
      rw [ih]; rfl
theorem und_td : Try.prog.underlying 72 = some (.slice (Try.prog.elem 72)) := by kernel_rfl
theorem elem_td : Try.prog.elem 72 = 73 := by kernel_rfl
theorem size_td (W : World) : (sizeOf 73).run Try.prog W = .ok 2 W := by kernel_rfl
theorem info_td : (Try.prog.info? 73).map (fun i => (i.size, i.bytes)) = some (2, 16) := by kernel_rfl
theorem td_high (a : Option Addr) (n cap k : Nat) (hk : k ≤ n) (hn : n ≤ cap) (hc : 0 < cap) (g : Nat) (ha : a = some ⟨g, 0, none⟩) (W : World) : (Instr.slice 72 (.slice a n cap) none (some (.int .i64 k)) none).run Try.prog W = .ok (.slice (some ⟨g, 0, none⟩) k cap) W := by
  subst ha
  rw [run_slice_h W 72 _ n cap und_td .i64 (k : Int) (by omega) (by omega), elem_td, size_td]
  simp only [Result.andThen, sliced, Int.toNat_natCast, Nat.zero_mul, Option.map_some, add_plain, Nat.add_zero, Nat.sub_zero]
  rw [if_neg (by omega)]
theorem td_low (n cap k : Nat) (hk : k ≤ n) (hn : n ≤ cap) (g : Nat) (W : World) : (Instr.slice 72 (.slice (some ⟨g, 0, none⟩) n cap) (some (.int .i64 k)) none none).run Try.prog W = .ok (.slice (some ⟨g, if cap = k then 0 else k * 2, none⟩) (n - k) (cap - k)) W := by
  rw [run_slice_l W 72 _ n cap und_td .i64 (k : Int) (by omega) (by omega), elem_td, size_td]
  simp only [Result.andThen, sliced, Int.toNat_natCast, Option.map_some, add_plain, Nat.zero_add]
  by_cases h : cap = k
  · rw [if_pos h, if_pos h]
  · rw [if_neg h, if_neg h]
/-- One goes out of the list. -/
theorem run_td_erase (w : World) (B g n cap j : Nat) (T : Td) (hn : T.length = n) (h : w.ownsRow B 73 2 (.slice (some ⟨g, 0, none⟩) n cap) n (encT T)) (hj : j < n) :
    ∃ w', (Builtin.append_ #[72, 72] 72 #[.slice (some ⟨g, 0, none⟩) j cap, .slice (some ⟨g, if cap = j + 1 then 0 else (j + 1) * 2, none⟩) (n - (j + 1)) (cap - (j + 1))]).run Try.prog w = .ok (.slice (some ⟨g, 0, none⟩) (n - 1) cap) w' ∧
      w'.ownsRow B 73 2 (.slice (some ⟨g, 0, none⟩) (n - 1) cap) (n - 1) (encT (T.eraseIdx j)) ∧ w.grownBy w' (some g) := by
  obtain ⟨i0, hi0, hi1⟩ := Option.map_eq_some_iff.1 info_td
  have hs : i0.size = 2 := congrArg Prod.fst hi1
  rcases h.2 with ⟨e, _⟩ | ⟨g', cap', cur, e, hg, hb, h1, h2, h3, h4⟩
  · cases e
  · cases e
    have hlen := encT_len T
    have hdl : (encT (T.drop (j + 1))).length = (n - (j + 1)) * 2 := by rw [encT_len, List.length_drop, hn]
    have hrun := run_append_room (P := Try.prog) w 72 72 73 i0 Try.underlying72 hi0 g j cap cur hb ⟨g, if cap = j + 1 then 0 else (j + 1) * 2, none⟩ (n - (j + 1)) (cap - (j + 1)) (encT (T.drop (j + 1))) (by rw [hs]; exact hdl) (fun k u hu => by
      have hk : k < (n - (j + 1)) * 2 := by rw [← hdl]; exact (List.getElem?_eq_some_iff.1 hu).1
      rw [if_neg (by omega), add_plain, cell_of_row _ _ _ _ _ _ hb]
      rw [encT_drop, List.getElem?_drop, ← h4, List.getElem?_take_of_lt (by omega)] at hu
      simpa using hu) (fun u hu => encT_one u hu) (by omega) (by rw [hs, hdl, h3]; omega)
    rw [show j + (n - (j + 1)) = n - 1 by omega, hs] at hrun
    refine ⟨_, hrun, ⟨?_, .inr ⟨g, cap, _, rfl, hg, setRow_heap w g cur _ _ _ hb, by omega, h2, ?_, ?_⟩⟩, ⟨rfl, rfl, rfl, by simp, fun k _ hk => setRow_other w g k _ (fun e => hk (by rw [e]))⟩⟩
    · rw [encT_len, List.length_eraseIdx, if_pos (by omega), hn]
    · simp only [List.size_toArray, List.length_append, List.length_take, List.length_drop, Array.length_toList, hdl, h3]
      omega
    · have hT : encT (T.eraseIdx j) = (encT T).take (j * 2) ++ encT (T.drop (j + 1)) := by
        rw [List.eraseIdx_eq_take_drop_succ, encT_app, encT_take]
      have hcl : cur.toList.length = cap * 2 := by simpa using h3
      have e1 : cur.toList.take (j * 2) = (encT T).take (j * 2) := by
        rw [← h4, List.take_take, Nat.min_eq_left (by omega)]
      rw [hT, List.toList_toArray, e1, List.take_append_of_le_length (by rw [List.length_append, List.length_take, hdl, hlen, hn]; omega), List.take_of_length_le (by rw [List.length_append, List.length_take, hdl, hlen, hn]; omega)]
/-- All that is to be put, of the first k messages. -/
def tdL (N : Nat → Nat) (k : Nat) : Td := (List.range k).flatMap fun i => (List.range (N i)).map fun j => (i, j)
theorem tdL_succ (N : Nat → Nat) (k : Nat) : tdL N (k + 1) = tdL N k ++ (List.range (N k)).map (fun j => (k, j)) := by
  unfold tdL; rw [List.range_succ, List.flatMap_append]; simp
theorem tdL_le {N : Nat → Nat} {c : Nat} (h : ∀ i, N i ≤ c) : ∀ k, (tdL N k).length ≤ k * c
  | 0 => by simp [tdL]
  | k + 1 => by
    rw [tdL_succ, List.length_append, List.length_map, List.length_range, Nat.succ_mul]
    have := tdL_le h k
    have := h k
    omega
theorem mem_tdL {N : Nat → Nat} {k i j : Nat} : (i, j) ∈ tdL N k ↔ i < k ∧ j < N i := by
  unfold tdL
  rw [List.mem_flatMap]
  constructor
  · rintro ⟨a, ha, hb⟩
    obtain ⟨c, hc, e⟩ := List.mem_map.1 hb
    injection e with e1 e2
    subst e1 e2
    exact ⟨List.mem_range.1 ha, List.mem_range.1 hc⟩
  · rintro ⟨h1, h2⟩
    exact ⟨i, List.mem_range.2 h1, List.mem_map.2 ⟨j, List.mem_range.2 h2, rfl⟩⟩
theorem tdL_nodup (N : Nat → Nat) : ∀ k, (tdL N k).Nodup
  | 0 => by simp [tdL]
  | k + 1 => by
    rw [tdL_succ, List.nodup_append]
    refine ⟨tdL_nodup N k, ?_, fun a ha b hb e => ?_⟩
    · exact List.Pairwise.map _ (fun a b h e => h (by injection e)) List.nodup_range
    · obtain ⟨c, _, rfl⟩ := List.mem_map.1 hb
      obtain ⟨a1, a2⟩ := a
      have := (mem_tdL.1 ha).1
      injection e with e1 _
      omega
theorem erase_at : ∀ {T : Td} {j : Nat} {p : Nat × Nat}, T.Nodup → T[j]? = some p → T.erase p = T.eraseIdx j
  | [], j, p, _, h => by simp at h
  | q :: r, 0, p, _, h => by
    obtain rfl : q = p := by simpa using h
    simp
  | q :: r, j + 1, p, hn, h => by
    have hd := List.nodup_cons.1 hn
    have h1 : r[j]? = some p := by simpa using h
    have hne : q ≠ p := fun e => hd.1 (e ▸ List.mem_of_getElem? h1)
    rw [List.erase_cons_tail (by simpa using hne), List.eraseIdx_cons_succ, erase_at hd.2 h1]
/-- New numbers, all 0. -/
theorem info_int2 : (Try.prog.info? 3).map (fun i => (i.zero, i.size, i.bytes)) = some (some (.int .i64 0), 1, 8) := by kernel_rfl
theorem make_ints (n : Nat) (hn : n ≤ 200000) (w : World) : (Instr.makeSlice 60 (.int .i64 n) (.int .i64 n)).run Try.prog w = .ok (.slice (some ⟨w.heap.size, 0, none⟩) n n) (w.alloc (.cells (rowV n fun _ => 0) 3)) := by
  obtain ⟨i0, hi, hz0, hz1, hz2⟩ := info_parts info_int2
  have h := run_make (P := Try.prog) w 60 3 i0 (.int .i64 0) Try.underlying60 hi hz0 .i64 .i64 n n (by omega) (Int.le_refl _) (by rw [hz2]; omega) (by omega)
  rw [hz1, Nat.mul_one, Int.toNat_natCast] at h
  have e : madeCells (Value.int .i64 0).cells n = rowV n fun _ => 0 := by
    apply Array.ext
    · simp [madeCells, rowV]
    · intro i h1 h2
      simp [madeCells, Value.cells, rowV, Nat.mod_one]
  rw [e] at h
  exact h
end Go.Proofs.Ytjelfiljebamgaa
