/-
  Chapter 21's document: a message is cut into its pieces.
-/
import Derived.Test.YtjelfiljebamgaaPcQ1
namespace Go.Proofs.Ytjelfiljebamgaa
open Go.RowKit Go.Shelf
set_option linter.unusedVariables false
set_option linter.unusedSimpArgs false
attribute [local go_sem] Oper.semAt_some

def BtV (W : World) (u : Value) (D : List Int) : Prop := BytV W u D ∧ U8b W u
theorem BtV.later {W W' : World} {u : Value} {D : List Int} (h : BtV W u D) (hl : Later W W') : BtV W' u D := ⟨h.1.later hl, h.2.later hl⟩
theorem BtV.append {w5 w8 : World} {o : Obj} {u v : Value} {D : List Int} {base k : Nat} {xs : List Value} (h : BtV w5 u D) (hrow : w5.ownsRow base 23 1 v k xs) (hg : (w5.alloc o).grownBy w8 v.ownBlock) : BtV w8 u D := by
  have hl : Later w5 (w5.alloc o) := (Later.refl _).alloc _
  have hu1 := h.1.later hl
  have ht1 := h.2.later hl
  have hr1 := hrow.alloc o
  have hs : ∀ g, (∃ c fr, (w5.alloc o).heap[g]? = some (Obj.cells c 5 fr)) → w8.heap[g]? = (w5.alloc o).heap[g]? := fun g ⟨c, fr, h⟩ =>
    hg.block g (Array.getElem?_eq_some_iff.1 h).1 (fun e => row_ne hr1 h (by decide) e.symm)
  exact ⟨hu1.stay (P := fun g => ∃ c fr, (w5.alloc o).heap[g]? = some (Obj.cells c 5 fr)) (fun g o s len cap e hp => ht1 g o s len cap e hp) (fun g hP _ => hs g hP),
    fun g o s len cap e hp => by obtain ⟨c, fr, h⟩ := ht1 g o s len cap e hp; exact ⟨c, fr, (hs g ⟨c, fr, h⟩).trans h⟩⟩
/-- What lies in a list of slices. -/
def Bts (W : World) (vs : List Value) (Ls : List (List Int)) : Prop := vs.length = Ls.length ∧ ∀ (j : Nat) (u : Value) (D : List Int), vs[j]? = some u → Ls[j]? = some D → BtV W u D
theorem Bts.kept {W W' : World} {vs : List Value} {Ls : List (List Int)} (h : Bts W vs Ls) (k : ∀ u D, BtV W u D → BtV W' u D) : Bts W' vs Ls := ⟨h.1, fun j u D h1 h2 => k u D (h.2 j u D h1 h2)⟩
theorem Bts.snoc {W : World} {vs : List Value} {Ls : List (List Int)} (h : Bts W vs Ls) {u : Value} {D : List Int} (hu : BtV W u D) : Bts W (vs ++ [u]) (Ls ++ [D]) := by
  refine ⟨by rw [List.length_append, List.length_append, h.1]; rfl, fun j u' D' h1 h2 => ?_⟩
  rcases Nat.lt_or_ge j vs.length with hj | hj
  · rw [List.getElem?_append_left hj] at h1
    rw [List.getElem?_append_left (by rw [← h.1]; exact hj)] at h2
    exact h.2 j u' D' h1 h2
  · rw [List.getElem?_append_right hj] at h1
    rw [List.getElem?_append_right (by rw [← h.1]; exact hj), ← h.1] at h2
    rcases Nat.eq_zero_or_pos (j - vs.length) with h0 | h0
    · rw [h0] at h1 h2
      cases h1; cases h2; exact hu
    · rw [List.getElem?_eq_none (by simp; omega)] at h1; cases h1
theorem bss_bts {W : World} {B : Nat} {v : Value} {vs : List Value} {Ls : List (List Int)} (h : W.ownsRow B 23 1 v Ls.length vs) (hp : Bts W vs Ls) : BssV W v Ls := by
  obtain ⟨ao, cap, rfl⟩ := own_form h
  refine ⟨ao, cap, rfl, fun k hk => ?_⟩
  have hlt : k < vs.length := by rw [hp.1]; exact hk
  have h2 := hp.2 k vs[k] Ls[k] (List.getElem?_eq_getElem hlt) (List.getElem?_eq_getElem hk)
  rcases h.2 with ⟨e, h0⟩ | ⟨g, cap', cur, e, _⟩
  · injection e with _ e2 _; omega
  · injection e with e1 _ _
    subst e1
    refine ⟨g, 0, vs[k], rfl, ?_, ?_⟩
    · rw [Nat.zero_add]; exact (h.cellAt k (by omega)).trans (List.getElem?_eq_getElem hlt)
    · rw [List.getD_eq_getElem?_getD, List.getElem?_eq_getElem hk]; exact h2.1
theorem cutL_len (id : Int) (N : Nat) (L : List Int) (s : Nat) (h : (chunks L s).length = N) : (cutL id N L s).length = N := by
  unfold cutL; rw [List.length_zipWith, List.length_range, h, Nat.min_self]
theorem cutL_step (id : Int) {N : Nat} (L : List Int) {s i : Nat} {D : List Int} (hi : i < N) (hD : (chunks L s)[i]? = some D) : (cutL id N L s).take (i + 1) = (cutL id N L s).take i ++ [wrL id i N D] := by
  rw [List.take_add_one]
  congr 1
  unfold cutL
  rw [List.getElem?_zipWith, List.getElem?_range hi, hD]
  rfl
set_option maxRecDepth 100000 in
set_option maxHeartbeats 2000000 in
theorem cut21_any (id : Int) (s : Nat) (u : Value) (L : List Int) (W : World) (hu : BytV W u L) (hid : 0 ≤ id) (h : CutOk id L.length s) :
    Calls Try.prog 16 #[.int .u64 id, u, .int .i64 s] W fun e w' => (((chunks L s).length ≤ 4096 ∧ ∃ v, e = .returned (.tuple #[v, .int .i64 0]) ∧ BssV w' v (cutL id (chunks L s).length L s)) ∨
      (¬ (chunks L s).length ≤ 4096 ∧ e = .returned (.tuple #[.slice none 0 0, .int .i64 210]))) ∧ Later W w' := by
  obtain ⟨ao, cap, rfl⟩ := bytV_form hu
  have hs1 : 1 ≤ s ∧ s ≤ 880 := by have := h.2.2; omega
  have hL0 : L.length ≤ 131072 := by have := h.2.1; omega
  obtain ⟨N, hN⟩ : ∃ N, Hid ((chunks L s).length = N) := ⟨_, rfl⟩
  have hN1 : 1 ≤ N := by rw [← hN.out]; exact (chunks_len hs1.1 L.length L (Nat.le_refl _)).1
  have hNb : (N - 1) * s ≤ L.length := by rw [← hN.out]; exact (chunks_len hs1.1 L.length L (Nat.le_refl _)).2.1
  have hNN : N ≤ 131073 := by
    have := Nat.le_mul_of_pos_right (N - 1) hs1.1
    omega
  rw [hN.out]
  obtain ⟨n, hn⟩ : ∃ n, Hid (L.length = n) := ⟨_, rfl⟩
  have hfirst : Hid (∀ k, 1 ≤ k → k < N → k * s < n) := Lib.hid fun k h1 h2 => by rw [← hn.out]; exact chunks_first hs1.1 h1 (by rw [hN.out]; exact h2)
  have hlast : ¬ N * s < n := by rw [← hn.out, ← hN.out]; exact chunks_last hs1.1 L
  rw [hn.out] at h hL0 ⊢
  obtain ⟨h1, h2, h3, h4⟩ := h
  have d1 : decide ((4611686018427387904 : Int) ≤ id) = false := decide_eq_false (by omega)
  have d2 : decide ((131072 : Int) < (n : Int)) = false := decide_eq_false (by omega)
  have d3 : decide ((s : Int) < 1) = false := decide_eq_false (by omega)
  have d4 : decide ((880 : Int) < (s : Int)) = false := decide_eq_false (by omega)
  rw [hn.out] at hu
  have hu := Lib.hid hu
  obtain ⟨i0, hi0, hz0, hz1, hz2⟩ := info_parts info_bs
  have q2 := Try.underlying35
  have hlast := Lib.hid hlast
  have hNb := Lib.hid hNb
  go_enter Try.func16, Try.ntmps16
  go_wp2_with fail
  go_loopg [8] (N + 1) (fun g y wr => W = wr ∧ ∃ k : Nat, g = N + 2 - k ∧ 1 ≤ k ∧ k ≤ N ∧ y = .int .i64 k)
  case atStart => exact ⟨rfl, 1, by omega, Nat.le_refl _, hN1, rfl⟩
  case round =>
    obtain ⟨rfl, k, rfl, hk1, hkN, rfl⟩ := hrel
    obtain ⟨t, ht⟩ : ∃ t, Hid (k * s = t) := ⟨_, rfl⟩
    have hks : (k : Int) * (s : Int) = (t : Int) := by rw [← ht.out]; exact (Int.natCast_mul _ _).symm
    have htb : t ≤ 131073 * 880 := by rw [← ht.out]; exact Nat.mul_le_mul (by omega) hs1.2
    by_cases hkn : k < N
    · have hlt : (t : Int) < (n : Int) := by have := hfirst.out k hk1 hkn; rw [ht.out] at this; omega
      go_wp2_with fail
      go_roundg (N + 1 - k)
      case measure => omega
      case rel => exact ⟨rfl, k + 1, by omega, by omega, by omega, by go_num⟩
    · obtain rfl : k = N := by omega
      have hge : ¬ (t : Int) < (n : Int) := by have := hlast.out; rw [ht.out] at this; omega
      by_cases hN4 : k ≤ 4096
      · have g4 : ¬ (4096 : Int) < (k : Int) := by omega
        go_wp2_with fail
        go_loopg [9, 10, 11, 12, 13] (k + 1) (fun g y9 y10 y11 y12 y wr => Later W wr ∧ ∃ (i : Nat) (vs : List Value), g = k + 1 - i ∧ i ≤ k ∧ y10 = .int .i64 i ∧ wr.ownsRow W.heap.size 23 1 y9 i vs ∧ Bts wr vs ((cutL id k L s).take i))
        case atStart => exact ⟨Later.refl _, 0, [], by omega, Nat.zero_le _, rfl, World.ownsRow_nil _ _ _ _, ⟨rfl, fun j u D h => by simp at h⟩⟩
        case round =>
          obtain ⟨hl, i, vs, rfl, hik, rfl, hrow, hbt⟩ := hrel
          obtain ⟨wo, rfl⟩ : ∃ wo : World, wo = wr := ⟨_, rfl⟩
          obtain ⟨vo, vc, rfl⟩ := own_form hrow
          by_cases hi : i < k
          · have hii : (i : Int) < (k : Int) := by omega
            have hD := chunks_part hs1.1 (i := i) (L := L) (by rw [hN.out]; exact hi)
            rw [hn.out] at hD
            obtain ⟨t0, ht0⟩ : ∃ t, Hid (i * s = t) := ⟨_, rfl⟩
            obtain ⟨t1, ht1⟩ : ∃ t, Hid ((i + 1) * s = t) := ⟨_, rfl⟩
            obtain ⟨mm, hmm⟩ : ∃ x, Hid (min t1 n = x) := ⟨_, rfl⟩
            have hk0 : (i : Int) * (s : Int) = (t0 : Int) := by rw [← ht0.out]; exact (Int.natCast_mul _ _).symm
            have hk1' : ((i : Int) + 1) * (s : Int) = (t1 : Int) := by rw [← ht1.out]; exact (Int.natCast_mul (i + 1) s).symm
            have h01 : t1 = t0 + s := by rw [← ht0.out, ← ht1.out]; exact Nat.succ_mul _ _
            have h0n : t0 ≤ n := by
              have := hNb.out
              have h3 : i * s ≤ (k - 1) * s := Nat.mul_le_mul_right _ (by omega)
              rw [ht0.out] at h3
              have := hn.out; omega
            have hm0 : t0 ≤ mm := by have := hmm.out; omega
            have hmn : mm ≤ n := by have := hmm.out; omega
            have hcap : n ≤ cap := by
              obtain ⟨_, a', c', e, hc, _⟩ := hu.out
              injection e with e1 e2 e3
              have := hn.out; omega
            obtain ⟨a', hsl⟩ := slice_both ao n cap t0 mm hm0 hmn hcap
            have hrun : ∀ W', _ := fun W' => (hsl W').1
            have hbv := (hsl wo).2 wo L hn.out (hu.out.later hl)
            rw [ht0.out, ht1.out, hmm.out] at hD
            obtain ⟨D, hDe⟩ : ∃ D, (L.take mm).drop t0 = D := ⟨_, rfl⟩
            rw [hDe] at hbv hD
            have hDl : D.length ≤ 880 := by rw [← hDe, List.length_drop, List.length_take]; have := hmm.out; omega
            have HW := Lib.hid (write21_yes id i k _ D wo hbv ⟨by omega, by omega, by omega, by omega, by omega, hDl⟩ hid)
            have hstep := Lib.hid (cutL_step id L hi hD)
            clear hbv hsl hD hDe
            have hML : 4097 < maxLen := by decide
            have hmA : (n : Int) < (t1 : Int) → mm = n := fun h => by rw [← hmm.out]; exact Nat.min_eq_right (by omega)
            have hmB : ¬ (n : Int) < (t1 : Int) → mm = t1 := fun h => by rw [← hmm.out]; exact Nat.min_eq_left (by omega)
            have gt1 : (n : Int) < (t1 : Int) ∨ ¬ (n : Int) < (t1 : Int) := Classical.em _
            have hm1 : mm ≤ 131072 ∧ t1 ≤ 131952 ∧ t0 ≤ 131072 := by omega
            clear hmm ht0 ht1 hfirst hn hlast hNb h01
            rcases gt1 with gt1 | gt1
            · obtain rfl : mm = n := hmA gt1
              clear hmA hmB
              go_wp2_with fail
              refine HW.out.mono ?_
              rintro e w5 ⟨v, rfl, hv, htv, h5⟩
              obtain ⟨m5, o5, cap5, rfl⟩ : ∃ m a c, v = .slice a m c := by
                obtain ⟨a1, c1, h⟩ := bytV_form hv
                exact ⟨_, a1, c1, h⟩
              have hrow5 := row_later hrow h5
              have hbt5 := hbt.kept (fun u D h => h.later h5)
              have hl5 := hl.trans h5
              have hv5 : BtV w5 (.slice o5 m5 cap5) (wrL id i k D) := ⟨hv, htv⟩
              clear HW hbt hrow hv htv
              have hsz := hl5.size
              have q1 := hrow5.alloc (.cells #[.slice o5 m5 cap5] 23)
              have q3 : ∀ u ∈ [Value.slice o5 m5 cap5], u.oneCell' = true := fun u hu => by rw [List.mem_singleton] at hu; rw [hu]; rfl
              have q4 : i + 1 ≤ maxLen := by omega
              have q5 : ∀ j u, [Value.slice o5 m5 cap5][j]? = some u → (w5.alloc (.cells #[.slice o5 m5 cap5] 23)).cell? ((⟨w5.heap.size, 0, none⟩ : Addr).add j) = some u := World.news_of_block (heap_alloc_new _ _)
              have q6 : (i + 1) * 24 ≤ 140737488355328 := by omega
              have q7 : W.heap.size ≤ (w5.alloc (.cells #[.slice o5 m5 cap5] 23)).heap.size := by simp; omega
              as_aux_lemma =>
                go_wp2_with (at_builtin; refine wpList_append_own _ rfl _ _ 35 rfl W.heap.size 23 i0 (.slice none 0 0) 1 24 q2 hi0 hz0 hz1 hz2 rfl (by decide) _ _ _ rfl q1 ⟨w5.heap.size, 0, none⟩ 1 1 [.slice o5 m5 cap5] rfl rfl q5 q3 q4 q6 q7 ?_; intro v' w8 hown' hgrow _)
                go_roundg (k - i)
                case measure => omega
                case rel =>
                  refine ⟨later_own (hl5.alloc _) q1 (Nat.le_refl _) hgrow, i + 1, vs ++ [.slice o5 m5 cap5], by omega, by omega, by go_num, hown', ?_⟩
                  rw [hstep.out]
                  exact (hbt5.kept (fun u D h => h.append hrow5 hgrow)).snoc (hv5.append hrow5 hgrow)
            · obtain rfl : mm = t1 := hmB gt1
              clear hmA hmB
              go_wp2_with fail
              refine HW.out.mono ?_
              rintro e w5 ⟨v, rfl, hv, htv, h5⟩
              obtain ⟨m5, o5, cap5, rfl⟩ : ∃ m a c, v = .slice a m c := by
                obtain ⟨a1, c1, h⟩ := bytV_form hv
                exact ⟨_, a1, c1, h⟩
              have hrow5 := row_later hrow h5
              have hbt5 := hbt.kept (fun u D h => h.later h5)
              have hl5 := hl.trans h5
              have hv5 : BtV w5 (.slice o5 m5 cap5) (wrL id i k D) := ⟨hv, htv⟩
              clear HW hbt hrow hv htv
              have hsz := hl5.size
              have q1 := hrow5.alloc (.cells #[.slice o5 m5 cap5] 23)
              have q3 : ∀ u ∈ [Value.slice o5 m5 cap5], u.oneCell' = true := fun u hu => by rw [List.mem_singleton] at hu; rw [hu]; rfl
              have q4 : i + 1 ≤ maxLen := by omega
              have q5 : ∀ j u, [Value.slice o5 m5 cap5][j]? = some u → (w5.alloc (.cells #[.slice o5 m5 cap5] 23)).cell? ((⟨w5.heap.size, 0, none⟩ : Addr).add j) = some u := World.news_of_block (heap_alloc_new _ _)
              have q6 : (i + 1) * 24 ≤ 140737488355328 := by omega
              have q7 : W.heap.size ≤ (w5.alloc (.cells #[.slice o5 m5 cap5] 23)).heap.size := by simp; omega
              as_aux_lemma =>
                go_wp2_with (at_builtin; refine wpList_append_own _ rfl _ _ 35 rfl W.heap.size 23 i0 (.slice none 0 0) 1 24 q2 hi0 hz0 hz1 hz2 rfl (by decide) _ _ _ rfl q1 ⟨w5.heap.size, 0, none⟩ 1 1 [.slice o5 m5 cap5] rfl rfl q5 q3 q4 q6 q7 ?_; intro v' w8 hown' hgrow _)
                go_roundg (k - i)
                case measure => omega
                case rel =>
                  refine ⟨later_own (hl5.alloc _) q1 (Nat.le_refl _) hgrow, i + 1, vs ++ [.slice o5 m5 cap5], by omega, by omega, by go_num, hown', ?_⟩
                  rw [hstep.out]
                  exact (hbt5.kept (fun u D h => h.append hrow5 hgrow)).snoc (hv5.append hrow5 hgrow)
          · obtain rfl : i = k := by omega
            have hii : ¬ (i : Int) < (i : Int) := by omega
            rw [List.take_of_length_le (by rw [cutL_len _ _ _ _ hN.out]; exact Nat.le_refl _)] at hbt
            have hlN := cutL_len id i L s hN.out
            have hfin : Hid (BssV wo (.slice vo i vc) (cutL id i L s)) := Lib.hid (bss_bts (B := W.heap.size) (vs := vs) (by rw [hlN]; exact hrow) hbt)
            clear hbt hrow
            go_wp2_with fail
            go_ret2
            first | exact ⟨.inl ⟨hN4, _, rfl, hfin.out⟩, hl⟩ | exact ⟨⟨_, rfl, hfin.out⟩, hl⟩ | trace_state
      · have g4 : (4096 : Int) < (k : Int) := by omega
        go_wp2_with fail
        go_ret2
        first | exact ⟨.inr ⟨hN4, rfl⟩, Later.refl _⟩ | exact ⟨rfl, Later.refl _⟩
end Go.Proofs.Ytjelfiljebamgaa
