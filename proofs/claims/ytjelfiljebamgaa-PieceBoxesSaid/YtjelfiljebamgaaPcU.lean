/-
  Chapter 21: the program's answers and the document's, side by side.
-/
import Derived.Test.YtjelfiljebamgaaPcS
import Derived.Test.YtjelfiljebamgaaPcT
namespace Go.Proofs.Ytjelfiljebamgaa
open Go.RowKit Go.Shelf
set_option linter.unusedVariables false
set_option linter.unusedSimpArgs false

theorem bytV_nil (W : World) : BytV W (.slice none 0 0) [] := ⟨fun x hx => by simp at hx, none, 0, rfl, ⟨Nat.le_refl _, fun _ => rfl⟩, fun k hk => by simp at hk⟩
theorem write_both (id at_ of : Int) (D : List Int) (hid : 0 ≤ id) (hD : Byt D) : ∃ (A : List Int) (r : Int), Byt A ∧ A.length ≤ 900 ∧
    (∀ Y u, BytV Y u D → Calls Try.prog 11 #[pcV id at_ of u] Y fun e w' => ∃ v, e = .returned (.tuple #[v, .int .i64 r]) ∧ w'.ownsRow Y.heap.size 5 1 v A.length (encB A) ∧ Later Y w') ∧
    (∀ Y u, BytV Y u D → Calls Try.prog 12 #[pcV id at_ of u] Y fun e w' => ∃ v, e = .returned (.tuple #[v, .int .i64 r]) ∧ BytV w' v A ∧ Later Y w') := by
  by_cases hM : May id at_ of D.length
  · refine ⟨wrL id at_ of D, 0, wrL_byt hM hid hD, wrL_length hM hid, fun Y u hu => write_yes id at_ of u D Y hu hM hid, fun Y u hu => ?_⟩
    refine (write21_yes id at_ of u D Y hu hM hid).mono ?_
    rintro e w' ⟨v, rfl, hv, -, hl⟩
    exact ⟨v, rfl, hv, hl⟩
  · refine ⟨[], 210, fun x hx => by simp at hx, by simp, fun Y u hu => ?_, fun Y u hu => ?_⟩
    · refine (write_no id at_ of u D Y hu hM).mono ?_
      rintro e w' ⟨rfl, hl⟩
      exact ⟨_, rfl, World.ownsRow_nil _ _ _ _, hl⟩
    · refine (write21_no id at_ of u D Y hu hM).mono ?_
      rintro e w' ⟨rfl, hl⟩
      exact ⟨_, rfl, bytV_nil _, hl⟩
theorem read_both (B : List Int) (hB : Byt B) (hb : B.length ≤ 1000000) : ∃ (I a o : Int) (E : List Int) (r : Int), Byt E ∧ E.length ≤ 880 ∧
    (∀ Y u, BytV Y u B → Calls Try.prog 13 #[u] Y fun e w' => ∃ v, e = .returned (.tuple #[pcV I a o v, .int .i64 r]) ∧ w'.ownsRow Y.heap.size 5 1 v E.length (encB E) ∧ Later Y w') ∧
    (∀ Y u, BytV Y u B → Calls Try.prog 14 #[u] Y fun e w' => ∃ v, e = .returned (.tuple #[pcV I a o v, .int .i64 r]) ∧ BytV w' v E ∧ Later Y w') := by
  by_cases hR : RdOk B
  · have hE : Byt (rd4 B).1 := rT_byt _ _ _ (rU_byt _ _ _ (rU_byt _ _ _ (rU_byt _ _ _ hB)))
    refine ⟨_, _, _, _, 0, hE, hR.2.2.2.2.2.2, fun Y u hu => read_yes u B Y hu hb hR, fun Y u hu => ?_⟩
    refine (read21_yes u B Y hu hb hR).mono ?_
    rintro e w' ⟨v, rfl, hv, hl⟩
    exact ⟨v, rfl, (bytV_of_row hE hv).1, hl⟩
  · refine ⟨0, 0, 0, [], 210, fun x hx => by simp at hx, by simp, fun Y u hu => ?_, fun Y u hu => ?_⟩
    · refine (read_no u B Y hu hb hR).mono ?_
      rintro e w' ⟨rfl, hl⟩
      exact ⟨_, rfl, World.ownsRow_nil _ _ _ _, hl⟩
    · refine (read21_no u B Y hu hb hR).mono ?_
      rintro e w' ⟨rfl, hl⟩
      exact ⟨_, rfl, bytV_nil _, hl⟩
theorem cutL_mem {id : Int} {M : List Int} {s : Nat} (hM : Byt M) (hid : 0 ≤ id) (hc : CutOk id M.length s) (hN : (chunks M s).length ≤ 4096) {D : List Int} (hD : D ∈ cutL id (chunks M s).length M s) : Byt D ∧ D.length ≤ 900 := by
  have hs : 1 ≤ s ∧ s ≤ 880 := by have := hc.2.2; omega
  obtain ⟨i, hi⟩ := List.mem_iff_getElem?.1 hD
  have hlt : i < (chunks M s).length := by
    have := (List.getElem?_eq_some_iff.1 hi).1
    rw [cutL_len id _ M s rfl] at this; exact this
  have hp := chunks_part hs.1 hlt
  have hle := chunks_of_le hs.1 hp
  unfold cutL at hi
  rw [List.getElem?_zipWith, List.getElem?_range hlt, hp] at hi
  injection hi with hi
  have hByt : Byt ((M.take (min ((i + 1) * s) M.length)).drop (i * s)) := (hM.take _).drop _
  have hMay : May id i (chunks M s).length ((M.take (min ((i + 1) * s) M.length)).drop (i * s)).length := ⟨hc.1, by omega, by omega, by omega, by omega, by omega⟩
  rw [← hi]
  exact ⟨wrL_byt hMay hid hByt, wrL_length hMay hid⟩
theorem cut_both (id : Int) (M : List Int) (s : Int) (hid : 0 ≤ id) (hM : Byt M) : ∃ (Ls : List (List Int)) (r : Int), Ls.length ≤ 4096 ∧ (∀ D ∈ Ls, Byt D ∧ D.length ≤ 900) ∧
    (∀ Y u, BytV Y u M → Calls Try.prog 15 #[.int .u64 id, u, .int .i64 s] Y fun e w' => ∃ v vs, e = .returned (.tuple #[v, .int .i64 r]) ∧ w'.ownsRow Y.heap.size 23 1 v Ls.length vs ∧ Pcs w' Y.heap.size vs Ls ∧ Later Y w') ∧
    (∀ Y u, BytV Y u M → Calls Try.prog 16 #[.int .u64 id, u, .int .i64 s] Y fun e w' => ∃ v, e = .returned (.tuple #[v, .int .i64 r]) ∧ BssV w' v Ls ∧ Later Y w') := by
  by_cases hC : CutOk id M.length s
  · obtain ⟨k, rfl⟩ : ∃ k : Nat, s = k := ⟨s.toNat, by have := hC.2.2; omega⟩
    by_cases hN : (chunks M k).length ≤ 4096
    · refine ⟨cutL id (chunks M k).length M k, 0, by rw [cutL_len id _ M k rfl]; exact hN, fun D hD => cutL_mem hM hid hC hN hD, fun Y u hu => ?_, fun Y u hu => ?_⟩
      · refine (cut_any id k u M Y hu hid hC).mono ?_
        rintro e w' ⟨⟨-, v, vs, rfl, hv, hp⟩ | ⟨hno, -⟩, hl⟩
        · exact ⟨v, vs, rfl, by rw [cutL_len id _ M k rfl]; exact hv, hp, hl⟩
        · exact absurd hN hno
      · refine (cut21_any id k u M Y hu hid hC).mono ?_
        rintro e w' ⟨⟨-, v, rfl, hv⟩ | ⟨hno, -⟩, hl⟩
        · exact ⟨v, rfl, hv, hl⟩
        · exact absurd hN hno
    · refine ⟨[], 210, by simp, fun D hD => by simp at hD, fun Y u hu => ?_, fun Y u hu => ?_⟩
      · refine (cut_any id k u M Y hu hid hC).mono ?_
        rintro e w' ⟨⟨hy, -⟩ | ⟨-, rfl⟩, hl⟩
        · exact absurd hy hN
        · exact ⟨_, [], rfl, World.ownsRow_nil _ _ _ _, ⟨rfl, fun j u D h => by simp at h⟩, hl⟩
      · refine (cut21_any id k u M Y hu hid hC).mono ?_
        rintro e w' ⟨⟨hy, -⟩ | ⟨-, rfl⟩, hl⟩
        · exact absurd hy hN
        · exact ⟨_, rfl, ⟨none, 0, rfl, fun k hk => by simp at hk⟩, hl⟩
  · refine ⟨[], 210, by simp, fun D hD => by simp at hD, fun Y u hu => ?_, fun Y u hu => ?_⟩
    · refine (cut_bad id s u M Y hu hC).mono ?_
      rintro e w' ⟨rfl, hl⟩
      exact ⟨_, [], rfl, World.ownsRow_nil _ _ _ _, ⟨rfl, fun j u D h => by simp at h⟩, hl⟩
    · refine (cut21_bad id s u M Y hu hC).mono ?_
      rintro e w' ⟨rfl, hl⟩
      exact ⟨_, rfl, ⟨none, 0, rfl, fun k hk => by simp at hk⟩, hl⟩
/-- Bytes in a block of one's own: they may be turned. -/
def U8s (W : World) (base : Nat) (v : Value) (n : Nat) : Prop :=
  (n = 0 ∧ v = .slice none 0 0) ∨ ∃ g cap c, v = .slice (some ⟨g, 0, none⟩) n cap ∧ base ≤ g ∧ W.heap[g]? = some (.cells c 5 (0, 0)) ∧ ∀ k, k < n → ∃ x, c[k]? = some (.int .u8 x)
theorem u8s_of {W : World} {base : Nat} {v : Value} {L : List Int} (h : W.ownsRow base 5 1 v L.length (encB L)) : U8s W base v L.length := by
  rcases h.2 with ⟨rfl, h0⟩ | ⟨g, cap, cur, rfl, hb, hg, h1, h2, h3, h4⟩
  · exact .inl ⟨h0, rfl⟩
  · refine .inr ⟨g, cap, cur, rfl, hb, hg, fun k hk => ⟨L.getD k 0, ?_⟩⟩
    have e1 : (cur.toList.take (L.length * 1))[k]? = (encB L)[k]? := by rw [h4]
    rw [Nat.mul_one, List.getElem?_take_of_lt hk, Array.getElem?_toList] at e1
    rw [e1]
    unfold encB
    rw [List.getElem?_map, List.getElem?_eq_getElem hk, List.getD_eq_getElem?_getD, List.getElem?_eq_getElem hk]
    rfl
theorem U8s.later {W W' : World} {base n : Nat} {v : Value} (h : U8s W base v n) (hl : Later W W') : U8s W' base v n := by
  rcases h with h | ⟨g, cap, c, rfl, hb, hg, hc⟩
  · exact .inl h
  · exact .inr ⟨g, cap, c, rfl, hb, (hl.block g (Array.getElem?_eq_some_iff.1 hg).1).trans hg, hc⟩
theorem U8s.set {W : World} {base n : Nat} {v : Value} (h : U8s W base v n) (p j : Nat) (y : Int) : U8s (W.setCell ⟨p, j, none⟩ (.int .u8 y)) base v n := by
  rcases h with h | ⟨g, cap, c, rfl, hb, hg, hc⟩
  · exact .inl h
  · by_cases hp : p = g
    · subst hp
      refine .inr ⟨p, cap, _, rfl, hb, heap_set4 hg j (.int .u8 y), fun k hk => ?_⟩
      obtain ⟨x, hx⟩ := hc k hk
      rw [Array.getElem?_setIfInBounds]
      have hlt := (Array.getElem?_eq_some_iff.1 hx).1
      split
      · rename_i e; subst e; rw [if_pos hlt]; exact ⟨y, rfl⟩
      · exact ⟨x, hx⟩
    · exact .inr ⟨g, cap, c, rfl, hb, (Below.heap_setCell W ⟨p, j, none⟩ (.int .u8 y) g (fun e => hp (by first | exact e | exact e.symm))).trans hg, hc⟩
theorem U8s.at_ {W : World} {base n : Nat} {v : Value} (h : U8s W base v n) {k : Nat} (hk : k < n) : ∃ g cap x, v = .slice (some ⟨g, 0, none⟩) n cap ∧ base ≤ g ∧ W.cell? ⟨g, k, none⟩ = some (.int .u8 x) ∧ W.frozen? ⟨g, k, none⟩ = false ∧ ∃ c, W.heap[g]? = some (.cells c 5 (0, 0)) := by
  rcases h with ⟨rfl, _⟩ | ⟨g, cap, c, rfl, hb, hg, hc⟩
  · omega
  · obtain ⟨x, hx⟩ := hc k hk
    exact ⟨g, cap, x, rfl, hb, (cell_of_row W g k _ _ _ hg).trans hx, frozen_row hg k, c, hg⟩
/-- A list of such. -/
def L8s (W : World) (base : Nat) (v : Value) (n : Nat) : Prop :=
  (n = 0 ∧ v = .slice none 0 0) ∨ ∃ g cap c, v = .slice (some ⟨g, 0, none⟩) n cap ∧ W.heap[g]? = some (.cells c 23 (0, 0)) ∧ ∀ j, j < n → ∃ u m, c[j]? = some u ∧ m ≤ 900 ∧ U8s W base u m
theorem l8s_of {W : World} {base : Nat} {v : Value} {vs : List Value} {Ls : List (List Int)} (h : W.ownsRow base 23 1 v Ls.length vs) (hp : Pcs W base vs Ls) (hb : ∀ D ∈ Ls, Byt D ∧ D.length ≤ 900) : L8s W base v Ls.length := by
  rcases h.2 with ⟨rfl, h0⟩ | ⟨g, cap, cur, rfl, _, hg, h1, h2, h3, h4⟩
  · exact .inl ⟨h0, rfl⟩
  · refine .inr ⟨g, cap, cur, rfl, hg, fun k hk => ?_⟩
    have hlt : k < vs.length := by rw [hp.1]; exact hk
    have e1 : (cur.toList.take (Ls.length * 1))[k]? = vs[k]? := by rw [h4]
    rw [Nat.mul_one, List.getElem?_take_of_lt hk, Array.getElem?_toList] at e1
    exact ⟨vs[k], Ls[k].length, e1.trans (List.getElem?_eq_getElem hlt), (hb _ (List.getElem_mem hk)).2, u8s_of (hp.2 k _ _ (List.getElem?_eq_getElem hlt) (List.getElem?_eq_getElem hk))⟩
theorem L8s.later {W W' : World} {base n : Nat} {v : Value} (h : L8s W base v n) (hl : Later W W') : L8s W' base v n := by
  rcases h with h | ⟨g, cap, c, rfl, hg, hc⟩
  · exact .inl h
  · exact .inr ⟨g, cap, c, rfl, (hl.block g (Array.getElem?_eq_some_iff.1 hg).1).trans hg, fun j hj => by obtain ⟨u, m, h1, h2, h3⟩ := hc j hj; exact ⟨u, m, h1, h2, h3.later hl⟩⟩
theorem L8s.set {W : World} {base n : Nat} {v : Value} (h : L8s W base v n) {p : Nat} (hp : ∃ c, W.heap[p]? = some (.cells c 5 (0, 0))) (j : Nat) (y : Int) : L8s (W.setCell ⟨p, j, none⟩ (.int .u8 y)) base v n := by
  rcases h with h | ⟨g, cap, c, rfl, hg, hc⟩
  · exact .inl h
  · have hne : p ≠ g := by
      rintro rfl
      obtain ⟨c', h'⟩ := hp
      rw [h'] at hg
      injection hg with hg
      injection hg with _ h _
      exact absurd h (by decide)
    exact .inr ⟨g, cap, c, rfl, (Below.heap_setCell W ⟨p, j, none⟩ (.int .u8 y) g (by first | exact hne | exact hne.symm)).trans hg, fun k hk => by obtain ⟨u, m, h1, h2, h3⟩ := hc k hk; exact ⟨u, m, h1, h2, h3.set p j y⟩⟩
theorem L8s.at_ {W : World} {base n : Nat} {v : Value} (h : L8s W base v n) {k : Nat} (hk : k < n) : ∃ g cap u m, v = .slice (some ⟨g, 0, none⟩) n cap ∧ W.cell? ⟨g, k, none⟩ = some u ∧ m ≤ 900 ∧ U8s W base u m ∧ ∃ c, W.heap[g]? = some (.cells c 23 (0, 0)) := by
  rcases h with ⟨rfl, _⟩ | ⟨g, cap, c, rfl, hg, hc⟩
  · omega
  · obtain ⟨u, m, h1, h2, h3⟩ := hc k hk
    exact ⟨g, cap, u, m, rfl, (cell_of_row W g k _ _ _ hg).trans h1, h2, h3, c, hg⟩
theorem U8s.form {W : World} {base n : Nat} {v : Value} (h : U8s W base v n) : ∃ a q, v = .slice a n q := by
  rcases h with ⟨rfl, rfl⟩ | ⟨g, cap, c, rfl, _⟩
  · exact ⟨_, _, rfl⟩
  · exact ⟨_, _, rfl⟩
theorem U8s.mono {W : World} {base base' n : Nat} {v : Value} (h : U8s W base v n) (hb : base' ≤ base) : U8s W base' v n := by
  rcases h with h | ⟨g, cap, c, rfl, hb', hg, hc⟩
  · exact .inl h
  · exact .inr ⟨g, cap, c, rfl, Nat.le_trans hb hb', hg, hc⟩
theorem L8s.mono {W : World} {base base' n : Nat} {v : Value} (h : L8s W base v n) (hb : base' ≤ base) : L8s W base' v n := by
  rcases h with h | ⟨g, cap, c, rfl, hg, hc⟩
  · exact .inl h
  · exact .inr ⟨g, cap, c, rfl, hg, fun j hj => by obtain ⟨u, m, h1, h2, h3⟩ := hc j hj; exact ⟨u, m, h1, h2, h3.mono hb⟩⟩
/-- What is turned by the law lies apart from all that it looks at behind. -/
structure Mut (X w : World) (vd : Value) (nd : Nat) (vA : Value) (nA : Nat) (vl : Value) (nl : Nat) (d : Nat) (cd : Array Value) : Prop where
  later : Later X w
  ud : U8s w X.heap.size vd nd
  uA : U8s w X.heap.size vA nA
  ul : L8s w X.heap.size vl nl
  kd : w.heap[d]? = some (.cells cd 25 (0, 0))
theorem Mut.step {X w w' : World} {vd vA vl : Value} {nd nA nl d : Nat} {cd : Array Value} (h : Mut X w vd nd vA nA vl nl d cd) (hl : Later w w') : Mut X w' vd nd vA nA vl nl d cd :=
  ⟨h.later.trans hl, h.ud.later hl, h.uA.later hl, h.ul.later hl, (hl.block d (Array.getElem?_eq_some_iff.1 h.kd).1).trans h.kd⟩
theorem Mut.set {X w : World} {vd vA vl : Value} {nd nA nl d : Nat} {cd : Array Value} (h : Mut X w vd nd vA nA vl nl d cd) {g : Nat} (hg : X.heap.size ≤ g) (hc : ∃ c, w.heap[g]? = some (.cells c 5 (0, 0))) (k : Nat) (y : Int) : Mut X (w.setCell ⟨g, k, none⟩ (.int .u8 y)) vd nd vA nA vl nl d cd := by
  refine ⟨h.later.setCell hg _, h.ud.set _ _ _, h.uA.set _ _ _, h.ul.set hc _ _, ?_⟩
  have hne : g ≠ d := by
    rintro rfl
    obtain ⟨c', h'⟩ := hc
    have hk := h.kd
    rw [h'] at hk
    injection hk with hk
    injection hk with _ h _
    exact absurd h (by decide)
  exact (Below.heap_setCell w ⟨g, k, none⟩ (.int .u8 y) d (by first | exact hne | exact hne.symm)).trans h.kd
theorem set_other {w : World} {g b : Nat} {c' : Array Value} (hc : ∃ c, w.heap[g]? = some (.cells c 5 (0, 0))) (hb : w.heap[b]? = some (.cells c' 23 (0, 0))) (k : Nat) (y : Int) : (w.setCell ⟨g, k, none⟩ (.int .u8 y)).heap[b]? = some (.cells c' 23 (0, 0)) := by
  have hne : g ≠ b := by
    rintro rfl
    obtain ⟨c, h'⟩ := hc
    rw [h'] at hb
    injection hb with hb
    injection hb with _ h _
    exact absurd h (by decide)
  exact (Below.heap_setCell w ⟨g, k, none⟩ (.int .u8 y) b (by first | exact hne | exact hne.symm)).trans hb
theorem strOf_snoc (L : List Int) (x : Int) : strOfNums (L ++ [x]) = strOfNums L ++ ⟨#[UInt8.ofNat x.toNat]⟩ := by
  apply ByteArray.ext
  rw [ByteArray.data_append]
  unfold strOfNums
  simp
end Go.Proofs.Ytjelfiljebamgaa
