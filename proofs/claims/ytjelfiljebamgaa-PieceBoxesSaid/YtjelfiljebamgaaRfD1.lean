/-
  Chapter 21's document: New; the law's calls in memory; great.
  Chapter 21's document: Put of bytes that are no piece.
  Chapter 21's document: a piece is appended to a list, and to the box's; the bytes of a whole message, step by step.
  Chapter 21, plainly: the box and the document's box answer a Put alike, and stay the same.
-/
import Derived.Test.YtjelfiljebamgaaRfC
import Derived.Test.YtjelfiljebamgaaPcT
import Derived.Deep.AppendLies
import Derived.Test.YtjelfiljebamgaaBxG
namespace Go.Proofs.Ytjelfiljebamgaa
open Go.RowKit Go.Shelf Go.Maps
set_option linter.unusedVariables false
set_option linter.unusedSimpArgs false
attribute [local go_sem] Oper.semAt_some

theorem refnew_no (r : Int) (W : World) (hr : ¬ (1 ≤ r ∧ r ≤ 64)) :
    Calls Try.prog 21 #[.int .i64 r] W fun e w' => e = .returned (.tuple #[.pointer none, .int .i64 210]) ∧ Later W w' := by
  go_enter Try.func21, Try.ntmps21
  go_wp2_with fail
  all_goals first
    | (exfalso; omega)
    | (go_ret2; first | exact ⟨rfl, Later.refl _⟩ | (exfalso; omega))
theorem refnew_yes (r : Int) (W : World) (hr : 1 ≤ r ∧ r ≤ 64) :
    Calls Try.prog 21 #[.int .i64 r] W fun e w' => ∃ y, e = .returned (.tuple #[wp y, .int .i64 0]) ∧ DB w' y r [] (fun k => W.heap.size ≤ k ∧ k < w'.heap.size) ∧ Later W w' := by
  have hl : Later W (W.alloc (.cells #[.int .i64 r, .slice none 0 0] 121)) := (Later.refl _).alloc _
  have hbox : DB (W.alloc (.cells #[.int .i64 r, .slice none 0 0] 121)) W.heap.size r [] (fun k => W.heap.size ≤ k ∧ k < (W.alloc (.cells #[.int .i64 r, .slice none 0 0] 121)).heap.size) := by
    refine ⟨.slice none 0 0, W.heap.size + 1, heap_alloc_new _ _, World.ownsRow_nil _ _ _ _, by omega, ⟨Nat.le_refl _, by rw [World.size_alloc]; omega⟩, fun g hg => (by cases hg), fun q hq => (by cases hq)⟩
  replace hbox := Lib.hid hbox
  replace hl := Lib.hid hl
  obtain ⟨h1, h2⟩ := hr
  go_enter Try.func21, Try.ntmps21
  go_wp2_with fail
  all_goals
    go_ret2
    exact ⟨W.heap.size, rfl, hbox.out, hl.out⟩
/-! The law's calls. -/
structure OpR where
  kind : Int
  id : Nat
  pl : Int
  of : Int
  b : List Int
/-- A list of calls in memory: rows of five cells. -/
def OpsV (W : World) (v : Value) (L : List OpR) : Prop :=
  ∃ ao cap, v = .slice ao L.length cap ∧ ∀ k q, L[k]? = some q → ∃ g o u, ao = some ⟨g, o, none⟩ ∧ q.id < 18446744073709551616 ∧ W.cell? ⟨g, o + k * 5, none⟩ = some (.int .i64 q.kind) ∧ W.cell? ⟨g, o + k * 5 + 1, none⟩ = some (.int .u64 (q.id : Nat)) ∧ W.cell? ⟨g, o + k * 5 + 2, none⟩ = some (.int .i64 q.pl) ∧ W.cell? ⟨g, o + k * 5 + 3, none⟩ = some (.int .i64 q.of) ∧ W.cell? ⟨g, o + k * 5 + 4, none⟩ = some u ∧ BytV W u q.b
def GreatOk (c : Bool) (L : List OpR) : Prop := c = false → L.length ≤ 200 ∧ ∀ q ∈ L, q.b.length ≤ 1000
def GreatTo (W : World) (L : List OpR) (e : Ending) (w' : World) : Prop := ∃ c : Bool, e = .returned (.bool c) ∧ w' = W ∧ GreatOk c L
set_option maxRecDepth 100000 in
theorem great_any (v : Value) (L : List OpR) (W : World) (hv : OpsV W v L) :
    Calls Try.prog 19 #[v] W (GreatTo W L) := by
  obtain ⟨ao, cap, rfl, hv⟩ := hv
  obtain ⟨n, hn⟩ : ∃ n, Hid (L.length = n) := ⟨_, Lib.hid rfl⟩
  replace hv := Lib.hid hv
  rw [hn.out]
  go_enter Try.func19, Try.ntmps19
  by_cases hb : n ≤ 200
  · have hb1 : ¬ (200 : Int) < (n : Int) := by omega
    go_wp2_with fail
    go_loopg [9] (n + 1) (fun gg s wr => ∃ k : Nat, gg = n + 1 - k ∧ k ≤ n ∧ s = .int .i64 k ∧ wr = W ∧ Hid (∀ j q, j < k → L[j]? = some q → q.b.length ≤ 1000))
    case atStart => exact ⟨0, by omega, Nat.zero_le _, rfl, rfl, Lib.hid (fun j q hj => absurd hj (Nat.not_lt_zero _))⟩
    case round =>
      obtain ⟨k, rfl, hkn, rfl, rfl, hall⟩ := hrel
      by_cases hk : k < n
      · have hkk : (k : Int) < (n : Int) := by omega
        obtain ⟨q, hq⟩ : ∃ q, L[k]? = some q := ⟨L[k]'(by rw [hn.out]; exact hk), List.getElem?_eq_getElem _⟩
        obtain ⟨g, o, u, rfl, -, -, -, -, -, c4, hu⟩ := hv.out k q hq
        obtain ⟨au, cu, rfl⟩ := bytV_form hu
        have hqh := Lib.hid hq
        clear hq hu
        by_cases hl : q.b.length ≤ 1000
        · have hl1 : ¬ (1000 : Int) < (q.b.length : Int) := by omega
          have hall2 : Hid (∀ j q, j < k + 1 → L[j]? = some q → q.b.length ≤ 1000) := Lib.hid (fun j q' hj hq' => by
            by_cases e : j = k
            · subst e
              rw [hqh.out] at hq'
              injection hq' with hq'
              rw [← hq']; exact hl
            · exact hall.out j q' (by omega) hq')
          go_wp2_with fail
          go_roundg (n - k)
          case measure => omega
          case rel => exact ⟨k + 1, by omega, by omega, by go_num, rfl, hall2⟩
        · have hl1 : (1000 : Int) < (q.b.length : Int) := by omega
          go_wp2_with fail
          go_ret
          exact ⟨true, rfl, rfl, fun h => by cases h⟩
      · obtain rfl : n = k := by omega
        have hkk : ¬ (n : Int) < (n : Int) := by omega
        go_wp2_with fail
        go_ret
        refine ⟨false, rfl, rfl, fun _ => ⟨by rw [hn.out]; exact hb, fun q hq => ?_⟩⟩
        obtain ⟨j, hj, e⟩ := List.getElem_of_mem hq
        exact hall.out j q (by rw [← hn.out]; exact hj) (by rw [List.getElem?_eq_getElem hj, e])
  · have hb1 : (200 : Int) < (n : Int) := by omega
    go_wp2_with fail
    go_ret
    exact ⟨true, rfl, rfl, fun h => by cases h⟩
end Go.Proofs.Ytjelfiljebamgaa
namespace Go.Proofs.Ytjelfiljebamgaa
open Go.RowKit Go.Shelf Go.Maps
set_option linter.unusedVariables false
set_option linter.unusedSimpArgs false
attribute [local go_sem] Oper.semAt_some

set_option maxRecDepth 100000 in
theorem refput_bad (u : Value) (b : List Int) (y : Nat) (W : World) (hu : BytV W u b) (hb : b.length ≤ 1000000) (hok : ¬ RdOk b) :
    Calls Try.prog 88 #[wp y, u] W fun e w' => e = .returned (.tuple #[.slice none 0 0, .bool false, .int .i64 210]) ∧ Later W w' := by
  have HR := Lib.hid (read21_no u b W hu hb hok)
  obtain ⟨ao, cap, rfl⟩ := bytV_form hu
  clear hu hok hb
  go_enter Try.func88, Try.ntmps88
  go_wp2_with fail
  refine HR.out.mono ?_
  rintro e w1 ⟨rfl, hl1⟩
  go_wp2_with fail
  go_ret3
  exact ⟨rfl, hl1.alloc _⟩
end Go.Proofs.Ytjelfiljebamgaa
namespace Go.Proofs.Ytjelfiljebamgaa
open Go.RowKit Go.Shelf Go.Maps
set_option linter.unusedVariables false
set_option linter.unusedSimpArgs false

theorem run_append_pc (w : World) (base : Nat) (v : Value) (P : List Pv) (hown : PsV w base v P) (q : Pv) (hq : q.2.oneCell' = true) (b : Nat)
    (hb : w.heap[b]? = some (.cells (prow q).toArray 25 (0, 0))) (hlen : P.length ≤ 1000000) (hbase : base ≤ w.heap.size) :
    ∃ g cap w', (Builtin.append_ #[119, 119] 119 #[v, .slice (some ⟨b, 0, none⟩) 1 1]).run Try.prog w = .ok (.slice (some ⟨g, 0, none⟩) (P.length + 1) cap) w' ∧ PsV w' base (.slice (some ⟨g, 0, none⟩) (P.length + 1) cap) (P ++ [q]) ∧ w.grownBy w' v.ownBlock ∧ (v.ownBlock = some g ∨ g = w.heap.size) ∧ g < w'.heap.size := by
  obtain ⟨i0, hi, hz0, hz1, hz2⟩ := info_parts info_pc
  have hML : 2000000 < maxLen := by decide
  obtain ⟨g, cap, w', h0, h1, h2, h3, h4⟩ := run_append_lies (P := Try.prog) w 119 119 base 25 i0 (.agg #[.int .u64 0, .int .i64 0, .int .i64 0, .slice none 0 0]) 4 48 Try.underlying119 hi hz0 hz1 hz2 rfl (by decide) v P.length (encPs P) hown ⟨b, 0, none⟩ 1 1 (prow q) rfl (fun j y hj => by
    rw [Addr.add_mid, Nat.zero_add, cell_of_row _ _ _ _ _ _ hb]
    simpa using hj) (fun y hy => by
    unfold prow at hy
    simp at hy
    rcases hy with rfl | rfl | rfl | rfl <;> first | rfl | exact hq) (by omega) (by omega) (by omega) hbase _ rfl
  refine ⟨g, cap, w', h0, ?_, h2, h3, h4⟩
  unfold PsV
  rw [encPs_snoc, List.length_append]
  exact h1
/-- The box's own list, with one piece more. -/
theorem DB.push {W w w' : World} {y : Nat} {r : Int} {P : List Pv} {Q N : Nat → Prop} {v : Value} {base g cap n : Nat} {q : Pv} (hbx : W.heap[y]? = some (.cells #[.int .i64 r, v] 121 (0, 0))) (hP : PsV W base v P) (hyb : y < base) (hQy : Q y) (hQo : ∀ g, v.ownBlock = some g → Q g)
    (hdat : ∀ q ∈ P, BytV W q.2 q.1.d ∧ In q.2 (fun k => Q k ∧ k ≠ y ∧ v.ownBlock ≠ some k ∧ k < W.heap.size))
    (hl : Later W w) (hP' : PsV w' base (.slice (some ⟨g, 0, none⟩) n cap) (P ++ [q])) (hg : w.grownBy w' v.ownBlock) (hlie : v.ownBlock = some g ∨ g = w.heap.size) (hgl : g < w'.heap.size)
    (hq : BytV w q.2 q.1.d) (hqi : In q.2 N) (hN : ∀ k, N k → W.heap.size ≤ k ∧ k < w.heap.size) :
    DB (w'.setCell ⟨y, 1, none⟩ (.slice (some ⟨g, 0, none⟩) n cap)) y r (P ++ [q]) (fun k => Q k ∨ N k ∨ k = w.heap.size) ∧ Keep Q w (w'.setCell ⟨y, 1, none⟩ (.slice (some ⟨g, 0, none⟩) n cap)) := by
  have hyl : y < W.heap.size := (Array.getElem?_eq_some_iff.1 hbx).1
  have hvl : ∀ k, v.ownBlock = some k → base ≤ k ∧ k < W.heap.size := fun k hk => World.ownsRow.lt hP k hk
  have hsz := hl.size
  have hyw := hl.obj hbx
  have hyw' : w'.heap[y]? = some (.cells #[.int .i64 r, v] 121 (0, 0)) := (hg.block y (by omega) (fun e => by have := hvl y e.symm; omega)).trans hyw
  have k1 : Keep (fun k => v.ownBlock = some k) w w' := (Keep.refl _ w).grown hg (fun k hk => .inl hk)
  have k2 : Keep (fun k => k = y) w' (w'.setCell ⟨y, 1, none⟩ (.slice (some ⟨g, 0, none⟩) n cap)) := (Keep.refl (fun k => k = y) w').setCell (p := ⟨y, 1, none⟩) (.inl rfl) _
  have k3 : Keep (fun k => v.ownBlock = some k ∨ k = y) w (w'.setCell ⟨y, 1, none⟩ (.slice (some ⟨g, 0, none⟩) n cap)) := (k1.mono (fun k _ h => .inl h)).trans (k2.mono (fun k _ h => .inr h))
  refine ⟨⟨_, base, heap_setY hyw', hP'.at_ (fun k hk => ?_), hyb, .inl hQy, fun k hk => ?_, fun q' hq' => ?_⟩, k3.mono (fun k _ h => h.elim (hQo k) (fun e => e ▸ hQy))⟩
  · obtain rfl : g = k := by simpa [Value.ownBlock] using hk
    exact k2.block g hgl (fun e => by
      rcases hlie with h | h
      · have := hvl g h; omega
      · omega)
  · obtain rfl : g = k := by simpa [Value.ownBlock] using hk
    rcases hlie with h | h
    · exact .inl (hQo g h)
    · exact .inr (.inr h)
  · rcases List.mem_append.1 hq' with hq' | hq'
    · obtain ⟨d1, d2⟩ := hdat q' hq'
      refine ⟨k3.bytV (d1.later hl) (d2.mono (fun k hk h => h.elim hk.2.2.1 hk.2.1)), d2.mono (fun k hk => ⟨.inl hk.1, hk.2.1, fun e => ?_, Nat.lt_of_lt_of_le hk.2.2.2 (Nat.le_trans hsz k3.size)⟩)⟩
      obtain rfl : g = k := by simpa [Value.ownBlock] using e
      rcases hlie with h | h
      · exact hk.2.2.1 h
      · have := hk.2.2.2; omega
    · obtain rfl : q' = q := by simpa using hq'
      refine ⟨k3.bytV hq (hqi.mono (fun k hk h => ?_)), hqi.mono (fun k hk => ⟨.inr (.inl hk), fun e => ?_, fun e => ?_, Nat.lt_of_lt_of_le (hN k hk).2 k3.size⟩)⟩
      · have h1 := hN k hk
        rcases h with h | h
        · have := hvl k h; omega
        · omega
      · have h1 := hN k hk
        omega
      · obtain rfl : g = k := by simpa [Value.ownBlock] using e
        have h1 := hN g hk
        rcases hlie with h | h
        · have := hvl g h; omega
        · omega
/-! The bytes of a whole message, step by step. -/
def catP (l : List Pc) (k : Nat) : List Int := ((l.filter fun q => q.pl == k).map (·.d)).flatten
theorem dcat_zero (l : List Pc) : dcat l 0 = [] := rfl
theorem dcat_succ (l : List Pc) (n : Nat) : dcat l (n + 1) = dcat l n ++ catP l n := by
  unfold dcat catP
  rw [List.range_succ, List.map_append, List.flatten_append]
  simp
theorem catP_snoc (l : List Pc) (q : Pc) (k : Nat) : catP (l ++ [q]) k = catP l k ++ (if q.pl == k then q.d else []) := by
  unfold catP
  rw [List.filter_append, List.map_append, List.flatten_append]
  congr 1
  by_cases h : q.pl == k
  · rw [List.filter_cons_of_pos (by exact h), if_pos h]; simp
  · rw [List.filter_cons_of_neg (by exact h), if_neg h]; simp
theorem catP_yes {F : List Pv} {j k : Nat} {q : Pv} (h : F[j]? = some q) (hk : q.1.pl = k) : catP (pcs (F.take (j + 1))) k = catP (pcs (F.take j)) k ++ q.1.d := by
  rw [pcs_take h, catP_snoc, if_pos (by simp [hk])]
theorem catP_no {F : List Pv} {j k : Nat} {q : Pv} (h : F[j]? = some q) (hk : ¬ q.1.pl = k) : catP (pcs (F.take (j + 1))) k = catP (pcs (F.take j)) k := by
  rw [pcs_take h, catP_snoc, if_neg (by simpa using hk), List.append_nil]
theorem sumL_cons (p : Pc) (l : List Pc) : sumL (p :: l) = p.d.length + sumL l := by simp [sumL]
theorem catP_len (l : List Pc) (k : Nat) : (catP l k).length = sumL (l.filter fun q => q.pl == k) := by
  unfold catP sumL
  rw [List.length_flatten, List.map_map]
  rfl
theorem sumL_part (n : Nat) : ∀ l : List Pc, sumL (l.filter fun q => decide (q.pl < n + 1)) = sumL (l.filter fun q => decide (q.pl < n)) + sumL (l.filter fun q => q.pl == n)
  | [] => rfl
  | q :: l => by
    have ih := sumL_part n l
    by_cases h1 : q.pl < n
    · rw [List.filter_cons_of_pos (by simp; omega), List.filter_cons_of_pos (by simpa using h1), List.filter_cons_of_neg (by simp; omega), sumL_cons, sumL_cons, ih]; omega
    · by_cases h2 : q.pl = n
      · rw [List.filter_cons_of_pos (by simp; omega), List.filter_cons_of_neg (by simpa using h1), List.filter_cons_of_pos (by simpa using h2), sumL_cons, sumL_cons, ih]; omega
      · rw [List.filter_cons_of_neg (by simp; omega), List.filter_cons_of_neg (by simpa using h1), List.filter_cons_of_neg (by simpa using h2), ih]
theorem dcat_len (l : List Pc) : ∀ n, (dcat l n).length = sumL (l.filter fun q => decide (q.pl < n))
  | 0 => by
    have : l.filter (fun q => decide (q.pl < 0)) = [] := by rw [List.filter_eq_nil_iff]; intro q _; simp
    rw [this]; rfl
  | n + 1 => by rw [dcat_succ, List.length_append, dcat_len l n, catP_len, sumL_part]
theorem sumL_filter_le (f : Pc → Bool) : ∀ l : List Pc, sumL (l.filter f) ≤ sumL l
  | [] => Nat.le_refl _
  | q :: l => by
    have ih := sumL_filter_le f l
    by_cases h : f q = true
    · rw [List.filter_cons_of_pos h, sumL_cons, sumL_cons]; omega
    · rw [List.filter_cons_of_neg h, sumL_cons]; omega
theorem catP_le (F : List Pv) (k j : Nat) : (catP (pcs (F.take j)) k).length ≤ (catP (pcs F) k).length := by
  have e : pcs F = pcs (F.take j) ++ pcs (F.drop j) := by unfold pcs; rw [← List.map_append, List.take_append_drop]
  rw [e]
  unfold catP
  rw [List.filter_append, List.map_append, List.flatten_append, List.length_append]
  omega
theorem dcat_le (F : List Pv) (n j : Nat) : (dcat (pcs F) n).length + (catP (pcs (F.take j)) n).length ≤ sumL (pcs F) := by
  have h1 := catP_le F n j
  have h2 := dcat_len (pcs F) (n + 1)
  have h3 := sumL_filter_le (fun q => decide (q.pl < n + 1)) (pcs F)
  rw [dcat_succ, List.length_append] at h2
  omega
/-! What the document's Put answers, plainly. -/
def rput (L : List Pc) (r : Int) (p : Pc) : List Int × Bool × Int × List Pc :=
  if dclash L p = true then ([], false, 211, L)
  else if dthere L p = true then ([], false, 0, L)
  else if (ofL L p.id = [] ∧ r ≤ ((dopen L).length : Int)) ∨ 131072 < sumL (ofL L p.id) + p.d.length then ([], false, 212, L)
  else if (ofL L p.id).length + 1 < p.of then ([], false, 0, L ++ [p])
  else (dcat (ofL L p.id ++ [p]) p.of, true, 0, (L ++ [p]).filter fun q => !(q.id == p.id))
theorem rput_clash {L : List Pc} {r : Int} {p : Pc} (h : dclash L p = true) : rput L r p = ([], false, 211, L) := by unfold rput; rw [if_pos h]
theorem rput_there {L : List Pc} {r : Int} {p : Pc} (h : dclash L p = false) (h2 : dthere L p = true) : rput L r p = ([], false, 0, L) := by unfold rput; rw [if_neg (by simp [h]), if_pos h2]
theorem rput_full {L : List Pc} {r : Int} {p : Pc} (h : dclash L p = false) (h2 : dthere L p = false) (h3 : (ofL L p.id = [] ∧ r ≤ ((dopen L).length : Int)) ∨ 131072 < sumL (ofL L p.id) + p.d.length) : rput L r p = ([], false, 212, L) := by
  unfold rput; rw [if_neg (by simp [h]), if_neg (by simp [h2]), if_pos h3]
theorem rput_open {L : List Pc} {r : Int} {p : Pc} (h : dclash L p = false) (h2 : dthere L p = false) (h3 : ¬ ((ofL L p.id = [] ∧ r ≤ ((dopen L).length : Int)) ∨ 131072 < sumL (ofL L p.id) + p.d.length)) (h4 : (ofL L p.id).length + 1 < p.of) : rput L r p = ([], false, 0, L ++ [p]) := by
  unfold rput; rw [if_neg (by simp [h]), if_neg (by simp [h2]), if_neg h3, if_pos h4]
theorem rput_whole {L : List Pc} {r : Int} {p : Pc} (h : dclash L p = false) (h2 : dthere L p = false) (h3 : ¬ ((ofL L p.id = [] ∧ r ≤ ((dopen L).length : Int)) ∨ 131072 < sumL (ofL L p.id) + p.d.length)) (h4 : ¬ (ofL L p.id).length + 1 < p.of) : rput L r p = (dcat (ofL L p.id ++ [p]) p.of, true, 0, (L ++ [p]).filter fun q => !(q.id == p.id)) := by
  unfold rput; rw [if_neg (by simp [h]), if_neg (by simp [h2]), if_neg h3, if_neg h4]
theorem rput_sub (L : List Pc) (r : Int) (p : Pc) : (rput L r p).2.2.2.length ≤ L.length + 1 ∧ ∀ q ∈ (rput L r p).2.2.2, q ∈ L ∨ q = p := by
  unfold rput
  split
  · exact ⟨Nat.le_succ _, fun q h => .inl h⟩
  split
  · exact ⟨Nat.le_succ _, fun q h => .inl h⟩
  split
  · exact ⟨Nat.le_succ _, fun q h => .inl h⟩
  split
  · exact ⟨by simp, fun q h => by simpa using h⟩
  · refine ⟨Nat.le_trans (List.length_filter_le _ _) (by simp), fun q h => ?_⟩
    have := (List.mem_filter.1 h).1
    simpa using this
/-- What Put turns of the document's box. -/
structure PutTo (W w' : World) (y : Nat) (r : Int) (P : List Pv) (Q : Nat → Prop) : Prop where
  box : DB w' y r P (fun k => Q k ∨ (W.heap.size ≤ k ∧ k < w'.heap.size))
  keep : Keep Q W w'
/-- What Put of a piece answers. -/
def RefPost (W : World) (y : Nat) (r : Int) (P : List Pv) (Q : Nat → Prop) (p : Pc) (e : Ending) (w' : World) : Prop :=
  ∃ (v : Value) (out : List Int) (is : Bool) (er : Int) (P' : List Pv), rput (pcs P) r p = (out, is, er, pcs P') ∧ e = .returned (.tuple #[v, .bool is, .int .i64 er]) ∧ w'.ownsRow W.heap.size 5 1 v out.length (encB out) ∧ PutTo W w' y r P' Q
theorem RefPost.same {W w' : World} {y : Nat} {r er : Int} {P : List Pv} {Q : Nat → Prop} {p : Pc} (h : DB W y r P Q) (hl : Later W w') (hv : rput (pcs P) r p = ([], false, er, pcs P)) : RefPost W y r P Q p (.returned (.tuple #[.slice none 0 0, .bool false, .int .i64 er])) w' :=
  ⟨_, [], false, er, P, hv, rfl, World.ownsRow_nil _ _ _ _, (h.later hl).mono (fun k hk => .inl hk), Keep.of_later hl⟩
end Go.Proofs.Ytjelfiljebamgaa
namespace Go.Proofs.Ytjelfiljebamgaa
open Go.RowKit Go.Shelf Go.Maps
set_option linter.unusedVariables false
set_option linter.unusedSimpArgs false

theorem dopen_keys {L : List Pc} {M : Bx} (h : BOk L M) (i : Nat) : i ∈ dopen L ↔ (M i).isSome = true := by
  obtain ⟨h1, h2⟩ := open_fold L [] List.Pairwise.nil
  show i ∈ L.foldl (fun out p => addN out p.id) [] ↔ _
  rw [h2 i]
  cases hm : M i with
  | none =>
    have := (h i).1 hm
    constructor
    · rintro (h | ⟨p, hp, he⟩)
      · simp at h
      · unfold ofL at this
        rw [List.filter_eq_nil_iff] at this
        exact absurd (by simpa using he) (this p hp)
    · intro h; cases h
  | some m =>
    have ho := (h i).2 m hm
    obtain ⟨q, hq⟩ := List.exists_mem_of_ne_nil _ ho.ne
    obtain ⟨h3, h4⟩ := List.mem_filter.1 hq
    exact ⟨fun _ => rfl, fun _ => Or.inr ⟨q, h3, by simpa using h4⟩⟩
theorem dopen_asc (L : List Pc) : (dopen L).Pairwise (· < ·) := (open_fold L [] List.Pairwise.nil).1
theorem dopen_nd (L : List Pc) : (dopen L).Nodup := (dopen_asc L).imp (fun h => Nat.ne_of_lt h)
theorem dopen_cnt {L : List Pc} {M : Bx} (h : BOk L M) : Cnt M (dopen L).length := ⟨dopen L, dopen_nd L, rfl, dopen_keys h⟩
/-- Both answer alike. -/
def SameA (L : List Pc) (a : List Int × Bool × Int × List Pc) (b : List Int × Bool × Int × Bx) : Prop := a.1 = b.1 ∧ a.2.1 = b.2.1 ∧ a.2.2.1 = b.2.2.1 ∧ BOk a.2.2.2 b.2.2.2
theorem put_alike {L : List Pc} {M : Bx} {n : Nat} {r : Int} {p : Pc} (h : BOk L M) (hn : Cnt M n) (hlt : p.pl < p.of) : SameA L (rput L r p) (pput M n r p) := by
  have hno : (dopen L).length = n := (dopen_cnt h).unique hn
  by_cases hc : dclash L p = true
  · rw [rput_clash hc, pput_clash (by rw [← clash_same h]; exact hc)]
    exact ⟨rfl, rfl, rfl, h⟩
  replace hc : dclash L p = false := by simpa using hc
  have hc' : pclash M p = false := by rw [← clash_same h]; exact hc
  by_cases ht : dthere L p = true
  · rw [rput_there hc ht, pput_there hc' (by rw [← there_same h]; exact ht)]
    exact ⟨rfl, rfl, rfl, h⟩
  replace ht : dthere L p = false := by simpa using ht
  have ht' : pthere M p = false := by rw [← there_same h]; exact ht
  obtain ⟨m, hm⟩ : ∃ m, (M p.id).getD (Msg.fresh p.of) = m := ⟨_, rfl⟩
  have hpre : MPre (ofL L p.id) m ∧ p.of = m.l.length ∧ (ofL L p.id = [] ↔ (M p.id).isNone = true) := by
    cases hM : M p.id with
    | none =>
      rw [hM] at hm
      rw [(h p.id).1 hM, ← hm]
      exact ⟨MPre.fresh _, by simp [Msg.fresh], by simp⟩
    | some m' =>
      rw [hM] at hm
      obtain rfl : m' = m := hm
      have ho := (h p.id).2 m' hM
      refine ⟨ho.pre, ?_, by simp [ho.ne]⟩
      by_cases e : m'.l.length = p.of
      · exact e.symm
      · rw [pclash_len hM e] at hc'; cases hc'
  obtain ⟨h1, h2, h3⟩ := hpre
  have hfull : ((ofL L p.id = [] ∧ r ≤ ((dopen L).length : Int)) ∨ 131072 < sumL (ofL L p.id) + p.d.length) ↔ (((M p.id).isNone = true ∧ r ≤ (n : Int)) ∨ 131072 < ((M p.id).getD (Msg.fresh p.of)).by' + p.d.length) := by
    rw [h3, hno, hm, h1.by']
  by_cases hf : (ofL L p.id = [] ∧ r ≤ ((dopen L).length : Int)) ∨ 131072 < sumL (ofL L p.id) + p.d.length
  · rw [rput_full hc ht hf, pput_full hc' ht' (hfull.1 hf)]
    exact ⟨rfl, rfl, rfl, h⟩
  have hf' := fun e => hf (hfull.2 e)
  have hB := h.put p h1 h2 hlt ht
  have hlen := h1.left
  have hl2 : (m.fill p).left = m.left - 1 := rfl
  by_cases hw : (ofL L p.id).length + 1 < p.of
  · rw [rput_open hc ht hf hw, pput_open hc' ht' hf' hm (by omega)]
    exact ⟨rfl, rfl, rfl, hB⟩
  · rw [rput_whole hc ht hf hw, pput_whole hc' ht' hf' hm (by omega)]
    have hnop : ∀ q ∈ ofL L p.id, q.pl ≠ p.pl := fun q hq he => by
      unfold dthere at ht
      rw [List.any_eq_false] at ht
      exact ht q hq (by simpa using he)
    have hfi := h1.fill h2 hlt hnop
    have hl3 : (m.fill p).l.length = p.of := by simp [Msg.fill, h2]
    refine ⟨?_, rfl, rfl, ?_⟩
    · show dcat _ _ = pcat _
      rw [← cat_same hfi, hl3]
    · have h5 := hB.gone p.id
      have e : (fun i => if i = p.id then none else (fun i => if i = p.id then some (m.fill p) else M i) i) = fun i => if i = p.id then none else M i := by
        funext i
        by_cases e : i = p.id
        · simp [e]
        · simp [e]
      rw [e] at h5
      exact h5
end Go.Proofs.Ytjelfiljebamgaa
