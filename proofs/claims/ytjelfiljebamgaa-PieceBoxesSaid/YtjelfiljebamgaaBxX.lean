/-
  The library's sort at uint64 (walks turned by program, wip/tools/turn_sort.py, from the kit's worked walks at int): a list that the call has built is sorted in its place.
  Chapter 21: Open of any box: the messages that are, in order.
  Chapter 21: a box of a piece each: the plain law of PieceRoom; lists of numbers compared.
-/
import Derived.Sort.OwnSortedInts
import Derived.Test.YtjelfiljebamgaaSrt
import Derived.Test.YtjelfiljebamgaaBxK1
namespace Go.Proofs.Ytjelfiljebamgaa
open Go.RowKit Go.Sort
set_option linter.unusedVariables false
set_option linter.unusedSimpArgs false
theorem holds_of_blockU {w : World} {g : Nat} {cur : Array Value} {e : TypeId} {ss : List Int} (hb : w.heap[g]? = some (.cells cur e (0, 0))) (ht : cur.toList.take ss.length = ss.map (Value.int .u64)) : Holds (Value.int .u64) w g 0 ss.toArray := by
  intro j hj
  have hj' : j < ss.length := by simpa using hj
  refine ⟨?_, by simp [World.frozen?, hb]⟩
  have h1 : (cur.toList.take ss.length)[j]? = (ss.map (Value.int .u64))[j]? := by rw [ht]
  rw [List.getElem?_take_of_lt hj'] at h1
  simp only [World.cell?, hb, Nat.zero_add]
  simp only [Option.isSome_none, Bool.false_eq_true, if_false]
  rw [← Array.getElem?_toList, h1]
  simp [hj']
theorem heap_sortedU {w : World} {g n : Nat} {os : Array Obj} {cur : Array Value} {e : TypeId} {fr : Nat × Nat} (d : Array Int) (hb : w.heap[g]? = some (.cells cur e fr)) :
    (grow (putRow (Value.int .u64) (Sort.ahead w n) g 0 d) os).heap[g]? = some (.cells (putCells (Value.int .u64) 0 d cur) e fr) := by
  have hg : g < w.heap.size := (Array.getElem?_eq_some_iff.1 hb).1
  rw [heap_grow_old _ _ (by simpa using hg)]
  simp [putRow, mapBlock, Sort.ahead, Array.getElem?_modify, hb, onCells]
theorem grownBy_sortedU {w : World} {g n : Nat} {os : Array Obj} (d : Array Int) : w.grownBy (grow (putRow (Value.int .u64) (Sort.ahead w n) g 0 d) os) (some g) := by
  refine ⟨rfl, rfl, rfl, by simp, fun k hk hne => ?_⟩
  rw [heap_grow_old _ _ (by simpa using hk)]
  have : g ≠ k := fun e => hne (by rw [e])
  simp [putRow, mapBlock, Sort.ahead, Array.getElem?_modify, this]
theorem take_putCellsU (cur : Array Value) (ts : List Int) (h : ts.length ≤ cur.size) : (putCells (Value.int .u64) 0 ts.toArray cur).toList.take ts.length = ts.map (Value.int .u64) := by
  apply List.ext_getElem?
  intro j
  by_cases hj : j < ts.length
  · rw [List.getElem?_take_of_lt hj, Array.getElem?_toList]
    simp [putCells, hj, show j < cur.size by omega]
  · rw [List.getElem?_take_eq_none (by omega), List.getElem?_eq_none (by simp; omega)]
theorem ownsRow_sortedU {w : World} {base g cap n : Nat} {e : TypeId} {os : Array Obj} {cur : Array Value} {ss ts : List Int} (hl : ts.length = ss.length) (hbase : base ≤ g) (hb : w.heap[g]? = some (.cells cur e (0, 0)))
    (h1 : ss.length ≤ cap) (h2 : cap ≤ maxLen) (h3 : cur.size = cap * 1) :
    (grow (putRow (Value.int .u64) (Sort.ahead w n) g 0 ts.toArray) os).ownsRow base e 1 (.slice (some ⟨g, 0, none⟩) ss.length cap) ss.length (ts.map (Value.int .u64)) :=
  ⟨by simp [hl], .inr ⟨g, cap, _, rfl, hbase, heap_sortedU _ hb, h1, h2, by simp [putCells, h3], by rw [Nat.mul_one, ← hl]; exact take_putCellsU cur ts (by omega)⟩⟩
theorem grownBy_self (w : World) (row : Option Nat) : w.grownBy w row := ⟨rfl, rfl, rfl, Nat.le_refl _, fun _ _ _ => rfl⟩
def srtU (zs : List Int) : List Int := zs.mergeSort fun x y => decide (x ≤ y)
theorem srtU_len (zs : List Int) : (srtU zs).length = zs.length := List.length_mergeSort zs
theorem srtU_perm (zs : List Int) : (srtU zs).Perm zs := List.mergeSort_perm zs _
open Go.Shelf
abbrev encU64 (L : List Int) : List Value := L.map (Value.int .u64)
/-- A list that the call has built is sorted in its place. -/
theorem sort_ownU {w : World} {base cap : Nat} {ao : Option Addr} {zs : List Int} (h : w.ownsRow base 22 1 (.slice ao zs.length cap) zs.length (encU64 zs)) (hl : zs.length ≤ 1000000) :
    Calls Try.prog 63 #[.slice ao zs.length cap] w fun e w' => e = .returned (.tuple #[]) ∧ w'.ownsRow base 22 1 (.slice ao zs.length cap) zs.length (encU64 (srtU zs)) ∧ w.grownBy w' (Value.slice ao zs.length cap).ownBlock := by
  rcases h.2 with ⟨h0, hz⟩ | ⟨g, c, cur, hv, hg, hb, h1, h2, h3, h4⟩
  · injection h0 with e1 e2 e3
    have hnil : zs = [] := List.eq_nil_of_length_eq_zero e2
    subst hnil e1
    refine (sort_nil none cap w).mono ?_
    rintro e w' ⟨rfl, rfl⟩
    have e : srtU [] = [] := List.eq_nil_of_length_eq_zero (srtU_len [])
    rw [e]
    exact ⟨rfl, h, grownBy_self _ _⟩
  · injection hv with e1 e2 e3
    subst e1 e3
    refine (Su.slices_Sort_u64 g 0 cap zs w (holds_of_blockU hb (by rw [Nat.mul_one] at h4; exact h4)) (Array.getElem?_eq_some_iff.1 hb).1 (by omega)).mono ?_
    rintro e w' ⟨rfl, n, os, rfl⟩
    refine ⟨rfl, ownsRow_sortedU (ts := srtU zs) (srtU_len zs) hg hb h1 h2 h3, grownBy_sortedU _⟩
end Go.Proofs.Ytjelfiljebamgaa
namespace Go.Proofs.Ytjelfiljebamgaa
open Go.RowKit Go.Shelf Go.Maps
set_option linter.unusedVariables false
set_option linter.unusedSimpArgs false
attribute [local go_sem] Oper.semAt_some

theorem info_u64 : (Try.prog.info? 22).map (fun i => (i.zero, i.size, i.bytes)) = some (some (.int .u64 0), 1, 8) := by kernel_rfl
theorem row_base {w : World} {base base' e n k : Nat} {v : Value} {xs : List Value} (h : w.ownsRow base e n v k xs) (hb : base' ≤ base) : w.ownsRow base' e n v k xs := by
  refine ⟨h.1, ?_⟩
  rcases h.2 with hn | ⟨g, cap, cur, e1, hg, rest⟩
  · exact .inl hn
  · exact .inr ⟨g, cap, cur, e1, Nat.le_trans hb hg, rest⟩
theorem srtU_of_perm {l l' : List Int} (h : l.Perm l') : srtU l = srtU l' := by
  have tr : ∀ a b c : Int, decide (a ≤ b) = true → decide (b ≤ c) = true → decide (a ≤ c) = true := fun a b c h1 h2 => by simp only [decide_eq_true_eq] at *; omega
  have tot : ∀ a b : Int, (decide (a ≤ b) || decide (b ≤ a)) = true := fun a b => by simp only [Bool.or_eq_true, decide_eq_true_eq]; omega
  refine List.Perm.eq_of_pairwise (le := fun a b => decide (a ≤ b) = true) (fun a b _ _ h1 h2 => ?_) (List.pairwise_mergeSort tr tot l) (List.pairwise_mergeSort tr tot l') (((List.mergeSort_perm l _).trans h).trans (List.mergeSort_perm l' _).symm)
  simp only [decide_eq_true_eq] at h1 h2
  omega
def keyI (ks : List Nat) : List Int := ks.map Int.ofNat
theorem keyI_len (ks : List Nat) : (keyI ks).length = ks.length := by simp [keyI]
theorem keyI_snoc (ks : List Nat) (i : Nat) : encU64 (keyI (ks ++ [i])) = encU64 (keyI ks) ++ [.int .u64 i] := by simp [keyI, encU64]
theorem nodup_le : ∀ {ks ls : List Nat}, ks.Nodup → (∀ i ∈ ks, i ∈ ls) → ks.length ≤ ls.length
  | [], _, _, _ => Nat.zero_le _
  | i :: ks, ls, hn, hm => by
    have hi := hm i (List.mem_cons_self ..)
    have hl := List.length_erase_of_mem hi
    have hp := List.length_pos_of_mem hi
    obtain ⟨h1, h2⟩ := List.nodup_cons.1 hn
    have := nodup_le (ks := ks) (ls := ls.erase i) h2 (fun j hj => (List.mem_erase_of_ne (fun e => h1 (by rw [← e]; exact hj))).2 (hm j (List.mem_cons_of_mem _ hj)))
    rw [List.length_cons]
    omega
theorem MetOk.len {D : DataW Unit} {f : Nat → Option Nat} {n : Nat} {left : Lit → Bool} {ks : List Nat} (h : MetOk f left ks) (hok : MapOk D f n) : ks.length ≤ n := by
  obtain ⟨ls, h1, h2, h3⟩ := hok.keys
  rw [← h2]
  exact nodup_le h.nd (fun i hi => (h3 i).2 ((h.mem i).1 hi).1)
set_option maxRecDepth 100000 in
theorem open_any (x : Nat) (r : Int) (M : Bx) (S T : Nat → Prop) (W : World) (h : BoxB W x r M S T) :
    Calls Try.prog 23 #[wp x] W fun e w' => ∃ (ks : List Nat) (v : Value), ks.Nodup ∧ ks.length ≤ 64 ∧ (∀ i, i ∈ ks ↔ (M i).isSome = true) ∧ e = .returned v ∧ w'.ownsRow W.heap.size 22 1 v ks.length (encU64 (srtU (keyI ks))) ∧ Later W w' := by
  obtain ⟨B, D, f, G, n, h⟩ := h
  obtain ⟨x0, x1⟩ := h.cells
  have hr := h.room.1
  have hmap := Lib.hid h.map
  have hok := Lib.hid h.ok
  have hBl : B < W.heap.size := h.map.lt
  have hn : n ≤ 64 := by have := h.full; have := h.room.2; omega
  have hfM : Hid (∀ i, (f i).isSome = true ↔ (M i).isSome = true) := Lib.hid (fun i => by
    cases hf : f i with
    | none => rw [h.none' i hf]; simp
    | some p => obtain ⟨m, hm, _⟩ := h.some' i p hf; rw [hm]; simp)
  have hsz0 : Maps.size D = n := h.ok.size'
  clear h
  obtain ⟨i0, hi0, hz0, hz1, hz2⟩ := info_parts info_u64
  go_enter Try.func23, Try.ntmps23
  go_wp2_with fail
  refine (none_no x r W x0 hr).mono ?_
  rintro e w0 ⟨rfl, hw0⟩
  obtain rfl : W = w0 := hw0.symm
  go_wp2_with (at_range; refine wpList_range_own _ rfl _ 76 rfl 22 125 lawM Try.underlying76 _ B n D rfl hmap.out ?_; intro w1 hrg1 hg1 hs1)
  go_frame
  obtain ⟨rr, hrr⟩ : ∃ q, Hid (W.heap.size = q) := ⟨_, Lib.hid rfl⟩
  rw [hrr.out] at hrg1 ⊢
  have hBr : B < rr := by rw [← hrr.out]; exact hBl
  have hl1 : Hid (Later W w1) := Lib.hid ⟨hg1.os, hg1.tape, hg1.output, hg1.size, fun k hk => hg1.block k hk (by simp)⟩
  replace hrg1 := Lib.hid hrg1
  clear hg1 hs1 hBl
  go_loopg [3] (n + 1) (fun gg s wr => ∃ (left : Lit → Bool) (cnt : Nat) (ks : List Nat), gg = cnt + 1 ∧ Hid (wr.ownsRow (rr + 1) 22 1 s ks.length (encU64 (keyI ks))) ∧ Hid (wr.ranges Try.prog 22 ptrElem B rr n D left cnt) ∧ Hid (MetOk f left ks) ∧ Hid (Later W wr))
  case atStart => exact ⟨_, _, [], by rw [hsz0], Lib.hid (World.ownsRow_nil _ _ _ _), hrg1, Lib.hid (MetOk.start hok.out), hl1⟩
  case round =>
    obtain ⟨left, cnt, ks, rfl, hrow, hrg, hmet, hlw⟩ := hrel
    obtain ⟨ov, oc, rfl⟩ := own_form hrow.out
    have hkl := hmet.out.len hok.out
    go_wp2_with (at_next; refine wpList_next_box _ rfl _ rfl B rr n n D f left cnt hok.out rfl hrg.out ?_ ?_)
    · intro hc0 hl0
      have hsort := Lib.hid (sort_ownU (w := wr) (base := rr + 1) (cap := oc) (ao := ov) (zs := keyI ks) (by rw [keyI_len]; exact hrow.out) (by rw [keyI_len]; omega))
      rw [keyI_len] at hsort
      go_wp2_with fail
      refine hsort.out.mono ?_
      rintro e w2 ⟨rfl, hrow2, hg2⟩
      replace hrow2 := Lib.hid hrow2
      have hl2 : Hid (Later W w2) := Lib.hid (later_own hlw.out hrow.out (by rw [hrr.out]; omega) hg2)
      clear hg2 hsort
      go_wp2_with fail
      go_ret
      refine ⟨ks, _, hmet.out.nd, by omega, fun i => ?_, rfl, row_base hrow2.out (by have := hrr.out; omega), hl2.out⟩
      rw [hmet.out.mem, ← hfM.out i]
      exact ⟨fun h => h.1, fun h => ⟨h, hl0 _⟩⟩
    · intro i p w2 cnt2 hfi hlk hi64 hrg2 hlt hg2 hs2 hen
      have hl2 : Later W w2 := by
        refine ⟨hg2.os.trans hlw.out.os, hg2.tape.trans hlw.out.tape, hg2.output.trans hlw.out.output, Nat.le_trans hlw.out.size hg2.size, fun k hk => (hg2.block k (Nat.lt_of_lt_of_le hk hlw.out.size) (fun e => ?_)).trans (hlw.out.block k hk)⟩
        have e2 := Option.some.inj e
        have := hrr.out
        omega
      have hrow2 : w2.ownsRow (rr + 1) 22 1 (.slice ov ks.length oc) ks.length (encU64 (keyI ks)) := by
        refine hrow.out.kept hg2 ?_
        by_cases e : (Value.slice ov ks.length oc).ownBlock = none
        · exact .inl e
        · exact .inr (fun e2 => by have := (World.ownsRow.lt hrow.out rr e2).1; omega)
      have hmet2 := Lib.hid (hmet.out.step (i := i) (by rw [hfi]; rfl) hlk)
      have hrl := hrg2.lt
      have hmL : ks.length + 1 ≤ maxLen := Nat.le_trans (by omega : _ ≤ 5000) (by decide)
      have q1' := hrow2.alloc (.cells #[.int .u64 i] 22)
      have hrg3 := Lib.hid (hrg2.alloc (.cells #[.int .u64 i] 22))
      have hl3 : Hid (Later W (w2.alloc (.cells #[.int .u64 i] 22))) := Lib.hid (hl2.alloc _)
      clear hs2 hg2 hi64 hlk hfi hrow2 hl2 hrg2
      go_wp2_with (at_builtin; refine wpList_append_lies _ rfl _ _ 56 rfl (rr + 1) 22 i0 (.int .u64 0) 1 8 Try.underlying56 hi0 hz0 hz1 hz2 rfl (by decide) _ _ _ rfl q1' ⟨w2.heap.size, 0, none⟩ 1 1 [.int .u64 i] rfl rfl (World.news_of_block (heap_alloc_new _ _)) (fun u hu => by rw [List.mem_singleton] at hu; rw [hu]; rfl) (by omega) hmL (by omega) (by simp; omega) _ rfl ?_; intro ga ca w3 hr3 hg3 _ _)
      go_roundg (cnt2 + 1)
      case measure => omega
      case rel =>
        refine ⟨_, cnt2, ks ++ [i], rfl, ?_, Lib.hid (hrg3.out.kept hg3 (fun e => ?_) (fun e => ?_)), hmet2, Lib.hid (later_own hl3.out q1' (by rw [hrr.out]; omega) hg3)⟩
        · rw [keyI_snoc, List.length_append]
          exact Lib.hid hr3
        · have := (World.ownsRow.lt q1' B e.symm).1; omega
        · have := (World.ownsRow.lt q1' rr e.symm).1; omega
theorem open_st2 {w : World} {Q : Nat → Prop} {x : Nat} {r : Int} {M : Bx} (h : BxSt w Q x r M) {ks : List Nat} (hn : ks.Nodup) (hk : ∀ i, i ∈ ks ↔ (M i).isSome = true) :
    Calls Try.prog 23 #[wp x] w fun e w' => ∃ v, e = .returned v ∧ w'.ownsRow w.heap.size 22 1 v ks.length (encU64 (srtU (keyI ks))) ∧ Later w w' := by
  obtain ⟨S, T, hbx, hq⟩ := h
  refine (open_any x r M S T w hbx).mono ?_
  rintro e w' ⟨ls, v, h1, -, h2, rfl, hr, hl⟩
  have hp : ls.Perm ks := (List.perm_ext_iff_of_nodup h1 hn).2 (fun i => by rw [h2, hk])
  have e1 : srtU (keyI ls) = srtU (keyI ks) := srtU_of_perm (hp.map Int.ofNat)
  rw [e1, hp.length_eq] at hr
  exact ⟨v, rfl, hr, hl⟩
end Go.Proofs.Ytjelfiljebamgaa
namespace Go.Proofs.Ytjelfiljebamgaa
open Go.RowKit Go.Shelf Go.Maps
set_option linter.unusedVariables false
set_option linter.unusedSimpArgs false
attribute [local go_sem] Oper.semAt_some

/-- A message of two pieces of which the first is there. -/
def m1 (i : Nat) : Msg := ⟨[some [(i : Int)], none], 1, 1⟩
def rmB (L : List Nat) : Bx := fun i => if L.contains i then some (m1 i) else none
def rmP (i : Nat) : Pc := ⟨i, 0, 2, [(i : Int)]⟩
theorem rmB_in {L : List Nat} {i : Nat} (h : L.contains i = true) : rmB L i = some (m1 i) := by unfold rmB; rw [if_pos h]
theorem rmB_out {L : List Nat} {i : Nat} (h : L.contains i = false) : rmB L i = none := by unfold rmB; rw [h]; rfl
theorem rmB_keys {L : List Nat} (i : Nat) : i ∈ L ↔ (rmB L i).isSome = true := by
  rw [← List.contains_iff_mem]
  cases h : L.contains i
  · rw [rmB_out h]; simp
  · rw [rmB_in h]; simp
theorem rmB_cnt {L : List Nat} (h : L.Nodup) : Cnt (rmB L) L.length := ⟨L, h, rfl, rmB_keys⟩
theorem rmB_sum : ∀ (L K : List Nat), (∀ i ∈ K, L.contains i = true) → sumM (rmB L) K = K.length
  | L, [], _ => rfl
  | L, i :: K, h => by
    have ih := rmB_sum L K (fun j hj => h j (List.mem_cons_of_mem _ hj))
    have hi := rmB_in (h i (List.mem_cons_self ..))
    simp only [sumM, List.map_cons, List.sum_cons, List.length_cons] at ih ⊢
    rw [ih]
    have : byM (rmB L) i = 1 := by unfold byM; rw [hi]; rfl
    omega
theorem rmB_put_in {L : List Nat} {i n : Nat} {r : Int} (h : L.contains i = true) : pput (rmB L) n r (rmP i) = ([], false, 0, rmB L) := by
  have h1 : rmB L (rmP i).id = some (m1 i) := rmB_in h
  refine pput_there ?_ ?_
  · unfold pclash; rw [h1]; simp [m1, rmP]
  · unfold pthere; rw [h1]; simp [m1, rmP]
theorem rmB_put_full {L : List Nat} {i n : Nat} {r : Int} (h : L.contains i = false) (hr : r ≤ (n : Int)) : pput (rmB L) n r (rmP i) = ([], false, 212, rmB L) := by
  have h1 : rmB L (rmP i).id = none := rmB_out h
  refine pput_full ?_ ?_ (.inl ⟨by rw [h1]; rfl, hr⟩)
  · unfold pclash; rw [h1]
  · unfold pthere; rw [h1]
theorem rmB_put_new {L : List Nat} {i n : Nat} {r : Int} (h : L.contains i = false) (hr : ¬ r ≤ (n : Int)) : pput (rmB L) n r (rmP i) = ([], false, 0, rmB (i :: L)) := by
  have h1 : rmB L (rmP i).id = none := rmB_out h
  have h2 := pput_open (M := rmB L) (n := n) (r := r) (p := rmP i) (m := Msg.fresh 2) (by unfold pclash; rw [h1]) (by unfold pthere; rw [h1]) (by rw [h1]; rintro (⟨_, h⟩ | h); exact hr h; simp [Msg.fresh, rmP] at h) (by rw [h1]; rfl) (by simp [Msg.fill, Msg.fresh, rmP])
  rw [h2]
  congr 3
  funext j
  unfold rmB
  by_cases e : j = i
  · subst e
    rw [if_pos (show j = (rmP j).id from rfl), if_pos (by simp)]; rfl
  · have hb : (i :: L).contains j = L.contains j := by simp [e]
    rw [if_neg (show ¬ j = (rmP i).id from e), hb]
theorem rmB_drop {L : List Nat} {i : Nat} (hn : L.Nodup) : (fun j => if j = i then none else rmB L j) = rmB (L.erase i) := by
  funext j
  unfold rmB
  have hb : (L.erase i).contains j = (L.contains j && !(j == i)) := by
    rw [Bool.eq_iff_iff, List.contains_iff_mem, hn.mem_erase_iff, Bool.and_eq_true, List.contains_iff_mem]
    constructor
    · rintro ⟨h1, h2⟩; exact ⟨h2, by simpa using h1⟩
    · rintro ⟨h1, h2⟩; exact ⟨by simpa using h2, h1⟩
  rw [hb]
  by_cases e : j = i
  · subst e; simp
  · rw [if_neg e]
    have : (j == i) = false := by simpa using e
    rw [this]; simp
/-- What is open, in order. -/
def wantL (L : List Nat) (k : Nat) : List Nat := (List.range k).filter fun i => L.contains i
theorem wantL_yes {L : List Nat} {k : Nat} (h : L.contains k = true) : wantL L (k + 1) = wantL L k ++ [k] := by
  unfold wantL; rw [List.range_succ, List.filter_append, List.filter_cons_of_pos h]; rfl
theorem wantL_no {L : List Nat} {k : Nat} (h : L.contains k = false) : wantL L (k + 1) = wantL L k := by
  unfold wantL; rw [List.range_succ, List.filter_append, List.filter_cons_of_neg (by rw [h]; decide)]; simp
theorem wantL_le (L : List Nat) (k : Nat) : (wantL L k).length ≤ k := by
  unfold wantL
  refine Nat.le_trans (List.length_filter_le _ _) ?_
  simp
theorem wantL_perm {L : List Nat} {n : Nat} (hn : L.Nodup) (hb : ∀ i ∈ L, i < n) : L.Perm (wantL L n) := by
  refine (List.perm_ext_iff_of_nodup hn (List.nodup_range.filter _)).2 (fun i => ?_)
  rw [List.mem_filter, List.mem_range, List.contains_iff_mem]
  exact ⟨fun h => ⟨hb i h, h⟩, fun h => h.2⟩
theorem wantL_sorted (L : List Nat) (n : Nat) : srtU (keyI (wantL L n)) = keyI (wantL L n) := by
  refine List.mergeSort_of_pairwise ?_
  unfold keyI wantL
  rw [List.pairwise_map]
  refine List.Pairwise.imp ?_ ((List.pairwise_lt_range (n := n)).filter _)
  intro a b h
  simp only [decide_eq_true_eq]
  show (a : Int) ≤ (b : Int)
  omega
theorem want_open {L : List Nat} {n : Nat} (hn : L.Nodup) (hb : ∀ i ∈ L, i < n) : srtU (keyI L) = keyI (wantL L n) ∧ L.length = (wantL L n).length := by
  have h := wantL_perm hn hb
  exact ⟨(srtU_of_perm (h.map Int.ofNat)).trans (wantL_sorted L n), h.length_eq⟩
/-- A list of numbers in memory. -/
theorem own_cell {w : World} {base n : Nat} {ao : Option Addr} {cap : Nat} {L : List Int} (h : w.ownsRow base 22 1 (.slice ao n cap) n (encU64 L)) (hl : L.length = n) {k : Nat} (hk : k < n) : ∃ g, ao = some ⟨g, 0, none⟩ ∧ w.cell? ⟨g, k, none⟩ = some (.int .u64 (L.getD k 0)) := by
  rcases h.2 with ⟨h0, hz⟩ | ⟨g, c, cur, hv, hg, hb, h1, h2, h3, h4⟩
  · injection h0 with e1 e2 e3
    omega
  · injection hv with e1 e2 e3
    subst e1
    refine ⟨g, rfl, ?_⟩
    rw [h.cellAt k (by omega)]
    simp [encU64, show k < L.length by omega]
theorem numbers_same (v u : Value) (L : List Int) (b1 b2 : Nat) (W : World) (h1 : W.ownsRow b1 22 1 v L.length (encU64 L)) (h2 : W.ownsRow b2 22 1 u L.length (encU64 L)) (hl : L.length ≤ 1000000) :
    Calls Try.prog 24 #[v, u] W fun e w' => e = .returned (.bool true) ∧ Later W w' := by
  obtain ⟨a1, c1, rfl⟩ := own_form h1
  obtain ⟨a2, c2, rfl⟩ := own_form h2
  obtain ⟨n, hn⟩ : ∃ n, Hid (L.length = n) := ⟨_, Lib.hid rfl⟩
  rw [hn.out] at h1 h2 ⊢
  have hcell := Lib.hid (fun k (hk : k < n) => And.intro (own_cell h1 hn.out hk) (own_cell h2 hn.out hk))
  have hn2 : (n : Int) ≤ 1000000 := by rw [hn.out] at hl; omega
  clear h1 h2 hl
  go_enter Try.func24, Try.ntmps24
  go_wp2_with fail
  go_loopg [5] (n + 1) (fun gg y wr => ∃ k : Nat, gg = n + 1 - k ∧ k ≤ n ∧ y = .int .i64 k ∧ Hid (Later W wr))
  case atStart => exact ⟨0, by omega, Nat.zero_le _, rfl, Lib.hid (Later.refl _)⟩
  case round =>
    obtain ⟨k, rfl, hkn, rfl, hlw⟩ := hrel
    by_cases hk : k < n
    · have hkk : (k : Int) < (n : Int) := by omega
      obtain ⟨⟨g1, rfl, q1⟩, ⟨g2, rfl, q2⟩⟩ := hcell.out k hk
      replace q1 := hlw.out.cell q1
      replace q2 := hlw.out.cell q2
      go_wp2_with fail
      go_quiet (fail)
      go_wp2_with fail
      go_roundg (n - k)
      case measure => omega
      case rel => exact ⟨k + 1, by omega, by omega, by go_num, Lib.hid (hlw.out.drewN _)⟩
    · obtain rfl : n = k := by omega
      have hkk : ¬ (n : Int) < (n : Int) := by omega
      go_wp2_with fail
      go_ret
      exact ⟨rfl, hlw.out⟩
end Go.Proofs.Ytjelfiljebamgaa
