/-
  Chapter 21: the parts, as the program's iterator tells them.
-/
import Derived.Laws.Small
import Derived.Test.YtjelfiljebamgaaPcE
namespace Go.Proofs.Ytjelfiljebamgaa
open Go.RowKit Go.Shelf
set_option linter.unusedVariables false
set_option linter.unusedSimpArgs false
attribute [local go_sem] Oper.semAt_some

abbrev Prt := Nat × Value × List Int
/-- One of the parts. -/
def PartOk (w0 : World) (L : List Int) (s : Nat) (x : Prt) : Prop := x.1 < (chunks L s).length ∧ (chunks L s)[x.1]? = some x.2.2 ∧ BytV w0 x.2.1 x.2.2 ∧ In x.2.1 (· < w0.heap.size)
theorem parts_any (ao : Option Addr) (n cap s : Nat) (W : World) :
    Calls Try.prog 59 #[.slice ao n cap, .int .i64 s] W fun e w' => e = .returned (.func (.func 87) #[] #[wp W.heap.size, wp (W.heap.size + 1)]) ∧ w' = (W.alloc (.cells #[.slice ao n cap] 23)).alloc (.cells #[.int .i64 s] 3) := by
  go_enter Try.func59, Try.ntmps59
  go_wp2
  go_ret
  exact ⟨rfl, rfl⟩
theorem chunks_le {L : List Int} {s : Nat} (hs : 1 ≤ s) (hL : L.length ≤ 1000000) : (chunks L s).length ≤ 1000001 := by
  have h := (chunks_len hs L.length L (Nat.le_refl _)).2.1
  have h2 : (chunks L s).length - 1 ≤ ((chunks L s).length - 1) * s := Nat.le_mul_of_pos_right _ hs
  omega
def KpP (q r : Nat) (A B : World) : Prop := B.heap[q]? = A.heap[q]? ∧ B.heap[r]? = A.heap[r]?
set_option maxRecDepth 100000 in
set_option maxHeartbeats 2000000 in
theorem parts1_in (l q r s : Nat) (L : List Int) (w0 : World) (J Jx : List Prt → World → Prop) (W : World) (hs : 1 ≤ s ∧ s ≤ 880) (hL : L.length ≤ 1000000)
    (hJ : AbidesQ W.heap.size q J) (hqr : q ≠ r)
    (hY : ∀ pre x W1, PartOk w0 L s x → J pre W1 → pre.length < (chunks L s).length → YieldAt Fence.wide 2 Try.prog l #[.int .i64 x.1, x.2.1] W1 fun e W' =>
      (e = .returned (.bool true) ∧ J (pre ++ [x]) W' ∧ KpP q r W1 W') ∨ (e = .returned (.bool false) ∧ Jx (pre ++ [x]) W'))
    (v : Value) (hv : BytV w0 v L) (hin : In v (· < w0.heap.size)) (hq : W.heap[q]? = some (.cells #[v] 23 (0, 0))) (hr : W.heap[r]? = some (.cells #[.int .i64 s] 3 (0, 0))) (h0 : J [] W) :
    CallsIn Fence.wide 3 Try.prog 87 #[.func (.yield l) #[] #[], wp q, wp r] W fun e W' =>
      (∃ v, e = .returned v) ∧ ((∃ xs : List Prt, (xs.map (·.2.2) = chunks L s ∧ xs.map (·.1) = List.range (chunks L s).length) ∧ J xs W') ∨ (∃ pre, True ∧ Jx pre W')) := by
  refine callsIn_of_wp Try.func87 rfl trivial ?_ rfl
  simp only [Try.ntmps87, List.size_toArray, List.length_cons, List.length_nil, Nat.reduceAdd, Nat.reduceSub, Array.replicate_succ, Array.replicate_zero, List.push_toArray, List.append_toArray, List.nil_append, List.cons_append]
  refine wpIn_wide.2 ?_
  go_wp2_with fail
  go_loopg [4] (L.length + 1) (fun k y wr => ∃ (vi : Value) (Li : List Int) (pre : List Prt), k = Li.length + 1 ∧ Li.length ≤ 1000000 ∧ y = .int .i64 pre.length ∧ J pre wr ∧ wr.heap[q]? = some (.cells #[vi] 23 (0, 0)) ∧ wr.heap[r]? = some (.cells #[.int .i64 s] 3 (0, 0)) ∧
    BytV w0 vi Li ∧ In vi (· < w0.heap.size) ∧ pre.map (·.2.2) ++ chunks Li s = chunks L s ∧ pre.map (·.1) = List.range pre.length)
  case atStart => exact ⟨v, L, [], rfl, hL, rfl, h0, hq, hr, hv, hin, rfl, rfl⟩
  case round =>
    obtain ⟨vi, Li, pre, rfl, hLi, rfl, hJp, hqi, hri, hvi, hini, hch, hidx⟩ := hrel
    obtain ⟨wo, rfl⟩ : ∃ wo : World, wo = wr := ⟨_, rfl⟩
    obtain ⟨_, ao, cap, rfl, hc, _⟩ := id hvi
    have hlen := congrArg List.length hch
    rw [List.length_append, List.length_map] at hlen
    have hc1 := (chunks_len hs.1 Li.length Li (Nat.le_refl _)).1
    have hce := chunks_eq (L := Li) hs.1
    -- the part
    obtain ⟨m, hm⟩ : ∃ m, Hid (min s Li.length = m) := ⟨_, rfl⟩
    have hmL : m ≤ Li.length := by have := hm.out; omega
    obtain ⟨ah, hsh⟩ := slice_high ao Li.length cap m hmL hc.1
    have hrh : ∀ W', _ := fun W' => (hsh W').1
    have hbh := (hsh w0).2 w0 Li rfl hvi
    have htk : Li.take m = Li.take s := by
      have := hm.out
      rcases Nat.le_total s Li.length with h | h
      · rw [show m = s by omega]
      · rw [show m = Li.length by omega, List.take_of_length_le (Nat.le_refl _), List.take_of_length_le h]
    rw [htk] at hbh
    have hmin : ∀ ts t W, (Builtin.min_ ts t #[.int .i64 s, .int .i64 Li.length]).run Try.prog W = .ok (.int .i64 m) W := fun ts t W => by
      rw [run_min_int2, ← hm.out]
      congr 2
      rcases Nat.lt_or_ge Li.length s with h | h
      · rw [if_pos (by omega)]; omega
      · rw [if_neg (by omega)]; omega
    have hhead : ∃ T, chunks Li s = Li.take s :: T := by
      rw [hce]; split
      · exact ⟨_, rfl⟩
      · exact ⟨_, rfl⟩
    have hPart : PartOk w0 L s (pre.length, .slice ah m cap, Li.take s) := by
      obtain ⟨T, hT⟩ := hhead
      refine ⟨by show pre.length < _; omega, ?_, hbh, ?_⟩
      · show (chunks L s)[pre.length]? = some (Li.take s)
        rw [← hch, hT, List.getElem?_append_right (by simp)]
        simp
      · have := hbh.lt; exact this
    have hpl : pre.length < (chunks L s).length := by omega
    have cq : wo.cell? ⟨q, 0, none⟩ = some (.slice ao Li.length cap) := cell_of_row wo q 0 _ _ _ hqi
    have cr : wo.cell? ⟨r, 0, none⟩ = some (.int .i64 s) := cell_of_row wo r 0 _ _ _ hri
    obtain ⟨fn, tmps, assign, body, hy, hR⟩ := hY pre _ wo hPart hJp hpl
    dsimp only at hy hR
    have hR2 := hR.mono (R' := fun e W' => ∃ bb : Bool, e = .returned (.bool bb) ∧ (bb = true → J (pre ++ [(pre.length, .slice ah m cap, Li.take s)]) W' ∧ KpP q r wo W') ∧ (bb = false → Jx (pre ++ [(pre.length, .slice ah m cap, Li.take s)]) W')) (by
      rintro e' W3 (⟨rfl, hJ3, hk3⟩ | ⟨rfl, hJx3⟩)
      · exact ⟨true, rfl, fun _ => ⟨hJ3, hk3⟩, fun h => absurd h (by simp)⟩
      · exact ⟨false, rfl, fun h => absurd h (by simp), fun _ => hJx3⟩)
    obtain ⟨al, hsl⟩ : ∃ al, s ≤ Li.length → ∀ W', (Instr.slice 23 (.slice ao Li.length cap) (some (.int .i64 s)) none none).run Try.prog W' = .ok (.slice al (Li.length - s) (cap - s)) W' ∧
        (∀ W2 (L : List Int), L.length = Li.length → BytV W2 (.slice ao Li.length cap) L → BytV W2 (.slice al (Li.length - s) (cap - s)) (L.drop s)) ∧ (∀ Pg, In (.slice ao Li.length cap) Pg → In (.slice al (Li.length - s) (cap - s)) Pg) := by
      rcases Nat.lt_or_ge Li.length s with h | h
      · exact ⟨none, fun h2 => by omega⟩
      · obtain ⟨al, hal⟩ := slice_low ao Li.length cap s h hc.1
        exact ⟨al, fun _ => hal⟩
    have hsl := Lib.hid hsl
    have hvi := Lib.hid hvi
    have hini := Lib.hid hini
    have hce := Lib.hid hce
    have hch := Lib.hid hch
    have hidx := Lib.hid hidx
    obtain ⟨pn, hpn⟩ : ∃ x, Hid (pre.length = x) := ⟨_, rfl⟩
    obtain ⟨n, hn⟩ : ∃ x, Hid (Li.length = x) := ⟨_, rfl⟩
    have hs0 : 0 ≤ (s : Int) ∧ (s : Int) ≤ 880 := by omega
    have hcb : (chunks L s).length ≤ 1000001 := chunks_le hs.1 hL
    have hpb : pre.length ≤ 1000001 := by omega
    rw [hpn.out] at hy hR2 hpl hlen hpb ⊢
    rw [hn.out] at cq hrh hmin hLi hsl hmL hvi hini hqi
    clear hR hY hPart hbh hhead hsh hlen htk hc hc1
    go_upto_region 1 with fail
    refine (wpIn_wide (n := 3)).1 ?_
    gi_wp2_with (refine hR2.mono ?_; rintro e' W3 ⟨bb, rfl, hA, hB⟩; rcases bb with _ | _; all_goals (try (obtain ⟨hJ3, hk3⟩ := hA rfl; have hq3 := hk3.1.trans hqi; have cq3 := cell_of_row W3 q 0 _ _ _ hq3; have cr3 := cell_of_row W3 r 0 _ _ _ (hk3.2.trans hri); have f3 := frozen_row hq3 0; rcases Nat.lt_or_ge s n with hsn | hsn)); all_goals (try (have hsZ : (s : Int) < (n : Int) := (by omega); have hrl : ∀ W', _ := (fun W' => (hsl.out (Nat.le_of_lt hsn) W').1))); all_goals (try (have hsZ : (n : Int) ≤ (s : Int) := (by omega))))
    · clear hy hR2
      go_wp2_with fail
      go_end0
      exact ⟨⟨_, rfl⟩, .inr ⟨_, trivial, hB (by first | rfl | trivial)⟩⟩
    · clear hy hR2
      go_wp2_with fail
      go_roundg (n - s + 1)
      case measure => have := hn.out; omega
      case rel =>
        have hlen : Li.length = n := hn.out
        have hsn2 : s ≤ n := Nat.le_of_lt hsn
        refine ⟨_, Li.drop s, pre ++ [(pn, .slice ah m cap, Li.take s)], by rw [List.length_drop, hlen], by rw [List.length_drop]; omega, ?_, hJ.2 _ _ _ hJ3, heap_set1 W3 q _ _ _ hq3, (Below.heap_setCell _ _ _ r (fun e => hqr e.symm)).trans (hk3.2.trans hri), (hsl.out hsn2 w0).2.1 w0 Li hlen hvi.out, (hsl.out hsn2 w0).2.2 _ hini.out, ?_, ?_⟩
        · rw [List.length_append]; have := hpn.out; congr 1; simp; omega
        · rw [← hch.out, hce.out, if_neg (by omega), List.map_append, List.append_assoc]; rfl
        · rw [List.map_append, hidx.out, List.length_append, List.length_singleton, List.range_succ, hpn.out]; rfl
    · clear hy hR2
      go_wp2_with fail
      go_end0
      have hlen : Li.length = n := hn.out
      have hcl : (chunks L s).length = pn + 1 := by
        rw [← hch.out, hce.out, if_pos (by omega), List.length_append, List.length_map, hpn.out]; rfl
      refine ⟨⟨_, rfl⟩, .inl ⟨_, ⟨?_, ?_⟩, hJ3⟩⟩
      · rw [← hch.out, hce.out, if_pos (by omega), List.map_append]; rfl
      · rw [hcl, List.map_append, hidx.out, List.range_succ, hpn.out]; rfl
/-- The program's iterator over a message's parts: its contract. -/
theorem parts_seq (q r s : Nat) (L : List Int) (v : Value) (w0 : World) (hs : 1 ≤ s ∧ s ≤ 880) (hL : L.length ≤ 1000000) (hqr : q ≠ r) (hv : BytV w0 v L)
    (hq : w0.heap[q]? = some (.cells #[v] 23 (0, 0))) (hr : w0.heap[r]? = some (.cells #[.int .i64 s] 3 (0, 0))) :
    SeqQ Fence.wide 3 Try.prog 87 #[wp q, wp r] (fun x : { x : Prt // PartOk w0 L s x } => #[.int .i64 x.1.1, x.1.2.1]) q (KpP q r)
      (fun ys => ys.map (·.1.2.2) = chunks L s ∧ ys.map (·.1.1) = List.range (chunks L s).length) (fun _ => True) (chunks L s).length w0 := fun l J Jx W hW hJ hJx hY h0 => by
  refine (parts1_in l q r s L w0 (fun ys W => ∃ zs : List { x : Prt // PartOk w0 L s x }, zs.map (·.1) = ys ∧ J zs W) (fun ys W => ∃ zs : List { x : Prt // PartOk w0 L s x }, zs.map (·.1) = ys ∧ Jx zs W) W hs hL ?_ hqr ?_ v hv hv.lt
    ((hW.block q (Array.getElem?_eq_some_iff.1 hq).1).trans hq) ((hW.block r (Array.getElem?_eq_some_iff.1 hr).1).trans hr) ⟨[], rfl, h0⟩).mono ?_
  · exact ⟨fun s X Y row ⟨zs, hz, hj⟩ hg hr => ⟨zs, hz, hJ.1 zs X Y row hj hg hr⟩, fun s X u ⟨zs, hz, hj⟩ => ⟨zs, hz, hJ.2 zs X u hj⟩⟩
  · rintro pre x W1 hx ⟨zs, rfl, hj⟩ hlen
    obtain ⟨fn, tmps, assign, body, hy, hR⟩ := hY zs ⟨x, hx⟩ W1 hj (by simpa using hlen)
    refine ⟨fn, tmps, assign, body, hy, hR.mono ?_⟩
    rintro e W' (⟨he, h1, h2⟩ | ⟨he, h1⟩)
    · exact .inl ⟨he, ⟨zs ++ [⟨x, hx⟩], by simp, h1⟩, h2⟩
    · exact .inr ⟨he, ⟨zs ++ [⟨x, hx⟩], by simp, h1⟩⟩
  · rintro e W' ⟨hv, h | h⟩
    · obtain ⟨xs, ⟨h1, h2⟩, zs, hz, hj⟩ := h
      subst hz
      rw [List.map_map] at h1 h2
      exact ⟨hv, .inl ⟨zs, ⟨h1, h2⟩, hj⟩⟩
    · obtain ⟨xs, _, zs, hz, hj⟩ := h
      exact ⟨hv, .inr ⟨zs, trivial, hj⟩⟩
end Go.Proofs.Ytjelfiljebamgaa
