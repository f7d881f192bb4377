/-
  Chapter 28: many numbers are read.
-/
import Derived.Test.YtjelfiljebamgaaNdF
namespace Go.Proofs.Ytjelfiljebamgaa
open Go.RowKit Go.Shelf
set_option linter.unusedVariables false
set_option linter.unusedSimpArgs false
attribute [local go_sem] Oper.semAt_some

/-- So many numbers of nodes, one behind the other. -/
def rL : Nat → List Int → Bool → List Int × List Int × Bool
  | 0, L, lost => ([], L, lost)
  | n + 1, L, lost => (((rU 63 L lost).1 : Int) :: (rL n (rU 63 L lost).2.1 (rU 63 L lost).2.2).1, (rL n (rU 63 L lost).2.1 (rU 63 L lost).2.2).2)
theorem rU_lost (m : Nat) (L : List Int) : rU m L true = (0, L, true) := by unfold rU; rfl
theorem rL_lost : ∀ (n : Nat) (L : List Int), (rL n L true).2 = (L, true)
  | 0, L => rfl
  | n + 1, L => by unfold rL; rw [rU_lost]; exact rL_lost n L
theorem rL_length : ∀ (n : Nat) (L : List Int) (lost : Bool), (rL n L lost).1.length = n
  | 0, L, lost => rfl
  | n + 1, L, lost => by unfold rL; rw [List.length_cons, rL_length n]
theorem rL_len : ∀ (n : Nat) (L : List Int) (lost : Bool), (rL n L lost).2.1.length ≤ L.length
  | 0, L, lost => Nat.le_refl _
  | n + 1, L, lost => by unfold rL; exact Nat.le_trans (rL_len n _ _) (rU_len 63 L lost)
theorem rL_byt : ∀ (n : Nat) (L : List Int) (lost : Bool), Byt L → Byt (rL n L lost).2.1
  | 0, L, lost, h => h
  | n + 1, L, lost, h => by unfold rL; exact rL_byt n _ _ (rU_byt 63 L lost h)
theorem rL_mem : ∀ (n : Nat) (L : List Int) (lost : Bool), ∀ x ∈ (rL n L lost).1, 0 ≤ x ∧ x ≤ 63
  | 0, L, lost, x, hx => by simp [rL] at hx
  | n + 1, L, lost, x, hx => by
    unfold rL at hx
    rcases List.mem_cons.1 hx with rfl | hx
    · have := rU_le 63 L lost; omega
    · exact rL_mem n _ _ x hx
/-- A block of another kind is not where bytes lie. -/
theorem U8b.ne {W : World} {v : Value} {c : Nat} {cs : Array Value} {t : TypeId} {fr : Nat × Nat} (h : U8b W v) (hc : W.heap[c]? = some (.cells cs t fr)) (ht : t ≠ 5) : In v (· ≠ c) := by
  intro g o s len cap e hl
  obtain ⟨c', fr', h1⟩ := h g o s len cap e hl
  rintro rfl
  rw [hc] at h1
  injection h1 with h1
  injection h1 with _ h1 _
  exact ht h1
theorem RdB.other {W : World} {p c : Nat} {v : Value} {L : List Int} {lost : Bool} {cs : Array Value} {t : TypeId} {fr : Nat × Nat} (h : RdB W p v L lost) (hc : W.heap[c]? = some (.cells cs t fr)) (ht : t ≠ 5) (hp : c ≠ p) (k : Nat) (u : Value) : RdB (W.setCell ⟨c, k, none⟩ u) p v L lost :=
  ⟨(Below.heap_setCell _ _ _ p (Ne.symm hp)).trans h.head, h.val.stay (h.ty.ne hc ht) (fun g hg _ => Below.heap_setCell _ _ _ g hg), h.ne, h.ty.setO (h.ty.ne hc ht) k u⟩
theorem RdB.own {W w8 : World} {p base n e : Nat} {v vo : Value} {L : List Int} {lost : Bool} {xs : List Value} (h : RdB W p v L lost) (hr : W.ownsRow base e 1 vo n xs) (he : e ≠ 5) (hp : p < base) (hg : W.grownBy w8 vo.ownBlock) : RdB w8 p v L lost := by
  rcases hr.2 with ⟨rfl, _⟩ | ⟨g, cap, cur, rfl, hb, hgb, _⟩
  · exact h.later (Later.of_grown hg)
  · have hi := h.ty.ne hgb he
    have hne : g ≠ p := by omega
    exact ⟨(hg.block p h.lt (fun e' => hne (Option.some.inj e').symm)).trans h.head, h.val.grown hg hi, h.ne, h.ty.grown hg hi⟩
theorem grown_own {W w w8 : World} {q base n e : Nat} {vo : Value} {xs : List Value} (h : W.grownBy w (some q)) (hr : w.ownsRow base e 1 vo n xs) (hb : W.heap.size ≤ base) (hg : w.grownBy w8 vo.ownBlock) : W.grownBy w8 (some q) := by
  refine h.andThen hg (fun j e' => .inl ?_)
  rcases hr.2 with ⟨rfl, _⟩ | ⟨g, cap, cur, rfl, hb', hgb, _⟩
  · simp [Value.ownBlock] at e'
  · obtain rfl : g = j := by simpa [Value.ownBlock] using e'
    omega
theorem read1_any (q : Nat) (v : Value) (L : List Int) (lost : Bool) (W : World) (h : RdB W q v L lost) (hL : L.length ≤ 1000000) :
    Calls Try.prog 72 #[wp q] W fun e w' => e = .returned (.int .i64 (rU 63 L lost).1) ∧ Took q (rU 63 L lost) W w' := by
  have HS := Lib.hid (rsmall_any q 63 v L lost W h (by omega) hL)
  obtain ⟨r, hr⟩ : ∃ r, Hid ((rU 63 L lost).1 = r) := ⟨_, rfl⟩
  rw [hr.out] at HS ⊢
  clear h
  go_enter Try.func72, Try.ntmps72
  go_wp2_with fail
  refine HS.out.mono ?_
  rintro e w1 ⟨rfl, ht⟩
  go_wp2_with fail
  go_ret
  exact ⟨rfl, ht⟩
theorem info_int : (Try.prog.info? 3).map (fun i => (i.zero, i.size, i.bytes)) = some (some (.int .i64 0), 1, 8) := by kernel_rfl
set_option maxRecDepth 100000 in
set_option maxHeartbeats 1000000 in
theorem many_any (q : Nat) (v : Value) (L : List Int) (lost : Bool) (W : World) (h : RdB W q v L lost) (hL : L.length ≤ 1000000) (S1 S2 Lf : List Int) (S3 : Bool) (hS : rL (rU 64 L lost).1 (rU 64 L lost).2.1 (rU 64 L lost).2.2 = (S1, S2, S3)) (hLf : (if S3 = true then [] else S1) = Lf) :
    Calls Try.prog 73 #[wp q, .int .i64 64, .func (.func 72) #[] #[]] W fun e w' => ∃ u, e = .returned u ∧ (∃ v', RdB w' q v' S2 S3) ∧ W.grownBy w' (some q) ∧ w'.ownsRow W.heap.size 3 1 u Lf.length (encI Lf) := by
  replace hLf := Lib.hid hLf
  have HS := Lib.hid (rsmall_any q 64 v L lost W h (by omega) hL)
  have hle := rU_le 64 L lost
  have hln := rU_len 64 L lost
  obtain ⟨R, hR⟩ : ∃ R, rU 64 L lost = R := ⟨_, rfl⟩
  rw [hR] at HS hle hln hS
  obtain ⟨n, L1, lost1⟩ := R
  dsimp only at HS hle hln hS
  have hqW := h.lt
  obtain ⟨i0, hi0, hz0, hz1, hz2⟩ := info_parts info_int
  have q2 := Try.underlying60
  have hML : 4097 < maxLen := by decide
  clear h hR
  go_enter Try.func73, Try.ntmps73
  go_wp2_with fail
  refine HS.out.mono ?_
  rintro e w1 ⟨rfl, ⟨v1, h1⟩, g1⟩
  dsimp only at h1
  clear HS
  go_upto_region 3 with fail
  go_loopg [7, 8, 12] (n + 1) (fun g y7 y8 y wr => W.grownBy wr (some q) ∧ ∃ (i : Nat) (pre Li : List Int) (lo : Bool) (v' : Value), g = n + 1 - i ∧ i ≤ n ∧ y = .int .i64 i ∧ pre.length = i ∧ RdB wr q v' Li lo ∧ Li.length ≤ 1000000 ∧ (lo = false ∨ pre = []) ∧
    Hid ((S1, S2, S3) = (pre ++ (rL (n - i) Li lo).1, (rL (n - i) Li lo).2)) ∧ wr.ownsRow W.heap.size 3 1 y7 pre.length (encI pre))
  case atStart => exact ⟨g1, 0, [], L1, lost1, v1, by omega, Nat.zero_le _, rfl, rfl, h1, by omega, .inr rfl, Lib.hid (by rw [← hS]; rfl), World.ownsRow_nil _ _ _ _⟩
  case round =>
    clear h1 g1 hS
    obtain ⟨hg, i, pre, Li, lo, v', rfl, hin, rfl, hpl, hr, hLi, hlo, hSe, hrow⟩ := hrel
    obtain ⟨wo, rfl⟩ : ∃ wo : World, wo = wr := ⟨_, rfl⟩
    obtain ⟨vo, vc, rfl⟩ := own_form hrow
    rw [hpl] at hrow
    by_cases hi : i < n
    · have hii : (i : Int) < (n : Int) := by omega
      have HR := Lib.hid (read1_any q v' Li lo wo hr hLi)
      have hln2 := rU_len 63 Li lo
      have hun : rL (n - i) Li lo = (((rU 63 Li lo).1 : Int) :: (rL (n - (i + 1)) (rU 63 Li lo).2.1 (rU 63 Li lo).2.2).1, (rL (n - (i + 1)) (rU 63 Li lo).2.1 (rU 63 Li lo).2.2).2) := by
        rw [show n - i = (n - (i + 1)) + 1 by omega]; rfl
      replace hSe := hSe.out
      rw [hun] at hSe
      obtain ⟨R, hR⟩ : ∃ R, rU 63 Li lo = R := ⟨_, rfl⟩
      rw [hR] at HR hln2 hSe
      obtain ⟨x, L2, lo2⟩ := R
      dsimp only at HR hln2 hSe
      obtain ⟨X, hX⟩ : ∃ X : Int, Hid ((x : Int) = X) := ⟨_, rfl⟩
      rw [hX.out] at HR hSe
      replace hSe := Lib.hid hSe
      clear hun hR hr hlo
      go_wp2_with fail
      refine HR.out.mono ?_
      rintro e w2 ⟨rfl, ⟨v2, hr2⟩, g2⟩
      dsimp only at hr2
      have HN := Lib.hid (rnone_any q v2 L2 lo2 w2 hr2)
      have hgq : W.grownBy w2 (some q) := hg.trans g2
      have hrow2 := hrow.kept g2 (.inr (own_ge hrow hqW).symm)
      clear HR hg g2 hrow
      go_wp2_with fail
      refine HN.out.mono ?_
      rintro e w' ⟨rfl, rfl⟩
      cases lo2 with
      | true =>
        go_wp2_with fail
        go_ret
        have e1 := hSe.out
        rw [rL_lost] at e1
        injection e1 with e1 e2
        injection e2 with e2 e3
        refine ⟨_, rfl, ⟨v2, by rw [e2, e3]; exact hr2⟩, hgq, ?_⟩
        rw [← hLf.out, e3, if_pos rfl]
        exact World.ownsRow_nil _ _ _ _
      | false =>
        have hszW := hgq.size
        have q1 := hrow2.alloc (.cells #[.int .i64 X] 3)
        have q3 : ∀ u ∈ [Value.int .i64 X], u.oneCell' = true := fun u hu => by rw [List.mem_singleton] at hu; rw [hu]; rfl
        have q4 : i + 1 ≤ maxLen := by omega
        have q5 : ∀ j u, [Value.int .i64 X][j]? = some u → (w2.alloc (.cells #[.int .i64 X] 3)).cell? ((⟨w2.heap.size, 0, none⟩ : Addr).add j) = some u := World.news_of_block (heap_alloc_new _ _)
        have q6 : (i + 1) * 8 ≤ 140737488355328 := by omega
        have q7 : W.heap.size ≤ (w2.alloc (.cells #[.int .i64 X] 3)).heap.size := by simp; omega
        go_wp2_with (at_builtin; refine wpList_append_own _ rfl _ _ 60 rfl W.heap.size 3 i0 (.int .i64 0) 1 8 q2 hi0 hz0 hz1 hz2 rfl (by decide) _ _ _ rfl q1 ⟨w2.heap.size, 0, none⟩ 1 1 [.int .i64 X] rfl rfl q5 q3 q4 q6 q7 ?_; intro v' w8 hown' hgrow _)
        have hlq : w2.heap.size ≤ (w2.alloc (.cells #[.int .i64 X] 3)).heap.size := by simp
        go_roundg (n - i)
        case measure => omega
        case rel =>
          refine ⟨grown_own (hgq.trans (World.grownBy_alloc _ _ _)) q1 (Nat.le_refl _) hgrow, i + 1, pre ++ [X], L2, false, v2, by omega, by omega, by go_num, by rw [List.length_append, hpl]; rfl, ?_, by omega, .inl rfl, ?_, ?_⟩
          · exact (hr2.later ((Later.refl _).alloc _)).own q1 (by decide) hqW hgrow
          · exact Lib.hid (by rw [hSe.out, List.append_assoc]; rfl)
          · rw [List.length_append, hpl]; unfold encI at hown' ⊢; rw [List.map_append]; exact hown'
    · obtain rfl : n = i := by omega
      have hii : ¬ (n : Int) < (n : Int) := by omega
      go_wp2_with fail
      go_ret
      have e1 := hSe.out
      rw [Nat.sub_self] at e1
      injection e1 with e1 e2
      injection e2 with e2 e3
      refine ⟨_, rfl, ⟨v', by rw [e2, e3]; exact hr⟩, hg, ?_⟩
      have e4 : Lf = pre := by
        rw [← hLf.out, e1]
        show (if S3 = true then [] else pre ++ []) = pre
        rw [List.append_nil, e3]
        rcases hlo with rfl | rfl
        · exact if_neg (by decide)
        · split <;> rfl
      rw [e4, hpl]; exact hrow
end Go.Proofs.Ytjelfiljebamgaa
