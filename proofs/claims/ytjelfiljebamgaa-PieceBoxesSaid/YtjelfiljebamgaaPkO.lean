/-
  Chapter 5: a reader in memory; the number that stands at the head of its bytes.
-/
import Derived.Test.YtjelfiljebamgaaPkN
namespace Go.Proofs.Ytjelfiljebamgaa
open Go.RowKit Go.Shelf
set_option linter.unusedVariables false
set_option linter.unusedSimpArgs false
attribute [local go_sem] Oper.semAt_some

/-- A reader: the bytes that are left. -/
structure RdB (W : World) (p : Nat) (v : Value) (L : List Int) (lost : Bool) : Prop where
  head : W.heap[p]? = some (.cells #[v, .bool true, .bool lost] 149 (0, 0))
  val : BytV W v L
  ne : In v (· ≠ p)
  ty : U8b W v
theorem RdB.lt {W : World} {p : Nat} {v : Value} {L : List Int} {lost : Bool} (h : RdB W p v L lost) : p < W.heap.size := (Array.getElem?_eq_some_iff.1 h.head).1
theorem RdB.cell {W : World} {p : Nat} {v : Value} {L : List Int} {lost : Bool} (h : RdB W p v L lost) (k : Nat) : W.cell? ⟨p, k, none⟩ = (#[v, .bool true, .bool lost] : Array Value)[k]? := cell_of_row W p k _ _ _ h.head
theorem and_127 {c : Int} (h : 0 ≤ c ∧ c < 256) : bits BinOp.and IntKind.u8 c 127 = c % 128 := by
  have h2 : ∀ r : Fin 256, bits BinOp.and IntKind.u8 ((r.val : Nat) : Int) 127 = ((r.val : Nat) : Int) % 128 := by decide +kernel
  have := h2 ⟨c.toNat, by omega⟩
  dsimp only at this
  rwa [show ((c.toNat : Nat) : Int) = c by omega] at this
theorem pow_7 (i : Nat) : 2 ^ (7 * i) = 128 ^ i := by rw [Nat.pow_mul]
theorem or_shift {acc m i : Nat} (ha : acc < 128 ^ i) (hm : m * 128 ^ i < 18446744073709551616) (hi : i ≤ 9) : bits BinOp.or IntKind.u64 (acc : Int) (IntKind.u64.wrap ((m : Int) * 2 ^ (7 * i))) = ((acc + m * 128 ^ i : Nat) : Int) := by
  have h9 : 128 ^ i ≤ 128 ^ 9 := Nat.pow_le_pow_right (by decide) hi
  have ha2 : acc < 18446744073709551616 := Nat.lt_of_lt_of_le ha (Nat.le_trans h9 (by decide))
  have e1 : ((m : Int) * 2 ^ (7 * i)) = ((m * 128 ^ i : Nat) : Int) := by
    rw [← pow_7]; simp
  have e2 : IntKind.u64.wrap (((m * 128 ^ i : Nat)) : Int) = ((m * 128 ^ i : Nat) : Int) := by
    generalize hx : m * 128 ^ i = x at hm
    simp [IntKind.wrap, IntKind.bits, IntKind.signed]; omega
  rw [e1, e2]
  unfold bits
  have e3 : (BitVec.ofInt IntKind.u64.bits (acc : Int) ||| BitVec.ofInt IntKind.u64.bits ((m * 128 ^ i : Nat) : Int)).toNat = acc + m * 128 ^ i := by
    rw [BitVec.toNat_or, BitVec.ofInt_natCast, BitVec.ofInt_natCast, BitVec.toNat_ofNat, BitVec.toNat_ofNat]
    rw [show IntKind.u64.bits = 64 from rfl, Nat.mod_eq_of_lt (by simpa using ha2), Nat.mod_eq_of_lt (by simpa using hm), Nat.or_comm, ← pow_7, ← Nat.shiftLeft_eq, ← Nat.shiftLeft_add_eq_or_of_lt (by rw [pow_7]; exact ha)]
    omega
  have e4 : acc + m * 128 ^ i < 18446744073709551616 := by
    rw [← e3]; exact (BitVec.isLt _)
  show IntKind.u64.wrap ((BitVec.ofInt IntKind.u64.bits (acc : Int) ||| BitVec.ofInt IntKind.u64.bits ((m * 128 ^ i : Nat) : Int)).toNat : Int) = _
  rw [e3]
  generalize hx : acc + m * 128 ^ i = x at e4
  simp [IntKind.wrap, IntKind.bits, IntKind.signed]; omega
theorem acc_step {acc m i : Nat} (ha : acc < 128 ^ i) (hm : m < 128) : acc + m * 128 ^ i < 128 ^ (i + 1) := by
  have h2 : m * 128 ^ i ≤ 127 * 128 ^ i := Nat.mul_le_mul_right _ (by omega)
  rw [Nat.pow_succ]; omega
theorem shift_lt {m i : Nat} (hm : m < 128) (hi : i ≤ 9) (h9 : ¬ (i = 9 ∧ 2 ≤ m)) : m * 128 ^ i < 18446744073709551616 := by
  rcases Nat.lt_or_ge i 9 with h | h
  · have h1 : 128 ^ i ≤ 128 ^ 8 := Nat.pow_le_pow_right (by decide) (by omega)
    have h2 : m * 128 ^ i ≤ 127 * 128 ^ 8 := Nat.mul_le_mul (by omega) h1
    simp at h2; omega
  · obtain rfl : i = 9 := by omega
    simp; omega
def numR (L : List Int) : Value := match num L with | some (n, k) => .tuple #[.int .u64 n, .int .i64 k] | none => .tuple #[.int .u64 0, .int .i64 0]

set_option maxRecDepth 100000 in
set_option maxHeartbeats 1000000 in
theorem number_any (p : Nat) (v : Value) (L : List Int) (lost : Bool) (W : World) (h : RdB W p v L lost) (hL : L.length ≤ 1000000) :
    Calls Try.prog 100 #[wp p] W fun e w' => e = .returned (numR L) ∧ W = w' := by
  have c0 : W.cell? ⟨p, 0, none⟩ = some v := h.cell 0
  obtain ⟨hb, ao, cap, rfl, _, hc⟩ := h.val
  clear h
  obtain ⟨n, hn⟩ : ∃ n, Hid (L.length = n) := ⟨_, rfl⟩
  obtain ⟨R, hR⟩ : ∃ R, Hid (numR L = R) := ⟨_, rfl⟩
  rw [hn.out] at c0 hc hL
  rw [hR.out]
  have hc := Lib.hid hc
  have hb := Lib.hid hb
  go_enter Try.func100, Try.ntmps100
  go_wp2_with fail
  go_loopg [2, 3, 13] (n + 1) (fun g s2 s3 y wr => W = wr ∧ ∃ i acc : Nat, g = n + 1 - i ∧ i ≤ n ∧ i ≤ 10 ∧ s2 = .int .u64 acc ∧ y = .int .i64 i ∧ acc < 128 ^ i ∧ nm (L.drop i) i acc = num L)
  case atStart => exact ⟨rfl, 0, 0, by omega, by omega, by omega, rfl, rfl, by decide, rfl⟩
  case round =>
    obtain ⟨rfl, i, acc, rfl, hi, hi10, rfl, rfl, hacc, hnm⟩ := hrel
    by_cases hin : i < n
    · obtain ⟨g, o, rfl, ca⟩ := hc.out i hin
      have hcb := hb.out (L.getD i 0) (by rw [List.getD_eq_getElem?_getD, List.getElem?_eq_getElem (by have := hn.out; omega)]; exact List.getElem_mem _)
      have hd : L.drop i = L.getD i 0 :: L.drop (i + 1) := by rw [List.drop_eq_getElem_cons (by have := hn.out; omega), List.getD_eq_getElem?_getD, List.getElem?_eq_getElem (by have := hn.out; omega)]; rfl
      obtain ⟨c, hcc⟩ : ∃ c, L.getD i 0 = c := ⟨_, rfl⟩
      rw [hcc] at ca hcb hd
      rw [hd] at hnm
      have hand := and_127 hcb
      obtain ⟨m, hm⟩ : ∃ m : Nat, c % 128 = m := ⟨(c % 128).toNat, by omega⟩
      have hm128 : m < 128 := by omega
      have hLen := Lib.hid (fun w => len64_any m w hm128)
      rw [hm] at hand
      clear hcc hd
      go_upto_region 5 with fail
      rcases Nat.lt_or_ge i 10 with h10 | h10
      · have h10' : (i : Int) < 10 := by omega
        have h10b : ((i : Int) == 10) = false := by simp; omega
        go_wp2_with fail
        refine (hLen.out _).mono ?_
        rintro e w1 ⟨t, rfl, ht, ht1, rfl⟩
        by_cases h9 : i = 9 ∧ 2 ≤ m
        · have hgt : 64 < t + 7 * (i : Int) := by omega
          have hno : num L = none := by rw [← hnm]; unfold nm; rw [if_pos (.inr ⟨h9.1, by omega⟩)]
          have hRR : R = .tuple #[.int .u64 0, .int .i64 0] := by rw [← hR.out]; unfold numR; rw [hno]
          clear hnm hno ht1
          subst hRR
          go_wp2_with fail
          go_ret2
          exact ⟨rfl, rfl⟩
        · have hgt : t + 7 * (i : Int) ≤ 64 := by omega
          have hi64 : 0 ≤ 7 * (i : Int) ∧ 7 * (i : Int) ≤ 63 := by omega
          have hor := or_shift hacc (shift_lt hm128 (by omega) h9) (by omega)
          have hstep := acc_step hacc hm128
          obtain ⟨acc', hacc'⟩ : ∃ a, acc + m * 128 ^ i = a := ⟨_, rfl⟩
          rw [hacc'] at hor hstep
          have hmm : (c % 128).toNat = m := by omega
          unfold nm at hnm
          rw [if_neg (by rw [hmm]; omega), hmm, hacc'] at hnm
          have hi1 : ¬ (i : Int) = 0 ∨ i = 0 := by omega
          clear hacc' ht1 hLen hmm hm h9
          by_cases c128 : 128 ≤ c
          · rw [if_pos c128] at hnm
            clear hand
            go_wp2_with fail
            go_roundg (n - i)
            case measure => omega
            case rel => exact ⟨rfl, i + 1, acc', by omega, by omega, by omega, rfl, by go_num, hstep, hnm⟩
          · rw [if_neg c128] at hnm
            by_cases hz : c = 0 ∧ 0 < i
            · rw [if_pos hz] at hnm
              have hRR : R = .tuple #[.int .u64 0, .int .i64 0] := by rw [← hR.out]; unfold numR; rw [← hnm]
              have hz1 : (c == 0) = true := by simp [hz.1]
              have hz2 : 0 < (i : Int) := by omega
              clear hnm hz
              subst hRR
              go_wp2_with fail
              go_ret2
              exact ⟨rfl, rfl⟩
            · rw [if_neg hz] at hnm
              have hRR : R = .tuple #[.int .u64 acc', .int .i64 ((i + 1 : Nat) : Int)] := by rw [← hR.out]; unfold numR; rw [← hnm]
              clear hnm
              subst hRR
              by_cases hz1 : c = 0
              · have hz2 : i = 0 := by omega
                have hz3 : (c == 0) = true := by simp [hz1]
                have hor0 : bits BinOp.or IntKind.u64 (acc : Int) (m : Int) = acc' := by
                  have h := hor
                  rw [hz2] at h
                  rw [show IntKind.u64.wrap ((m : Int) * 2 ^ (7 * 0)) = m from by simp [IntKind.wrap, IntKind.bits, IntKind.signed]; omega] at h
                  exact h
                subst hz2
                clear hz hor
                go_wp2_with fail
                go_ret2
                exact ⟨by first | rfl | (congr 1), rfl⟩
              · have hz3 : (c == 0) = false := by simp [hz1]
                clear hz
                go_wp2_with fail
                go_ret2
                exact ⟨by first | rfl | (congr 1), rfl⟩
      · obtain rfl : i = 10 := by omega
        have hno : num L = none := by rw [← hnm]; unfold nm; rw [if_pos (.inl (by omega))]
        have hRR : R = .tuple #[.int .u64 0, .int .i64 0] := by rw [← hR.out]; unfold numR; rw [hno]
        clear hnm hno
        subst hRR
        go_wp2_with fail
        go_ret2
        exact ⟨rfl, rfl⟩
    · obtain rfl : i = n := by omega
      have hno : num L = none := by rw [← hnm, List.drop_eq_nil_of_le (by have := hn.out; omega)]; rfl
      have hRR : R = .tuple #[.int .u64 0, .int .i64 0] := by rw [← hR.out]; unfold numR; rw [hno]
      clear hnm hno
      subst hRR
      go_wp2_with fail
      go_ret2
      exact ⟨rfl, rfl⟩
end Go.Proofs.Ytjelfiljebamgaa
