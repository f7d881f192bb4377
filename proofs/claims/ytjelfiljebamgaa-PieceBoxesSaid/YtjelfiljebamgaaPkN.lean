/-
  Chapter 5: how many bits a small number has.
-/
import Derived.Test.YtjelfiljebamgaaPkV
namespace Go.Proofs.Ytjelfiljebamgaa
open Go.RowKit Go.Shelf
set_option linter.unusedVariables false
set_option linter.unusedSimpArgs false
attribute [local go_sem] Oper.semAt_some

def tabOk (S : ByteArray) : Bool := S.size == 256 && (List.range 128).all fun j => match S[j]? with | some b => decide (b.toNat ≤ 7) && (decide (b.toNat ≤ 1) == decide (j < 2)) | none => false
/-- A small number's place in the table of bits. -/
theorem wpList_index_tab {ops : Array Oper} {rest : List Oper} {o : Oper} {a : Act} {w : World} {Q : Exit → Act → World → Prop} (hgd : o.guard = none) (S : ByteArray) (x : Operand) (ty : TypeId)
    (V : Value) (hV : .string S = V) (ho : o.op = .index ty (.const V) x) (ht : Try.prog.underlying ty = some .string) (k : Nat) (X : Int) (hX : (k : Int) = X) (hx : a.eval x = .int .u8 X) (hk : k < 128) (hS : tabOk S = true)
    (h : ∀ t : Nat, t ≤ 7 → (t ≤ 1 ↔ k < 2) → wpList Try.prog ops Q rest (a.put o.dst (.int .u8 t)) w) : wpList Try.prog ops Q (o :: rest) a w := by
  subst hV hX
  refine wpList_plain hgd fun K hK => ?_
  unfold tabOk at hS
  rw [Bool.and_eq_true, List.all_eq_true] at hS
  have h1 := hS.2 k (List.mem_range.2 hk)
  obtain ⟨b, hb⟩ : ∃ b, S[k]? = some b := by
    cases hb : S[k]? with
    | some b => exact ⟨b, rfl⟩
    | none => rw [hb] at h1; cases h1
  rw [hb] at h1
  simp only [Bool.and_eq_true, decide_eq_true_eq, beq_iff_eq, decide_eq_decide] at h1
  have hr : (Instr.index ty (.string S) (.int .u8 k)).run Try.prog w = .ok (.int .u8 b.toNat) w := by
    unfold Instr.index
    simp only [Sem.run_bind, run_underlying ht, asIntOf, Sem.run_pure, Result.andThen_ok]
    rw [if_pos (by omega), show ((k : Nat) : Int).toNat = k by omega, hb]
    rfl
  unfold Oper.wp execOp
  have e : a.eval (.const (.string S)) = .string S := rfl
  simp only [ho, e, hx, Sem.run_bind, hr, Result.andThen_ok, Sem.run_pure]
  exact hK _ _ (h b.toNat h1.1 h1.2)
set_option maxRecDepth 100000 in
theorem len64_any (x : Nat) (W : World) (hx : x < 128) :
    Calls Try.prog 111 #[.int .u64 x] W fun e w' => ∃ t : Int, e = .returned (.int .i64 t) ∧ (0 ≤ t ∧ t ≤ 7) ∧ (t ≤ 1 ↔ x < 2) ∧ W = w' := by
  obtain ⟨X, hX⟩ : ∃ X : Int, Hid ((x : Int) = X) := ⟨_, rfl⟩
  have h1 : 0 ≤ X ∧ X < 128 := by have := hX.out; omega
  have h2 : X % 256 = X := by omega
  rw [hX.out]
  go_enter Try.func111, Try.ntmps111
  generalize hS : Value.string _ = S
  have hT : ∃ S0, Hid (Value.string S0 = S ∧ tabOk S0 = true) := ⟨_, hS, by kernel_rfl⟩
  clear hS
  obtain ⟨S0, hT⟩ := hT
  go_upto_region 10 with fail
  refine wp_region_lit ?_
  go_wp2_with (refine wpList_index_tab rfl _ _ _ _ hT.out.1 rfl Try.underlying9 x X hX.out rfl hx hT.out.2 ?_; intro t ht1 ht2; have ht3 : (0 : Int) ≤ (t : Int) ∧ (t : Int) ≤ 7 := by omega)
  go_ret
  exact ⟨t, rfl, ht3, ⟨fun h => ht2.1 (by omega), fun h => by have := ht2.2 h; omega⟩, rfl⟩
end Go.Proofs.Ytjelfiljebamgaa
