/-
  Chapter 21: a map from numbers to pointers: what it says, plainly; the look-up.
-/
import Derived.Test.YtjelfiljebamgaaKit
import Derived.Maps.Own
import Derived.Maps.OwnOps
import Derived.Maps.OwnSet
import Derived.Maps.Views
namespace Go.Proofs.Ytjelfiljebamgaa
open Go.RowKit Go.Maps
set_option linter.unusedVariables false
set_option linter.unusedSimpArgs false

/-- How an element that points to a block reads: by the block's number. -/
def ptrElem {H : Type} : Value → Option (DataW H × List MemPlace)
  | .pointer none => some (.nil, [])
  | .pointer (some ⟨b, 0, none⟩) => some (.lit (.int .u64 b), [])
  | _ => none
theorem ptrElem_nil {H : Type} : ptrElem (H := H) (.pointer none) = some (.nil, []) := rfl
theorem ptrElem_mk {H : Type} (b : Nat) : ptrElem (H := H) (.pointer (some ⟨b, 0, none⟩)) = some (.lit (.int .u64 b), []) := rfl
theorem ptrElem_inv {H : Type} {v : Value} {z : DataW H × List MemPlace} (h : ptrElem v = some z) : (v = .pointer none ∧ z = (.nil, [])) ∨ ∃ b, v = .pointer (some ⟨b, 0, none⟩) ∧ z = (.lit (.int .u64 b), []) := by
  unfold ptrElem at h
  split at h
  · exact Or.inl ⟨rfl, (Option.some.inj h).symm⟩
  · exact Or.inr ⟨_, rfl, (Option.some.inj h).symm⟩
  · cases h
/-- What f says of a key, as read. -/
def atF (f : Nat → Option Nat) (x : Nat) : DataW Unit := match f x with | some b => .lit (.int .u64 b) | none => .nil
/-- A map says just what f says. -/
structure MapOk (D : DataW Unit) (f : Nat → Option Nat) (n : Nat) : Prop where
  tidy : Tidy D
  at' : ∀ x : Nat, D.atKey (.int .u64 x) .nil = atF f x
  has' : ∀ x : Nat, Maps.has D (.int .u64 x) = (f x).isSome
  size' : Maps.size D = n
  keys : ∃ ks : List Nat, ks.Nodup ∧ ks.length = n ∧ ∀ i, i ∈ ks ↔ (f i).isSome = true
theorem MapOk.nil : MapOk (.map []) (fun _ => none) 0 := ⟨tidy_empty, fun _ => rfl, fun _ => rfl, rfl, [], List.nodup_nil, rfl, fun i => by simp⟩
theorem ownsMap_tight {H : Type} {P : Program} {k : TypeId} {R : Value → Option (DataW H × List MemPlace)} {w : World} {b n : Nat} {D : DataW H} (h : w.ownsMap P k R b n D) : w.ownsMap P k R b (Maps.size D) D := by
  obtain ⟨es, clock, hb, F, hs, rfl⟩ := h
  exact ⟨es, clock, hb, F, by simp [Maps.size, length_sorted], rfl⟩
theorem u64_ne {x z : Nat} (h : x ≠ z) : (Lit.int .u64 (x : Int)) ≠ .int .u64 (z : Int) := fun e => h (by injection e with _ e2; exact Int.ofNat.inj e2)
theorem MapOk.put {D : DataW Unit} {f : Nat → Option Nat} {n : Nat} (h : MapOk D f n) (x b : Nat) :
    MapOk (D.put (.int .u64 x) (.lit (.int .u64 b))) (fun y => if y = x then some b else f y) (if (f x).isSome then n else n + 1) := by
  have hk : WideAt.IsKeyLit (Lit.int .u64 (x : Int)) := by first | trivial | simp [WideAt.IsKeyLit]
  refine ⟨h.tidy.put hk _, fun y => ?_, fun y => ?_, ?_, ?_⟩
  · by_cases e : y = x
    · subst e
      rw [atKey_put_same h.tidy.isMap hk]; simp [atF]
    · rw [atKey_put_other (u64_ne e), h.at']; simp [atF, e]
  · by_cases e : y = x
    · subst e
      rw [has_put_same h.tidy.isMap hk]; simp
    · rw [has_put_other (u64_ne e), h.has']; simp [e]
  · rw [size_put h.tidy, h.has', h.size']
  · obtain ⟨ks, h1, h2, h3⟩ := h.keys
    by_cases hx : (f x).isSome = true
    · rw [if_pos hx]
      refine ⟨ks, h1, h2, fun i => ?_⟩
      by_cases e : i = x
      · subst e; simp [h3, hx]
      · simp [e, h3]
    · rw [if_neg hx]
      refine ⟨x :: ks, List.nodup_cons.2 ⟨fun hm => hx ((h3 x).1 hm), h1⟩, by simp [h2], fun i => ?_⟩
      by_cases e : i = x
      · subst e; simp
      · simp [e, h3]
theorem MapOk.del {D : DataW Unit} {f : Nat → Option Nat} {n : Nat} (h : MapOk D f n) (x : Nat) :
    MapOk (D.del (.int .u64 x)) (fun y => if y = x then none else f y) (if (f x).isSome then n - 1 else n) := by
  refine ⟨h.tidy.del _, fun y => ?_, fun y => ?_, ?_, ?_⟩
  · by_cases e : y = x
    · subst e
      rw [atKey_del_same]; simp [atF]
    · rw [atKey_del_other (u64_ne e), h.at']; simp [atF, e]
  · by_cases e : y = x
    · subst e
      rw [has_del_same]; simp
    · rw [has_del_other (u64_ne e), h.has']; simp [e]
  · have := size_del (k := .int .u64 x) h.tidy
    rw [h.has', h.size'] at this
    cases hf : (f x).isSome
    · rw [hf] at this; simp at this ⊢; exact this
    · rw [hf] at this; simp at this ⊢; omega
  · obtain ⟨ks, h1, h2, h3⟩ := h.keys
    by_cases hx : (f x).isSome = true
    · rw [if_pos hx]
      refine ⟨ks.erase x, h1.erase x, by rw [List.length_erase_of_mem ((h3 x).2 hx), h2], fun i => ?_⟩
      rw [h1.mem_erase_iff, h3]
      by_cases e : i = x
      · simp [e]
      · simp [e]
    · rw [if_neg hx]
      refine ⟨ks, h1, h2, fun i => ?_⟩
      rw [h3]
      by_cases e : i = x
      · subst e; simp at hx ⊢; exact hx
      · simp [e]
/-- The look-up answers what f says: a pointer to the block, or nil. -/
def ptrF (f : Nat → Option Nat) (x : Nat) : Value := match f x with | some b => .pointer (some ⟨b, 0, none⟩) | none => .pointer none
theorem MapOk.look {P : Program} {w : World} {k t e : TypeId} {B m : Nat} {D : DataW Unit} {f : Nat → Option Nat} {n : Nat} (h : MapOk D f n) (hown : w.ownsMap P k ptrElem B m D) (K : Keyed P k) (ht : P.underlying t = some (.map k e))
    (hz : (zeroValue e).run P w = .ok (.pointer none) w) {x : Nat} (hkey : keyOf P k (.int .u64 x) = some (.int .u64 x)) :
    (Instr.lookup t (.map (some B)) (.int .u64 x) false).run P w = .ok (ptrF f x) w := by
  obtain ⟨v, ps, hrun, hR⟩ := hown.lookup K ht hz ptrElem_nil hkey
  rw [hrun]
  congr 1
  rw [h.at'] at hR
  unfold atF at hR
  unfold ptrF
  rcases ptrElem_inv hR with ⟨rfl, he⟩ | ⟨b, rfl, he⟩
  · cases hf : f x with
    | none => rfl
    | some c => rw [hf] at he; simp at he
  · cases hf : f x with
    | none => rw [hf] at he; simp at he
    | some c =>
      rw [hf] at he
      simp at he
      obtain rfl : c = b := by have := he.1; omega
      rfl
end Go.Proofs.Ytjelfiljebamgaa
