/-
  Chapter 21, plainly: which messages are open, in order.
-/
import Derived.Test.YtjelfiljebamgaaBxC
namespace Go.Proofs.Ytjelfiljebamgaa
set_option linter.unusedVariables false
set_option linter.unusedSimpArgs false

def insN (x : Nat) : List Nat → List Nat
  | [] => [x]
  | y :: r => if x < y then x :: y :: r else y :: insN x r
def addN (out : List Nat) (x : Nat) : List Nat := if x ∈ out then out else insN x out
def dopen (L : List Pc) : List Nat := L.foldl (fun out p => addN out p.id) []
theorem mem_insN (x z : Nat) : ∀ l : List Nat, z ∈ insN x l ↔ z = x ∨ z ∈ l
  | [] => by simp [insN]
  | y :: r => by
    unfold insN
    split
    · simp
    · rw [List.mem_cons, mem_insN x z r, List.mem_cons]
      constructor
      · rintro (h | h | h)
        · exact Or.inr (Or.inl h)
        · exact Or.inl h
        · exact Or.inr (Or.inr h)
      · rintro (h | h | h)
        · exact Or.inr (Or.inl h)
        · exact Or.inl h
        · exact Or.inr (Or.inr h)
theorem asc_insN (x : Nat) : ∀ {l : List Nat}, l.Pairwise (· < ·) → x ∉ l → (insN x l).Pairwise (· < ·)
  | [], _, _ => by simp [insN]
  | y :: r, h, hn => by
    have hy := List.pairwise_cons.1 h
    have hxy : x ≠ y := fun e => hn (by simp [e])
    have hr : x ∉ r := fun e => hn (by simp [e])
    unfold insN
    split
    case isTrue hlt =>
      refine List.pairwise_cons.2 ⟨fun z hz => ?_, h⟩
      rcases List.mem_cons.1 hz with rfl | hz
      · exact hlt
      · have := hy.1 z hz; omega
    case isFalse hlt =>
      refine List.pairwise_cons.2 ⟨fun z hz => ?_, asc_insN x hy.2 hr⟩
      rcases (mem_insN x z r).1 hz with rfl | hz
      · omega
      · exact hy.1 z hz
theorem asc_addN (x : Nat) {l : List Nat} (h : l.Pairwise (· < ·)) : (addN l x).Pairwise (· < ·) := by
  unfold addN
  split
  · exact h
  · exact asc_insN x h (by assumption)
theorem mem_addN (x z : Nat) (l : List Nat) : z ∈ addN l x ↔ z = x ∨ z ∈ l := by
  unfold addN
  split
  case isTrue hx =>
    constructor
    · exact Or.inr
    · rintro (rfl | h)
      · exact hx
      · exact h
  case isFalse hx => exact mem_insN x z l
theorem open_fold : ∀ (L : List Pc) (out : List Nat), out.Pairwise (· < ·) → (L.foldl (fun out p => addN out p.id) out).Pairwise (· < ·) ∧ ∀ z, z ∈ L.foldl (fun out p => addN out p.id) out ↔ z ∈ out ∨ ∃ p ∈ L, p.id = z
  | [], out, h => ⟨h, fun z => by simp⟩
  | p :: r, out, h => by
    obtain ⟨h1, h2⟩ := open_fold r (addN out p.id) (asc_addN p.id h)
    refine ⟨h1, fun z => ?_⟩
    show z ∈ r.foldl (fun out p => addN out p.id) (addN out p.id) ↔ _
    rw [h2 z, mem_addN]
    constructor
    · rintro ((rfl | h) | ⟨q, hq, he⟩)
      · exact Or.inr ⟨p, by simp, rfl⟩
      · exact Or.inl h
      · exact Or.inr ⟨q, by simp [hq], he⟩
    · rintro (h | ⟨q, hq, he⟩)
      · exact Or.inl (Or.inr h)
      · rcases List.mem_cons.1 hq with rfl | hq
        · exact Or.inl (Or.inl he.symm)
        · exact Or.inr ⟨q, hq, he⟩
theorem asc_unique : ∀ {a b : List Nat}, a.Pairwise (· < ·) → b.Pairwise (· < ·) → (∀ x, x ∈ a ↔ x ∈ b) → a = b
  | [], [], _, _, _ => rfl
  | [], y :: b, _, _, h => absurd ((h y).2 (by simp)) (by simp)
  | x :: a, [], _, _, h => absurd ((h x).1 (by simp)) (by simp)
  | x :: a, y :: b, ha, hb, h => by
    have h1 := List.pairwise_cons.1 ha
    have h2 := List.pairwise_cons.1 hb
    have hxy : x = y := by
      rcases List.mem_cons.1 ((h x).1 (by simp)) with e | e
      · exact e
      · rcases List.mem_cons.1 ((h y).2 (by simp)) with e' | e'
        · exact e'.symm
        · have := h2.1 x e
          have := h1.1 y e'
          omega
    subst hxy
    rw [asc_unique h1.2 h2.2 (fun z => ?_)]
    constructor
    · intro hz
      have := h1.1 z hz
      rcases List.mem_cons.1 ((h z).1 (by simp [hz])) with e | e
      · omega
      · exact e
    · intro hz
      have := h2.1 z hz
      rcases List.mem_cons.1 ((h z).2 (by simp [hz])) with e | e
      · omega
      · exact e
/-- The document's open messages are the box's, in order. -/
theorem open_same {L : List Pc} {M : Bx} (h : BOk L M) {ks : List Nat} (hs : ks.Pairwise (· < ·)) (hk : ∀ i, i ∈ ks ↔ (M i).isSome = true) : ks = dopen L := by
  obtain ⟨h1, h2⟩ := open_fold L [] List.Pairwise.nil
  refine asc_unique hs h1 (fun i => ?_)
  rw [hk i]
  show _ ↔ i ∈ L.foldl (fun out p => addN out p.id) []
  rw [h2 i]
  cases hm : M i with
  | none =>
    have := (h i).1 hm
    constructor
    · intro h; cases h
    · rintro (h | ⟨p, hp, he⟩)
      · simp at h
      · unfold ofL at this
        rw [List.filter_eq_nil_iff] at this
        exact absurd (by simpa using he) (this p hp)
  | some m =>
    have ho := (h i).2 m hm
    obtain ⟨q, hq⟩ := List.exists_mem_of_ne_nil _ ho.ne
    obtain ⟨h3, h4⟩ := List.mem_filter.1 hq
    exact ⟨fun _ => Or.inr ⟨q, h3, by simpa using h4⟩, fun _ => rfl⟩
end Go.Proofs.Ytjelfiljebamgaa
