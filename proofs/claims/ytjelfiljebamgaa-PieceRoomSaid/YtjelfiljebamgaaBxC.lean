/-
  Chapter 21, plainly: what a whole message is, what is missing, how many bytes are held.
-/
import Derived.Test.YtjelfiljebamgaaBxB
namespace Go.Proofs.Ytjelfiljebamgaa
set_option linter.unusedVariables false
set_option linter.unusedSimpArgs false

def dcat (l : List Pc) (n : Nat) : List Int := ((List.range n).map fun k => ((l.filter fun q => q.pl == k).map (·.d)).flatten).flatten
def pcat (m : Msg) : List Int := (m.l.map fun o => o.getD []).flatten
theorem filter_one : ∀ {l : List Pc} {q : Pc}, (l.map (·.pl)).Nodup → q ∈ l → (l.filter fun x => x.pl == q.pl) = [q]
  | [], q, _, h => by simp at h
  | a :: r, q, hn, h => by
    rw [List.map_cons, List.nodup_cons] at hn
    rcases List.mem_cons.1 h with rfl | h
    · have : (r.filter fun x => x.pl == q.pl) = [] := by
        rw [List.filter_eq_nil_iff]
        intro x hx he
        exact hn.1 (List.mem_map.2 ⟨x, hx, by simpa using he⟩)
      rw [List.filter_cons_of_pos (by simp), this]
    · have hne : a.pl ≠ q.pl := fun e => hn.1 (List.mem_map.2 ⟨q, h, e.symm⟩)
      rw [List.filter_cons_of_neg (by simpa using hne)]
      exact filter_one hn.2 h
theorem cat_at {l : List Pc} {m : Msg} (h : MOk l m) (k : Nat) : ((l.filter fun q => q.pl == k).map (·.d)).flatten = (m.l.getD k none).getD [] := by
  cases hk : m.l.getD k none with
  | none =>
    have : (l.filter fun q => q.pl == k) = [] := by
      rw [List.filter_eq_nil_iff]
      intro q hq he
      have := (h.at' k q.d).2 ⟨q, hq, by simpa using he, rfl⟩
      rw [hk] at this; cases this
    rw [this]; rfl
  | some d =>
    obtain ⟨q, hq, h1, h2⟩ := (h.at' k d).1 hk
    subst h1
    rw [filter_one h.nd hq, ← h2]
    simp
theorem list_range {α : Type} (l : List α) (z : α) : l = (List.range l.length).map fun k => l.getD k z := by
  apply List.ext_getElem?
  intro k
  by_cases hk : k < l.length
  · simp [hk]
  · rw [List.getElem?_eq_none (by omega), List.getElem?_eq_none (by simp; omega)]
theorem cat_same {l : List Pc} {m : Msg} (h : MOk l m) : dcat l m.l.length = pcat m := by
  unfold dcat pcat
  have e : m.l.map (fun o => o.getD []) = (List.range m.l.length).map fun k => (m.l.getD k none).getD [] := by
    conv => lhs; rw [list_range m.l none]
    rw [List.map_map]; rfl
  rw [e]
  congr 1
  exact List.map_congr_left (fun k _ => cat_at h k)
/-- The places of pieces that are not there. -/
def dmiss (l : List Pc) (n : Nat) : List Nat := (List.range n).filter fun k => !(l.any fun q => q.pl == k)
def pmiss (m : Msg) : List Nat := (List.range m.l.length).filter fun k => (m.l.getD k none).isNone
theorem miss_same {l : List Pc} {m : Msg} (h : MOk l m) : dmiss l m.l.length = pmiss m := by
  unfold dmiss pmiss
  refine List.filter_congr (fun k _ => ?_)
  cases hk : m.l.getD k none with
  | none =>
    have : (l.any fun q => q.pl == k) = false := by
      rw [List.any_eq_false]
      intro q hq he
      have := (h.at' k q.d).2 ⟨q, hq, by simpa using he, rfl⟩
      rw [hk] at this; cases this
    rw [this]; rfl
  | some d =>
    obtain ⟨q, hq, h1, h2⟩ := (h.at' k d).1 hk
    have : (l.any fun q => q.pl == k) = true := List.any_eq_true.2 ⟨q, hq, by simpa using h1⟩
    rw [this]; rfl
/-! How many bytes are held, whatever the order in which the messages are gone through. -/
theorem sum_ids : ∀ (L : List Pc) (ks : List Nat), ks.Nodup → (∀ p ∈ L, p.id ∈ ks) → (ks.map fun i => sumL (ofL L i)).sum = sumL L
  | [], ks, _, _ => by
    have : (ks.map fun i => sumL (ofL ([] : List Pc) i)) = ks.map fun _ => 0 := rfl
    rw [this]
    have hz : ∀ r : List Nat, (r.map fun _ => 0).sum = 0 := fun r => by
      induction r with
      | nil => rfl
      | cons a r ih => rw [List.map_cons, List.sum_cons, ih]
    exact hz ks
  | p :: L, ks, hn, hm => by
    have ih := sum_ids L ks hn (fun q hq => hm q (by simp [hq]))
    have hp := hm p (by simp)
    have e : ∀ i, sumL (ofL (p :: L) i) = sumL (ofL L i) + (if p.id == i then p.d.length else 0) := fun i => by
      unfold ofL sumL
      by_cases h : p.id = i
      · simp [h]; omega
      · simp [h]
    have e2 : sumL (p :: L) = sumL L + p.d.length := by unfold sumL; simp; omega
    rw [e2, ← ih]
    clear ih e2 hm
    induction ks with
    | nil => simp at hp
    | cons a r ihr =>
      rw [List.nodup_cons] at hn
      rw [List.map_cons, List.sum_cons, List.map_cons, List.sum_cons, e a]
      rcases List.mem_cons.1 hp with rfl | hp
      · have : (r.map fun i => sumL (ofL (p :: L) i)) = r.map fun i => sumL (ofL L i) := List.map_congr_left (fun i hi => by
          rw [e i]
          have : (p.id == i) = false := by
            simp only [beq_eq_false_iff_ne]
            exact fun h => hn.1 (h ▸ hi)
          rw [this]; simp)
        rw [this]
        simp
        omega
      · have h3 := ihr hn.2 hp
        have : (p.id == a) = false := by
          simp only [beq_eq_false_iff_ne]
          exact fun h => hn.1 (h ▸ hp)
        rw [this, h3]
        simp
        omega
theorem held_same {L : List Pc} {M : Bx} (h : BOk L M) {ks : List Nat} (hn : ks.Nodup) (hk : ∀ i, i ∈ ks ↔ (M i).isSome = true) : (ks.map fun i => ((M i).map (·.by')).getD 0).sum = sumL L := by
  rw [← sum_ids L ks hn (fun p hp => by
    rw [hk]
    cases hm : M p.id with
    | none =>
      have := (h p.id).1 hm
      unfold ofL at this
      rw [List.filter_eq_nil_iff] at this
      exact absurd (by simp) (this p hp)
    | some m => rfl)]
  congr 1
  refine List.map_congr_left (fun i hi => ?_)
  obtain ⟨m, hm⟩ := Option.isSome_iff_exists.1 ((hk i).1 hi)
  rw [hm]
  exact ((h i).2 m hm).by'
end Go.Proofs.Ytjelfiljebamgaa
