/-
  Chapter 21, plainly: a box of messages against the document's list of pieces.
-/
import Derived.Test.YtjelfiljebamgaaKit
namespace Go.Proofs.Ytjelfiljebamgaa
set_option linter.unusedVariables false
set_option linter.unusedSimpArgs false

/-- A piece: its message, its place, of how many, its bytes. -/
structure Pc where
  id : Nat
  pl : Nat
  of : Nat
  d : List Int
/-- A message that is open: its places, how many are missing, how many bytes are there. -/
structure Msg where
  l : List (Option (List Int))
  left : Nat
  by' : Nat
abbrev Bx := Nat → Option Msg
def ofL (L : List Pc) (i : Nat) : List Pc := L.filter (fun p => p.id == i)
def sumL (L : List Pc) : Nat := (L.map fun p => p.d.length).sum
def dclash (L : List Pc) (p : Pc) : Bool := (ofL L p.id).any fun q => q.of != p.of || (q.pl == p.pl && q.d != p.d)
def dthere (L : List Pc) (p : Pc) : Bool := (ofL L p.id).any fun q => q.pl == p.pl
def pclash (M : Bx) (p : Pc) : Bool := match M p.id with
  | none => false
  | some m => m.l.length != p.of || (match m.l.getD p.pl none with | some d => d != p.d | none => false)
def pthere (M : Bx) (p : Pc) : Bool := match M p.id with
  | none => false
  | some m => (m.l.getD p.pl none).isSome
/-- A message is just these pieces. -/
structure MOk (l : List Pc) (m : Msg) : Prop where
  ne : l ≠ []
  of : ∀ q ∈ l, q.of = m.l.length
  lt : ∀ q ∈ l, q.pl < m.l.length
  at' : ∀ k d, m.l.getD k none = some d ↔ ∃ q ∈ l, q.pl = k ∧ q.d = d
  nd : (l.map (·.pl)).Nodup
  left : m.left + l.length = m.l.length
  by' : m.by' = sumL l
def BOk (L : List Pc) (M : Bx) : Prop := ∀ i, (M i = none → ofL L i = []) ∧ (∀ m, M i = some m → MOk (ofL L i) m)
theorem BOk.nil : BOk [] (fun _ => none) := fun i => ⟨fun _ => rfl, fun m h => by cases h⟩
theorem there_same {L : List Pc} {M : Bx} (h : BOk L M) (p : Pc) : dthere L p = pthere M p := by
  unfold dthere pthere
  cases hm : M p.id with
  | none => rw [(h p.id).1 hm]; rfl
  | some m =>
    have ho := (h p.id).2 m hm
    show _ = (m.l.getD p.pl none).isSome
    rw [Bool.eq_iff_iff, List.any_eq_true]
    constructor
    · rintro ⟨q, hq, he⟩
      rw [(ho.at' p.pl q.d).2 ⟨q, hq, eq_of_beq he, rfl⟩]; rfl
    · intro hs
      obtain ⟨d, hd⟩ := Option.isSome_iff_exists.1 hs
      obtain ⟨q, hq, he, _⟩ := (ho.at' p.pl d).1 hd
      exact ⟨q, hq, by simpa using he⟩
theorem clash_same {L : List Pc} {M : Bx} (h : BOk L M) (p : Pc) : dclash L p = pclash M p := by
  unfold dclash pclash
  cases hm : M p.id with
  | none => rw [(h p.id).1 hm]; rfl
  | some m =>
    have ho := (h p.id).2 m hm
    show _ = (m.l.length != p.of || (match m.l.getD p.pl none with | some d => d != p.d | none => false))
    rw [Bool.eq_iff_iff, List.any_eq_true, Bool.or_eq_true]
    constructor
    · rintro ⟨q, hq, he⟩
      rw [Bool.or_eq_true] at he
      rcases he with he | he
      · left; rw [← ho.of q hq]; exact he
      · right
        rw [Bool.and_eq_true] at he
        rw [(ho.at' p.pl q.d).2 ⟨q, hq, eq_of_beq he.1, rfl⟩]
        exact he.2
    · rintro (he | he)
      · obtain ⟨q, hq⟩ := List.exists_mem_of_ne_nil _ ho.ne
        exact ⟨q, hq, by rw [ho.of q hq, he]; rfl⟩
      · cases hd : m.l.getD p.pl none with
        | none => rw [hd] at he; cases he
        | some d =>
          rw [hd] at he
          obtain ⟨q, hq, h1, h2⟩ := (ho.at' p.pl d).1 hd
          refine ⟨q, hq, ?_⟩
          have h3 : (q.d != p.d) = true := by rw [h2]; exact he
          have h4 : (q.pl == p.pl) = true := by simpa using h1
          rw [h3, h4]; simp
theorem ofL_snoc (L : List Pc) (p : Pc) (i : Nat) : ofL (L ++ [p]) i = if p.id = i then ofL L i ++ [p] else ofL L i := by
  unfold ofL
  rw [List.filter_append]
  by_cases h : p.id = i
  · simp [h]
  · simp [h]
theorem sumL_snoc (L : List Pc) (p : Pc) : sumL (L ++ [p]) = sumL L + p.d.length := by simp [sumL]
/-- A message with one place more filled. -/
def Msg.fill (m : Msg) (p : Pc) : Msg := { l := m.l.set p.pl (some p.d), left := m.left - 1, by' := m.by' + p.d.length }
def Msg.fresh (n : Nat) : Msg := { l := List.replicate n none, left := n, by' := 0 }
/-- What a message is ahead of its first piece. -/
structure MPre (l : List Pc) (m : Msg) : Prop where
  of : ∀ q ∈ l, q.of = m.l.length
  lt : ∀ q ∈ l, q.pl < m.l.length
  at' : ∀ k d, m.l.getD k none = some d ↔ ∃ q ∈ l, q.pl = k ∧ q.d = d
  nd : (l.map (·.pl)).Nodup
  left : m.left + l.length = m.l.length
  by' : m.by' = sumL l
theorem MOk.pre {l : List Pc} {m : Msg} (h : MOk l m) : MPre l m := ⟨h.of, h.lt, h.at', h.nd, h.left, h.by'⟩
theorem MPre.fresh (n : Nat) : MPre [] (Msg.fresh n) := by
  refine ⟨by simp, by simp, fun k d => ?_, by simp, by simp [Msg.fresh], rfl⟩
  simp only [Msg.fresh, List.getD_eq_getElem?_getD, List.getElem?_replicate]
  constructor
  · intro h
    split at h <;> simp at h
  · rintro ⟨q, hq, _⟩
    simp at hq
theorem nodup_lt : ∀ (n : Nat) (l : List Nat), l.Nodup → (∀ x ∈ l, x < n) → l.length ≤ n
  | 0, [], _, _ => Nat.le_refl _
  | 0, x :: r, _, h => absurd (h x (by simp)) (by omega)
  | n + 1, l, hd, h => by
    have h1 : l.length = l.countP (fun x => x == n) + l.countP (fun x => !(x == n)) := by
      have := List.length_eq_countP_add_countP (fun x => x == n) (l := l)
      rw [this]
      congr 1
      refine List.countP_congr (fun x _ => ?_)
      cases (x == n) <;> simp
    have h2 : l.countP (fun x => x == n) ≤ 1 := List.nodup_iff_count.1 hd n
    have h3 := nodup_lt n (l.filter fun x => !(x == n)) (hd.sublist List.filter_sublist) (fun x hx => by
      obtain ⟨a, b⟩ := List.mem_filter.1 hx
      have := h x a
      have : x ≠ n := by simpa using b
      omega)
    rw [← List.countP_eq_length_filter] at h3
    omega
theorem MPre.fill {l : List Pc} {m : Msg} (h : MPre l m) {p : Pc} (hof : p.of = m.l.length) (hlt : p.pl < p.of) (hno : ∀ q ∈ l, q.pl ≠ p.pl) : MOk (l ++ [p]) (m.fill p) := by
  have hl : (m.fill p).l.length = m.l.length := by simp [Msg.fill]
  refine ⟨by simp, fun q hq => ?_, fun q hq => ?_, fun k d => ?_, ?_, ?_, ?_⟩
  · rw [hl]
    rcases List.mem_append.1 hq with hq | hq
    · exact h.of q hq
    · obtain rfl := List.mem_singleton.1 hq; exact hof
  · rw [hl]
    rcases List.mem_append.1 hq with hq | hq
    · exact h.lt q hq
    · obtain rfl := List.mem_singleton.1 hq; omega
  · simp only [Msg.fill, List.getD_eq_getElem?_getD]
    by_cases hk : k = p.pl
    · subst hk
      rw [List.getElem?_set_self (by omega)]
      constructor
      · intro he
        exact ⟨p, by simp, rfl, by simpa using he⟩
      · rintro ⟨q, hq, h1, h2⟩
        rcases List.mem_append.1 hq with hq | hq
        · exact absurd h1 (hno q hq)
        · obtain rfl := List.mem_singleton.1 hq; rw [h2]; rfl
    · rw [List.getElem?_set_ne (fun e => hk e.symm)]
      have := h.at' k d
      rw [List.getD_eq_getElem?_getD] at this
      rw [this]
      constructor
      · rintro ⟨q, hq, h1⟩
        exact ⟨q, by simp [hq], h1⟩
      · rintro ⟨q, hq, h1, h2⟩
        rcases List.mem_append.1 hq with hq | hq
        · exact ⟨q, hq, h1, h2⟩
        · obtain rfl := List.mem_singleton.1 hq
          exact absurd h1.symm hk
  · rw [List.map_append, List.nodup_append]
    refine ⟨h.nd, by simp, fun a ha b hb => ?_⟩
    obtain ⟨q, hq, rfl⟩ := List.mem_map.1 ha
    obtain rfl : b = p.pl := by simpa using hb
    exact hno q hq
  · have h1 := h.left
    have h2 : 0 < m.left := by
      refine Nat.pos_of_ne_zero (fun h0 => ?_)
      -- all places are filled: p's place would be one of them
      have hn : l.length = m.l.length := by omega
      have h3 := nodup_lt m.l.length (p.pl :: l.map (·.pl)) (List.nodup_cons.2 ⟨fun hm => by
        obtain ⟨q, hq, he⟩ := List.mem_map.1 hm
        exact hno q hq he, h.nd⟩) (fun x hx => by
        rcases List.mem_cons.1 hx with rfl | hx
        · omega
        · obtain ⟨q, hq, rfl⟩ := List.mem_map.1 hx
          exact h.lt q hq)
      rw [List.length_cons, List.length_map] at h3
      omega
    rw [hl, List.length_append]
    show (m.left - 1) + (l.length + 1) = _
    omega
  · rw [sumL_snoc]
    show m.by' + _ = _
    rw [h.by']
/-- The box behind a piece that leaves its message open. -/
theorem BOk.put {L : List Pc} {M : Bx} (h : BOk L M) (p : Pc) {m : Msg} (hm : MPre (ofL L p.id) m) (hof : p.of = m.l.length) (hlt : p.pl < p.of) (hno : dthere L p = false) : BOk (L ++ [p]) (fun i => if i = p.id then some (m.fill p) else M i) := by
  intro i
  have hn : ∀ q ∈ ofL L p.id, q.pl ≠ p.pl := fun q hq he => by
    unfold dthere at hno
    rw [List.any_eq_false] at hno
    exact hno q hq (by simpa using he)
  by_cases hi : i = p.id
  · subst hi
    refine ⟨fun h => by simp at h, fun m' hm' => ?_⟩
    obtain rfl : m.fill p = m' := by simpa using hm'
    rw [ofL_snoc, if_pos rfl]
    exact hm.fill hof hlt hn
  · rw [ofL_snoc, if_neg (fun e => hi e.symm)]
    simp only [hi, if_false]
    exact h i
/-- The box behind a message that is gone. -/
theorem BOk.gone {L : List Pc} {M : Bx} (h : BOk L M) (j : Nat) : BOk (L.filter (fun p => p.id != j)) (fun i => if i = j then none else M i) := by
  intro i
  have hf : ofL (L.filter (fun p => p.id != j)) i = if i = j then [] else ofL L i := by
    unfold ofL
    rw [List.filter_filter]
    by_cases hi : i = j
    · subst hi
      rw [if_pos rfl, List.filter_eq_nil_iff]
      intro p _
      simp
    · rw [if_neg hi]
      refine List.filter_congr (fun p _ => ?_)
      by_cases hp : p.id = i
      · simp [hp, hi]
      · simp [hp]
  rw [hf]
  by_cases hi : i = j
  · simp [hi]
  · simp only [hi, if_false]
    exact h i
end Go.Proofs.Ytjelfiljebamgaa
