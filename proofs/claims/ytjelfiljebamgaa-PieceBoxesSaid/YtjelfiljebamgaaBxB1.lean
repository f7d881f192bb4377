/-
  Chapter 21, plainly: a box of messages against the document's list of pieces.
  Chapter 21, plainly: what a whole message is, what is missing, how many bytes are held.
  Chapter 21, plainly: which messages are open, in order.
-/
import Derived.Test.YtjelfiljebamgaaKit
namespace Go.Proofs.Ytjelfiljebamgaa
set_option linter.unusedVariables false
set_option linter.unusedSimpArgs false

/-- A piece: its message, its place, of how many, its bytes. -/
structure Pc where
  id : Nat
  pl : Nat
  of : Nat
  d : List Int
/-- A message that is open: its places, how many are missing, how many bytes are there. -/
structure Msg where
  l : List (Option (List Int))
  left : Nat
  by' : Nat
abbrev Bx := Nat → Option Msg
def ofL (L : List Pc) (i : Nat) : List Pc := L.filter (fun p => p.id == i)
def sumL (L : List Pc) : Nat := (L.map fun p => p.d.length).sum
def dclash (L : List Pc) (p : Pc) : Bool := (ofL L p.id).any fun q => q.of != p.of || (q.pl == p.pl && q.d != p.d)
def dthere (L : List Pc) (p : Pc) : Bool := (ofL L p.id).any fun q => q.pl == p.pl
def pclash (M : Bx) (p : Pc) : Bool := match M p.id with
  | none => false
  | some m => m.l.length != p.of || (match m.l.getD p.pl none with | some d => d != p.d | none => false)
def pthere (M : Bx) (p : Pc) : Bool := match M p.id with
  | none => false
  | some m => (m.l.getD p.pl none).isSome
/-- A message is just these pieces. -/
structure MOk (l : List Pc) (m : Msg) : Prop where
  ne : l ≠ []
  of : ∀ q ∈ l, q.of = m.l.length
  lt : ∀ q ∈ l, q.pl < m.l.length
  at' : ∀ k d, m.l.getD k none = some d ↔ ∃ q ∈ l, q.pl = k ∧ q.d = d
  nd : (l.map (·.pl)).Nodup
  left : m.left + l.length = m.l.length
  by' : m.by' = sumL l
def BOk (L : List Pc) (M : Bx) : Prop := ∀ i, (M i = none → ofL L i = []) ∧ (∀ m, M i = some m → MOk (ofL L i) m)
theorem BOk.nil : BOk [] (fun _ => none) := fun i => ⟨fun _ => rfl, fun m h => by cases h⟩
theorem there_same {L : List Pc} {M : Bx} (h : BOk L M) (p : Pc) : dthere L p = pthere M p := by
  unfold dthere pthere
  cases hm : M p.id with
  | none => rw [(h p.id).1 hm]; rfl
  | some m =>
    have ho := (h p.id).2 m hm
    show _ = (m.l.getD p.pl none).isSome
    rw [Bool.eq_iff_iff, List.any_eq_true]
    constructor
    · rintro ⟨q, hq, he⟩
      rw [(ho.at' p.pl q.d).2 ⟨q, hq, eq_of_beq he, rfl⟩]; rfl
    · intro hs
      obtain ⟨d, hd⟩ := Option.isSome_iff_exists.1 hs
      obtain ⟨q, hq, he, _⟩ := (ho.at' p.pl d).1 hd
      exact ⟨q, hq, by simpa using he⟩
theorem clash_same {L : List Pc} {M : Bx} (h : BOk L M) (p : Pc) : dclash L p = pclash M p := by
  unfold dclash pclash
  cases hm : M p.id with
  | none => rw [(h p.id).1 hm]; rfl
  | some m =>
    have ho := (h p.id).2 m hm
    show _ = (m.l.length != p.of || (match m.l.getD p.pl none with | some d => d != p.d | none => false))
    rw [Bool.eq_iff_iff, List.any_eq_true, Bool.or_eq_true]
    constructor
    · rintro ⟨q, hq, he⟩
      rw [Bool.or_eq_true] at he
      rcases he with he | he
      · left; rw [← ho.of q hq]; exact he
      · right
        rw [Bool.and_eq_true] at he
        rw [(ho.at' p.pl q.d).2 ⟨q, hq, eq_of_beq he.1, rfl⟩]
        exact he.2
    · rintro (he | he)
      · obtain ⟨q, hq⟩ := List.exists_mem_of_ne_nil _ ho.ne
        exact ⟨q, hq, by rw [ho.of q hq, he]; rfl⟩
      · cases hd : m.l.getD p.pl none with
        | none => rw [hd] at he; cases he
        | some d =>
          rw [hd] at he
          obtain ⟨q, hq, h1, h2⟩ := (ho.at' p.pl d).1 hd
          refine ⟨q, hq, ?_⟩
          have h3 : (q.d != p.d) = true := by rw [h2]; exact he
          have h4 : (q.pl == p.pl) = true := by simpa using h1
          rw [h3, h4]; simp
theorem ofL_snoc (L : List Pc) (p : Pc) (i : Nat) : ofL (L ++ [p]) i = if p.id = i then ofL L i ++ [p] else ofL L i := by
  unfold ofL
  rw [List.filter_append]
  by_cases h : p.id = i
  · simp [h]
  · simp [h]
theorem sumL_snoc (L : List Pc) (p : Pc) : sumL (L ++ [p]) = sumL L + p.d.length := by simp [sumL]
/-- A message with one place more filled. -/
def Msg.fill (m : Msg) (p : Pc) : Msg := { l := m.l.set p.pl (some p.d), left := m.left - 1, by' := m.by' + p.d.length }
def Msg.fresh (n : Nat) : Msg := { l := List.replicate n none, left := n, by' := 0 }
/-- What a message is ahead of its first piece. -/
structure MPre (l : List Pc) (m : Msg) : Prop where
  of : ∀ q ∈ l, q.of = m.l.length
  lt : ∀ q ∈ l, q.pl < m.l.length
  at' : ∀ k d, m.l.getD k none = some d ↔ ∃ q ∈ l, q.pl = k ∧ q.d = d
  nd : (l.map (·.pl)).Nodup
  left : m.left + l.length = m.l.length
  by' : m.by' = sumL l
theorem MOk.pre {l : List Pc} {m : Msg} (h : MOk l m) : MPre l m := ⟨h.of, h.lt, h.at', h.nd, h.left, h.by'⟩
theorem MPre.fresh (n : Nat) : MPre [] (Msg.fresh n) := by
  refine ⟨by simp, by simp, fun k d => ?_, by simp, by simp [Msg.fresh], rfl⟩
  simp only [Msg.fresh, List.getD_eq_getElem?_getD, List.getElem?_replicate]
  constructor
  · intro h
    split at h <;> simp at h
  · rintro ⟨q, hq, _⟩
    simp at hq
theorem nodup_lt : ∀ (n : Nat) (l : List Nat), l.Nodup → (∀ x ∈ l, x < n) → l.length ≤ n
  | 0, [], _, _ => Nat.le_refl _
  | 0, x :: r, _, h => absurd (h x (by simp)) (by omega)
  | n + 1, l, hd, h => by
    have h1 : l.length = l.countP (fun x => x == n) + l.countP (fun x => !(x == n)) := by
      have := List.length_eq_countP_add_countP (fun x => x == n) (l := l)
      rw [this]
      congr 1
      refine List.countP_congr (fun x _ => ?_)
      cases (x == n) <;> simp
    have h2 : l.countP (fun x => x == n) ≤ 1 := List.nodup_iff_count.1 hd n
    have h3 := nodup_lt n (l.filter fun x => !(x == n)) (hd.sublist List.filter_sublist) (fun x hx => by
      obtain ⟨a, b⟩ := List.mem_filter.1 hx
      have := h x a
      have : x ≠ n := by simpa using b
      omega)
    rw [← List.countP_eq_length_filter] at h3
    omega
theorem MPre.fill {l : List Pc} {m : Msg} (h : MPre l m) {p : Pc} (hof : p.of = m.l.length) (hlt : p.pl < p.of) (hno : ∀ q ∈ l, q.pl ≠ p.pl) : MOk (l ++ [p]) (m.fill p) := by
  have hl : (m.fill p).l.length = m.l.length := by simp [Msg.fill]
  refine ⟨by simp, fun q hq => ?_, fun q hq => ?_, fun k d => ?_, ?_, ?_, ?_⟩
  · rw [hl]
    rcases List.mem_append.1 hq with hq | hq
    · exact h.of q hq
    · obtain rfl := List.mem_singleton.1 hq; exact hof
  · rw [hl]
    rcases List.mem_append.1 hq with hq | hq
    · exact h.lt q hq
    · obtain rfl := List.mem_singleton.1 hq; omega
  · simp only [Msg.fill, List.getD_eq_getElem?_getD]
    by_cases hk : k = p.pl
    · subst hk
      rw [List.getElem?_set_self (by omega)]
      constructor
      · intro he
        exact ⟨p, by simp, rfl, by simpa using he⟩
      · rintro ⟨q, hq, h1, h2⟩
        rcases List.mem_append.1 hq with hq | hq
        · exact absurd h1 (hno q hq)
        · obtain rfl := List.mem_singleton.1 hq; rw [h2]; rfl
    · rw [List.getElem?_set_ne (fun e => hk e.symm)]
      have := h.at' k d
      rw [List.getD_eq_getElem?_getD] at this
      rw [this]
      constructor
      · rintro ⟨q, hq, h1⟩
        exact ⟨q, by simp [hq], h1⟩
      · rintro ⟨q, hq, h1, h2⟩
        rcases List.mem_append.1 hq with hq | hq
        · exact ⟨q, hq, h1, h2⟩
        · obtain rfl := List.mem_singleton.1 hq
          exact absurd h1.symm hk
  · rw [List.map_append, List.nodup_append]
    refine ⟨h.nd, by simp, fun a ha b hb => ?_⟩
    obtain ⟨q, hq, rfl⟩ := List.mem_map.1 ha
    obtain rfl : b = p.pl := by simpa using hb
    exact hno q hq
  · have h1 := h.left
    have h2 : 0 < m.left := by
      refine Nat.pos_of_ne_zero (fun h0 => ?_)
      -- all places are filled: p's place would be one of them
      have hn : l.length = m.l.length := by omega
      have h3 := nodup_lt m.l.length (p.pl :: l.map (·.pl)) (List.nodup_cons.2 ⟨fun hm => by
        obtain ⟨q, hq, he⟩ := List.mem_map.1 hm
        exact hno q hq he, h.nd⟩) (fun x hx => by
        rcases List.mem_cons.1 hx with rfl | hx
        · omega
        · obtain ⟨q, hq, rfl⟩ := List.mem_map.1 hx
          exact h.lt q hq)
      rw [List.length_cons, List.length_map] at h3
      omega
    rw [hl, List.length_append]
    show (m.left - 1) + (l.length + 1) = _
    omega
  · rw [sumL_snoc]
    show m.by' + _ = _
    rw [h.by']
/-- The box behind a piece that leaves its message open. -/
theorem BOk.put {L : List Pc} {M : Bx} (h : BOk L M) (p : Pc) {m : Msg} (hm : MPre (ofL L p.id) m) (hof : p.of = m.l.length) (hlt : p.pl < p.of) (hno : dthere L p = false) : BOk (L ++ [p]) (fun i => if i = p.id then some (m.fill p) else M i) := by
  intro i
  have hn : ∀ q ∈ ofL L p.id, q.pl ≠ p.pl := fun q hq he => by
    unfold dthere at hno
    rw [List.any_eq_false] at hno
    exact hno q hq (by simpa using he)
  by_cases hi : i = p.id
  · subst hi
    refine ⟨fun h => by simp at h, fun m' hm' => ?_⟩
    obtain rfl : m.fill p = m' := by simpa using hm'
    rw [ofL_snoc, if_pos rfl]
    exact hm.fill hof hlt hn
  · rw [ofL_snoc, if_neg (fun e => hi e.symm)]
    simp only [hi, if_false]
    exact h i
/-- The box behind a message that is gone. -/
theorem BOk.gone {L : List Pc} {M : Bx} (h : BOk L M) (j : Nat) : BOk (L.filter (fun p => p.id != j)) (fun i => if i = j then none else M i) := by
  intro i
  have hf : ofL (L.filter (fun p => p.id != j)) i = if i = j then [] else ofL L i := by
    unfold ofL
    rw [List.filter_filter]
    by_cases hi : i = j
    · subst hi
      rw [if_pos rfl, List.filter_eq_nil_iff]
      intro p _
      simp
    · rw [if_neg hi]
      refine List.filter_congr (fun p _ => ?_)
      by_cases hp : p.id = i
      · simp [hp, hi]
      · simp [hp]
  rw [hf]
  by_cases hi : i = j
  · simp [hi]
  · simp only [hi, if_false]
    exact h i
end Go.Proofs.Ytjelfiljebamgaa
namespace Go.Proofs.Ytjelfiljebamgaa
set_option linter.unusedVariables false
set_option linter.unusedSimpArgs false

def dcat (l : List Pc) (n : Nat) : List Int := ((List.range n).map fun k => ((l.filter fun q => q.pl == k).map (·.d)).flatten).flatten
def pcat (m : Msg) : List Int := (m.l.map fun o => o.getD []).flatten
theorem filter_one : ∀ {l : List Pc} {q : Pc}, (l.map (·.pl)).Nodup → q ∈ l → (l.filter fun x => x.pl == q.pl) = [q]
  | [], q, _, h => by simp at h
  | a :: r, q, hn, h => by
    rw [List.map_cons, List.nodup_cons] at hn
    rcases List.mem_cons.1 h with rfl | h
    · have : (r.filter fun x => x.pl == q.pl) = [] := by
        rw [List.filter_eq_nil_iff]
        intro x hx he
        exact hn.1 (List.mem_map.2 ⟨x, hx, by simpa using he⟩)
      rw [List.filter_cons_of_pos (by simp), this]
    · have hne : a.pl ≠ q.pl := fun e => hn.1 (List.mem_map.2 ⟨q, h, e.symm⟩)
      rw [List.filter_cons_of_neg (by simpa using hne)]
      exact filter_one hn.2 h
theorem cat_at {l : List Pc} {m : Msg} (h : MOk l m) (k : Nat) : ((l.filter fun q => q.pl == k).map (·.d)).flatten = (m.l.getD k none).getD [] := by
  cases hk : m.l.getD k none with
  | none =>
    have : (l.filter fun q => q.pl == k) = [] := by
      rw [List.filter_eq_nil_iff]
      intro q hq he
      have := (h.at' k q.d).2 ⟨q, hq, by simpa using he, rfl⟩
      rw [hk] at this; cases this
    rw [this]; rfl
  | some d =>
    obtain ⟨q, hq, h1, h2⟩ := (h.at' k d).1 hk
    subst h1
    rw [filter_one h.nd hq, ← h2]
    simp
theorem list_range {α : Type} (l : List α) (z : α) : l = (List.range l.length).map fun k => l.getD k z := by
  apply List.ext_getElem?
  intro k
  by_cases hk : k < l.length
  · simp [hk]
  · rw [List.getElem?_eq_none (by omega), List.getElem?_eq_none (by simp; omega)]
theorem cat_same {l : List Pc} {m : Msg} (h : MOk l m) : dcat l m.l.length = pcat m := by
  unfold dcat pcat
  have e : m.l.map (fun o => o.getD []) = (List.range m.l.length).map fun k => (m.l.getD k none).getD [] := by
    conv => lhs; rw [list_range m.l none]
    rw [List.map_map]; rfl
  rw [e]
  congr 1
  exact List.map_congr_left (fun k _ => cat_at h k)
/-- The places of pieces that are not there. -/
def dmiss (l : List Pc) (n : Nat) : List Nat := (List.range n).filter fun k => !(l.any fun q => q.pl == k)
def pmiss (m : Msg) : List Nat := (List.range m.l.length).filter fun k => (m.l.getD k none).isNone
theorem miss_same {l : List Pc} {m : Msg} (h : MOk l m) : dmiss l m.l.length = pmiss m := by
  unfold dmiss pmiss
  refine List.filter_congr (fun k _ => ?_)
  cases hk : m.l.getD k none with
  | none =>
    have : (l.any fun q => q.pl == k) = false := by
      rw [List.any_eq_false]
      intro q hq he
      have := (h.at' k q.d).2 ⟨q, hq, by simpa using he, rfl⟩
      rw [hk] at this; cases this
    rw [this]; rfl
  | some d =>
    obtain ⟨q, hq, h1, h2⟩ := (h.at' k d).1 hk
    have : (l.any fun q => q.pl == k) = true := List.any_eq_true.2 ⟨q, hq, by simpa using h1⟩
    rw [this]; rfl
/-! How many bytes are held, whatever the order in which the messages are gone through. -/
theorem sum_ids : ∀ (L : List Pc) (ks : List Nat), ks.Nodup → (∀ p ∈ L, p.id ∈ ks) → (ks.map fun i => sumL (ofL L i)).sum = sumL L
  | [], ks, _, _ => by
    have : (ks.map fun i => sumL (ofL ([] : List Pc) i)) = ks.map fun _ => 0 := rfl
    rw [this]
    have hz : ∀ r : List Nat, (r.map fun _ => 0).sum = 0 := fun r => by
      induction r with
      | nil => rfl
      | cons a r ih => rw [List.map_cons, List.sum_cons, ih]
    exact hz ks
  | p :: L, ks, hn, hm => by
    have ih := sum_ids L ks hn (fun q hq => hm q (by simp [hq]))
    have hp := hm p (by simp)
    have e : ∀ i, sumL (ofL (p :: L) i) = sumL (ofL L i) + (if p.id == i then p.d.length else 0) := fun i => by
      unfold ofL sumL
      by_cases h : p.id = i
      · simp [h]; omega
      · simp [h]
    have e2 : sumL (p :: L) = sumL L + p.d.length := by unfold sumL; simp; omega
    rw [e2, ← ih]
    clear ih e2 hm
    induction ks with
    | nil => simp at hp
    | cons a r ihr =>
      rw [List.nodup_cons] at hn
      rw [List.map_cons, List.sum_cons, List.map_cons, List.sum_cons, e a]
      rcases List.mem_cons.1 hp with rfl | hp
      · have : (r.map fun i => sumL (ofL (p :: L) i)) = r.map fun i => sumL (ofL L i) := List.map_congr_left (fun i hi => by
          rw [e i]
          have : (p.id == i) = false := by
            simp only [beq_eq_false_iff_ne]
            exact fun h => hn.1 (h ▸ hi)
          rw [this]; simp)
        rw [this]
        simp
        omega
      · have h3 := ihr hn.2 hp
        have : (p.id == a) = false := by
          simp only [beq_eq_false_iff_ne]
          exact fun h => hn.1 (h ▸ hp)
        rw [this, h3]
        simp
        omega
theorem held_same {L : List Pc} {M : Bx} (h : BOk L M) {ks : List Nat} (hn : ks.Nodup) (hk : ∀ i, i ∈ ks ↔ (M i).isSome = true) : (ks.map fun i => ((M i).map (·.by')).getD 0).sum = sumL L := by
  rw [← sum_ids L ks hn (fun p hp => by
    rw [hk]
    cases hm : M p.id with
    | none =>
      have := (h p.id).1 hm
      unfold ofL at this
      rw [List.filter_eq_nil_iff] at this
      exact absurd (by simp) (this p hp)
    | some m => rfl)]
  congr 1
  refine List.map_congr_left (fun i hi => ?_)
  obtain ⟨m, hm⟩ := Option.isSome_iff_exists.1 ((hk i).1 hi)
  rw [hm]
  exact ((h i).2 m hm).by'
end Go.Proofs.Ytjelfiljebamgaa
namespace Go.Proofs.Ytjelfiljebamgaa
set_option linter.unusedVariables false
set_option linter.unusedSimpArgs false

def insN (x : Nat) : List Nat → List Nat
  | [] => [x]
  | y :: r => if x < y then x :: y :: r else y :: insN x r
def addN (out : List Nat) (x : Nat) : List Nat := if x ∈ out then out else insN x out
def dopen (L : List Pc) : List Nat := L.foldl (fun out p => addN out p.id) []
theorem mem_insN (x z : Nat) : ∀ l : List Nat, z ∈ insN x l ↔ z = x ∨ z ∈ l
  | [] => by simp [insN]
  | y :: r => by
    unfold insN
    split
    · simp
    · rw [List.mem_cons, mem_insN x z r, List.mem_cons]
      constructor
      · rintro (h | h | h)
        · exact Or.inr (Or.inl h)
        · exact Or.inl h
        · exact Or.inr (Or.inr h)
      · rintro (h | h | h)
        · exact Or.inr (Or.inl h)
        · exact Or.inl h
        · exact Or.inr (Or.inr h)
theorem asc_insN (x : Nat) : ∀ {l : List Nat}, l.Pairwise (· < ·) → x ∉ l → (insN x l).Pairwise (· < ·)
  | [], _, _ => by simp [insN]
  | y :: r, h, hn => by
    have hy := List.pairwise_cons.1 h
    have hxy : x ≠ y := fun e => hn (by simp [e])
    have hr : x ∉ r := fun e => hn (by simp [e])
    unfold insN
    split
    case isTrue hlt =>
      refine List.pairwise_cons.2 ⟨fun z hz => ?_, h⟩
      rcases List.mem_cons.1 hz with rfl | hz
      · exact hlt
      · have := hy.1 z hz; omega
    case isFalse hlt =>
      refine List.pairwise_cons.2 ⟨fun z hz => ?_, asc_insN x hy.2 hr⟩
      rcases (mem_insN x z r).1 hz with rfl | hz
      · omega
      · exact hy.1 z hz
theorem asc_addN (x : Nat) {l : List Nat} (h : l.Pairwise (· < ·)) : (addN l x).Pairwise (· < ·) := by
  unfold addN
  split
  · exact h
  · exact asc_insN x h (by assumption)
theorem mem_addN (x z : Nat) (l : List Nat) : z ∈ addN l x ↔ z = x ∨ z ∈ l := by
  unfold addN
  split
  case isTrue hx =>
    constructor
    · exact Or.inr
    · rintro (rfl | h)
      · exact hx
      · exact h
  case isFalse hx => exact mem_insN x z l
theorem open_fold : ∀ (L : List Pc) (out : List Nat), out.Pairwise (· < ·) → (L.foldl (fun out p => addN out p.id) out).Pairwise (· < ·) ∧ ∀ z, z ∈ L.foldl (fun out p => addN out p.id) out ↔ z ∈ out ∨ ∃ p ∈ L, p.id = z
  | [], out, h => ⟨h, fun z => by simp⟩
  | p :: r, out, h => by
    obtain ⟨h1, h2⟩ := open_fold r (addN out p.id) (asc_addN p.id h)
    refine ⟨h1, fun z => ?_⟩
    show z ∈ r.foldl (fun out p => addN out p.id) (addN out p.id) ↔ _
    rw [h2 z, mem_addN]
    constructor
    · rintro ((rfl | h) | ⟨q, hq, he⟩)
      · exact Or.inr ⟨p, by simp, rfl⟩
      · exact Or.inl h
      · exact Or.inr ⟨q, by simp [hq], he⟩
    · rintro (h | ⟨q, hq, he⟩)
      · exact Or.inl (Or.inr h)
      · rcases List.mem_cons.1 hq with rfl | hq
        · exact Or.inl (Or.inl he.symm)
        · exact Or.inr ⟨q, hq, he⟩
theorem asc_unique : ∀ {a b : List Nat}, a.Pairwise (· < ·) → b.Pairwise (· < ·) → (∀ x, x ∈ a ↔ x ∈ b) → a = b
  | [], [], _, _, _ => rfl
  | [], y :: b, _, _, h => absurd ((h y).2 (by simp)) (by simp)
  | x :: a, [], _, _, h => absurd ((h x).1 (by simp)) (by simp)
  | x :: a, y :: b, ha, hb, h => by
    have h1 := List.pairwise_cons.1 ha
    have h2 := List.pairwise_cons.1 hb
    have hxy : x = y := by
      rcases List.mem_cons.1 ((h x).1 (by simp)) with e | e
      · exact e
      · rcases List.mem_cons.1 ((h y).2 (by simp)) with e' | e'
        · exact e'.symm
        · have := h2.1 x e
          have := h1.1 y e'
          omega
    subst hxy
    rw [asc_unique h1.2 h2.2 (fun z => ?_)]
    constructor
    · intro hz
      have := h1.1 z hz
      rcases List.mem_cons.1 ((h z).1 (by simp [hz])) with e | e
      · omega
      · exact e
    · intro hz
      have := h2.1 z hz
      rcases List.mem_cons.1 ((h z).2 (by simp [hz])) with e | e
      · omega
      · exact e
/-- The document's open messages are the box's, in order. -/
theorem open_same {L : List Pc} {M : Bx} (h : BOk L M) {ks : List Nat} (hs : ks.Pairwise (· < ·)) (hk : ∀ i, i ∈ ks ↔ (M i).isSome = true) : ks = dopen L := by
  obtain ⟨h1, h2⟩ := open_fold L [] List.Pairwise.nil
  refine asc_unique hs h1 (fun i => ?_)
  rw [hk i]
  show _ ↔ i ∈ L.foldl (fun out p => addN out p.id) []
  rw [h2 i]
  cases hm : M i with
  | none =>
    have := (h i).1 hm
    constructor
    · intro h; cases h
    · rintro (h | ⟨p, hp, he⟩)
      · simp at h
      · unfold ofL at this
        rw [List.filter_eq_nil_iff] at this
        exact absurd (by simpa using he) (this p hp)
  | some m =>
    have ho := (h i).2 m hm
    obtain ⟨q, hq⟩ := List.exists_mem_of_ne_nil _ ho.ne
    obtain ⟨h3, h4⟩ := List.mem_filter.1 hq
    exact ⟨fun _ => Or.inr ⟨q, h3, by simpa using h4⟩, fun _ => rfl⟩
end Go.Proofs.Ytjelfiljebamgaa
