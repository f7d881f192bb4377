/-
  Chapter 21: a box in memory.
-/
import Derived.Test.YtjelfiljebamgaaBxA
import Derived.Test.YtjelfiljebamgaaBxB1
import Derived.Test.YtjelfiljebamgaaPcU
namespace Go.Proofs.Ytjelfiljebamgaa
open Go.RowKit Go.Shelf Go.Maps
set_option linter.unusedVariables false
set_option linter.unusedSimpArgs false

theorem Later.obj {w w' : World} (h : Later w w') {b : Nat} {o : Obj} (hc : w.heap[b]? = some o) : w'.heap[b]? = some o := (h.block b (Array.getElem?_eq_some_iff.1 hc).1).trans hc
/-- All blocks but S's are as they were. -/
structure Keep (S : Nat → Prop) (w w' : World) : Prop where
  os : w'.os = w.os
  tape : w'.tape = w.tape
  output : w'.output = w.output
  size : w.heap.size ≤ w'.heap.size
  block : ∀ k, k < w.heap.size → ¬ S k → w'.heap[k]? = w.heap[k]?
theorem Keep.refl (S : Nat → Prop) (w : World) : Keep S w w := ⟨rfl, rfl, rfl, Nat.le_refl _, fun _ _ _ => rfl⟩
theorem Keep.trans {S : Nat → Prop} {a b c : World} (h : Keep S a b) (k : Keep S b c) : Keep S a c :=
  ⟨k.os.trans h.os, k.tape.trans h.tape, k.output.trans h.output, Nat.le_trans h.size k.size, fun i hi hs => (k.block i (Nat.lt_of_lt_of_le hi h.size) hs).trans (h.block i hi hs)⟩
theorem Keep.of_later {S : Nat → Prop} {a b : World} (h : Later a b) : Keep S a b := ⟨h.os, h.tape, h.output, h.size, fun k hk _ => h.block k hk⟩
theorem Keep.setCell {S : Nat → Prop} {a b : World} (h : Keep S a b) {p : Addr} (hp : S p.block ∨ a.heap.size ≤ p.block) (u : Value) : Keep S a (b.setCell p u) :=
  ⟨h.os, h.tape, h.output, Nat.le_trans h.size (KeepsWalks.setCell b p u).size, fun k hk hs => (Below.heap_setCell _ _ _ k (fun e => by
    rcases hp with hp | hp
    · exact hs (e ▸ hp)
    · omega)).trans (h.block k hk hs)⟩
theorem Keep.grown {S : Nat → Prop} {a b c : World} {row : Option Nat} (h : Keep S a b) (hg : b.grownBy c row) (hr : ∀ r, row = some r → S r ∨ a.heap.size ≤ r) : Keep S a c :=
  ⟨hg.os.trans h.os, hg.tape.trans h.tape, hg.output.trans h.output, Nat.le_trans h.size hg.size, fun k hk hs => (hg.block k (Nat.lt_of_lt_of_le hk h.size) (fun e => by
    rcases hr k e.symm with hp | hp
    · exact hs hp
    · omega)).trans (h.block k hk hs)⟩
theorem Keep.mono {S S' : Nat → Prop} {a b : World} (h : Keep S a b) (hs : ∀ k, k < a.heap.size → S k → S' k) : Keep S' a b := ⟨h.os, h.tape, h.output, h.size, fun k hk hn => h.block k hk (fun e => hn (hs k hk e))⟩
/-- Where all that may turn came behind a world, that one lies as it lay. -/
theorem Keep.later {S : Nat → Prop} {X a b : World} (h : Keep S a b) (hl : Later X a) (hs : ∀ k, S k → X.heap.size ≤ k) : Later X b :=
  ⟨h.os.trans hl.os, h.tape.trans hl.tape, h.output.trans hl.output, Nat.le_trans hl.size h.size, fun k hk => (h.block k (Nat.lt_of_lt_of_le hk hl.size) (fun e => Nat.not_lt.2 (hs k e) hk)).trans (hl.block k hk)⟩
theorem Keep.cell {S : Nat → Prop} {a b : World} (h : Keep S a b) {k o : Nat} {v : Value} (hc : a.cell? ⟨k, o, none⟩ = some v) (hs : ¬ S k) : b.cell? ⟨k, o, none⟩ = some v :=
  (World.cell?_of_block (a := ⟨k, o, none⟩) (h.block k (cell_lt hc) hs)).trans hc
theorem Keep.at_ {S : Nat → Prop} {a b : World} (h : Keep S a b) {k : Nat} {o : Obj} (hk : a.heap[k]? = some o) (hs : ¬ S k) : b.heap[k]? = some o :=
  (h.block k (Array.getElem?_eq_some_iff.1 hk).1 hs).trans hk
theorem Keep.bytV {S : Nat → Prop} {a b : World} (h : Keep S a b) {v : Value} {L : List Int} (hv : BytV a v L) (hi : In v (fun g => ¬ S g)) : BytV b v L := hv.stay hi (fun g hg hl => h.block g hl hg)

/-- A place of a message: no slice, or bytes. -/
def PlV (w : World) (T : Nat → Prop) (v : Value) : Option (List Int) → Prop
  | none => v = .slice none 0 0
  | some d => BytV w v d ∧ In v T ∧ (∃ ad n c, v = .slice (some ad) n c) ∧ d.length ≤ 880
theorem PlV.stay {w w' : World} {T : Nat → Prop} {v : Value} {o : Option (List Int)} (h : PlV w T v o) (hs : ∀ k, T k → w'.heap[k]? = w.heap[k]?) : PlV w' T v o := by
  cases o with
  | none => exact h
  | some d => exact ⟨h.1.stay h.2.1 (fun g hg _ => hs g hg), h.2⟩
theorem PlV.mono {w : World} {T T' : Nat → Prop} {v : Value} {o : Option (List Int)} (h : PlV w T v o) (hs : ∀ k, T k → T' k) : PlV w T' v o := by
  cases o with
  | none => exact h
  | some d => exact ⟨h.1, h.2.1.mono hs, h.2.2⟩
/-- The places of a message. -/
def PlsV (w : World) (T : Nat → Prop) (vs : List Value) (l : List (Option (List Int))) : Prop := vs.length = l.length ∧ ∀ k, k < l.length → ∃ v, vs[k]? = some v ∧ PlV w T v (l.getD k none)
theorem PlsV.stay {w w' : World} {T : Nat → Prop} {vs : List Value} {l : List (Option (List Int))} (h : PlsV w T vs l) (hs : ∀ k, T k → w'.heap[k]? = w.heap[k]?) : PlsV w' T vs l :=
  ⟨h.1, fun k hk => by obtain ⟨v, h1, h2⟩ := h.2 k hk; exact ⟨v, h1, h2.stay hs⟩⟩
theorem PlsV.mono {w : World} {T T' : Nat → Prop} {vs : List Value} {l : List (Option (List Int))} (h : PlsV w T vs l) (hs : ∀ k, T k → T' k) : PlsV w T' vs l :=
  ⟨h.1, fun k hk => by obtain ⟨v, h1, h2⟩ := h.2 k hk; exact ⟨v, h1, h2.mono hs⟩⟩
theorem PlsV.set {w : World} {T : Nat → Prop} {vs : List Value} {l : List (Option (List Int))} (h : PlsV w T vs l) {j : Nat} {v : Value} {o : Option (List Int)} (hv : PlV w T v o) : PlsV w T (vs.set j v) (l.set j o) := by
  refine ⟨by simp [h.1], fun k hk => ?_⟩
  rw [List.length_set] at hk
  by_cases e : j = k
  · subst e
    refine ⟨v, by rw [List.getElem?_set_self (by rw [h.1]; exact hk)], ?_⟩
    rw [List.getD_eq_getElem?_getD, List.getElem?_set_self hk]; exact hv
  · obtain ⟨u, h1, h2⟩ := h.2 k hk
    refine ⟨u, by rw [List.getElem?_set_ne e]; exact h1, ?_⟩
    rw [List.getD_eq_getElem?_getD, List.getElem?_set_ne e, ← List.getD_eq_getElem?_getD]; exact h2
theorem PlsV.fresh (w : World) (T : Nat → Prop) (n : Nat) : PlsV w T (List.replicate n (.slice none 0 0)) (List.replicate n none) := by
  refine ⟨by simp, fun k hk => ⟨.slice none 0 0, ?_, ?_⟩⟩
  · rw [List.length_replicate] at hk
    rw [List.getElem?_replicate, if_pos hk]
  · have : (List.replicate n (none : Option (List Int))).getD k none = none := by
      rw [List.getD_eq_getElem?_getD, List.getElem?_replicate]; split <;> rfl
    rw [this]; rfl
theorem row_at {w w' : World} {base e k : Nat} {v : Value} {xs : List Value} (h : w.ownsRow base e 1 v k xs) (hs : ∀ g, v.ownBlock = some g → w'.heap[g]? = w.heap[g]?) : w'.ownsRow base e 1 v k xs := by
  obtain ⟨hx, h⟩ := h
  refine ⟨hx, ?_⟩
  rcases h with h | ⟨g, cap, cur, hv, hg, hb, hr⟩
  · exact .inl h
  · exact .inr ⟨g, cap, cur, hv, hg, (hs g (by rw [hv]; rfl)).trans hb, hr⟩
/-- A message in memory. -/
structure MsgB (w : World) (S T : Nat → Prop) (p g : Nat) (m : Msg) : Prop where
  body : ∃ cap vs, w.heap[p]? = some (.cells #[.slice (some ⟨g, 0, none⟩) m.l.length cap, .int .i64 m.left, .int .i64 m.by'] 127 (0, 0)) ∧ w.ownsRow 0 23 1 (.slice (some ⟨g, 0, none⟩) m.l.length cap) m.l.length vs ∧ PlsV w T vs m.l
  sp : S p
  sg : S g
  len : m.l.length ≤ 4096
  lft : 0 < m.left ∧ m.left ≤ 4096
  byl : m.by' ≤ 131072
  cat : (pcat m).length = m.by'
theorem MsgB.stay {w w' : World} {S T : Nat → Prop} {p g : Nat} {m : Msg} (h : MsgB w S T p g m) (hp : w'.heap[p]? = w.heap[p]?) (hg : w'.heap[g]? = w.heap[g]?) (ht : ∀ k, T k → w'.heap[k]? = w.heap[k]?) : MsgB w' S T p g m := by
  obtain ⟨⟨cap, vs, h1, h2, h3⟩, r1, r2, r3, r4, r5, r6⟩ := h
  exact ⟨⟨cap, vs, hp.trans h1, row_at h2 (fun k e => by obtain rfl : g = k := by simpa [Value.ownBlock] using e
                                                         exact hg), h3.stay ht⟩, r1, r2, r3, r4, r5, r6⟩
theorem MsgB.mono {w : World} {S S' T T' : Nat → Prop} {p g : Nat} {m : Msg} (h : MsgB w S T p g m) (hs : ∀ k, S k → S' k) (ht : ∀ k, T k → T' k) : MsgB w S' T' p g m := by
  obtain ⟨⟨cap, vs, h1, h2, h3⟩, h4, h5, r3, r4, r5, r6⟩ := h
  exact ⟨⟨cap, vs, h1, h2, h3.mono ht⟩, hs _ h4, hs _ h5, r3, r4, r5, r6⟩
/-- A box in memory: x its block, B its map's, f where each message is, G where its places are. -/
structure BoxC (w : World) (x : Nat) (r : Int) (B : Nat) (D : DataW Unit) (f : Nat → Option Nat) (G : Nat → Nat) (n : Nat) (M : Bx) (S T : Nat → Prop) : Prop where
  head : w.heap[x]? = some (.cells #[.int .i64 r, .map (some B)] 78 (0, 0))
  map : w.ownsMap Try.prog 22 ptrElem B n D
  ok : MapOk D f n
  none' : ∀ i, f i = none → M i = none
  some' : ∀ i p, f i = some p → ∃ m, M i = some m ∧ MsgB w S T p (G i) m
  inj : ∀ i j p, f i = some p → f j = some p → i = j
  injG : ∀ i j, (f i).isSome = true → (f j).isSome = true → G i = G j → i = j
  sx : S x
  sb : S B
  lt : ∀ k, S k ∨ T k → k < w.heap.size
  dis : ∀ k, T k → ¬ S k
  room : 1 ≤ r ∧ r ≤ 64
  full : (n : Int) ≤ r
def BoxB (w : World) (x : Nat) (r : Int) (M : Bx) (S T : Nat → Prop) : Prop := ∃ B D f G n, BoxC w x r B D f G n M S T
theorem BoxC.stay {w w' : World} {x B n : Nat} {r : Int} {D : DataW Unit} {f : Nat → Option Nat} {G : Nat → Nat} {M : Bx} {S T : Nat → Prop} (h : BoxC w x r B D f G n M S T) (hs : ∀ k, S k ∨ T k → w'.heap[k]? = w.heap[k]?) (hz : w.heap.size ≤ w'.heap.size) : BoxC w' x r B D f G n M S T where
  head := (hs x (.inl h.sx)).trans h.head
  map := by
    obtain ⟨es, clock, hb, rest⟩ := h.map
    exact ⟨es, clock, (hs B (.inl h.sb)).trans hb, rest⟩
  ok := h.ok
  none' := h.none'
  some' := fun i p hi => by
    obtain ⟨m, hm, hM⟩ := h.some' i p hi
    exact ⟨m, hm, hM.stay (hs _ (.inl hM.sp)) (hs _ (.inl hM.sg)) (fun k hk => hs k (.inr hk))⟩
  inj := h.inj
  injG := h.injG
  sx := h.sx
  sb := h.sb
  lt := fun k hk => Nat.lt_of_lt_of_le (h.lt k hk) hz
  dis := h.dis
  room := h.room
  full := h.full
theorem BoxC.later {w w' : World} {x B n : Nat} {r : Int} {D : DataW Unit} {f : Nat → Option Nat} {G : Nat → Nat} {M : Bx} {S T : Nat → Prop} (h : BoxC w x r B D f G n M S T) (hl : Later w w') : BoxC w' x r B D f G n M S T :=
  h.stay (fun k hk => hl.block k (h.lt k hk)) hl.size
theorem BoxC.keep {w w' : World} {x B n : Nat} {r : Int} {D : DataW Unit} {f : Nat → Option Nat} {G : Nat → Nat} {M : Bx} {S T S' : Nat → Prop} (h : BoxC w x r B D f G n M S T) (hk : Keep S' w w') (hd : ∀ k, S k ∨ T k → ¬ S' k) : BoxC w' x r B D f G n M S T :=
  h.stay (fun k hs => hk.block k (h.lt k hs) (hd k hs)) hk.size
theorem BoxB.later {w w' : World} {x : Nat} {r : Int} {M : Bx} {S T : Nat → Prop} (h : BoxB w x r M S T) (hl : Later w w') : BoxB w' x r M S T := by
  obtain ⟨B, D, f, G, n, h⟩ := h
  exact ⟨B, D, f, G, n, h.later hl⟩
theorem BoxB.keep {w w' : World} {x : Nat} {r : Int} {M : Bx} {S T S' : Nat → Prop} (h : BoxB w x r M S T) (hk : Keep S' w w') (hd : ∀ k, S k ∨ T k → ¬ S' k) : BoxB w' x r M S T := by
  obtain ⟨B, D, f, G, n, h⟩ := h
  exact ⟨B, D, f, G, n, h.keep hk hd⟩
theorem BoxB.lt {w : World} {x : Nat} {r : Int} {M : Bx} {S T : Nat → Prop} (h : BoxB w x r M S T) {k : Nat} (hk : S k ∨ T k) : k < w.heap.size := by
  obtain ⟨B, D, f, G, n, h⟩ := h
  exact h.lt k hk
theorem lawM : Keyed Try.prog 22 := int_keyed Try.underlying22
theorem keyM {i : Nat} (h : i < 18446744073709551616) : keyOf Try.prog 22 (.int .u64 (i : Int)) = some (.int .u64 i) := by
  have h1 : IntKind.u64.min = 0 := rfl
  have h2 : IntKind.u64.max = 18446744073709551615 := rfl
  refine keyOf_int_mk Try.underlying22 ?_
  show (decide (IntKind.u64.min ≤ (i : Int)) && decide ((i : Int) ≤ IntKind.u64.max)) = true
  rw [h1, h2, Bool.and_eq_true, decide_eq_true_eq, decide_eq_true_eq]
  omega
theorem zeroM (w : World) : (zeroValue 125).run Try.prog w = .ok (.pointer none) w := by kernel_rfl
/-- The blocks of a box are of different kinds. -/
theorem BoxC.kinds {w : World} {x B n : Nat} {r : Int} {D : DataW Unit} {f : Nat → Option Nat} {G : Nat → Nat} {M : Bx} {S T : Nat → Prop} (h : BoxC w x r B D f G n M S T) {i p : Nat} (hf : f i = some p) :
    p ≠ x ∧ p ≠ B ∧ G i ≠ x ∧ G i ≠ B ∧ x ≠ B ∧ ∀ j, (f j).isSome = true → p ≠ G j := by
  obtain ⟨m, hm, ⟨cap, vs, h1, h2, h3⟩, -⟩ := h.some' i p hf
  obtain ⟨es, clock, hb, -⟩ := h.map
  have hg : ∃ cur, w.heap[G i]? = some (.cells cur 23 (0, 0)) := by
    rcases h2.2 with ⟨e, _⟩ | ⟨g', cap', cur, e, _, hb', _⟩
    · cases e
    · cases e; exact ⟨cur, hb'⟩
  obtain ⟨cur, hg⟩ := hg
  refine ⟨fun e => ?_, fun e => ?_, fun e => ?_, fun e => ?_, fun e => ?_, fun j hj e => ?_⟩
  · rw [e, h.head] at h1; simp at h1
  · rw [e, hb] at h1; cases h1
  · rw [e, h.head] at hg; simp at hg
  · rw [e, hb] at hg; cases hg
  · have := h.head; rw [e, hb] at this; cases this
  · obtain ⟨q, hq⟩ := Option.isSome_iff_exists.1 hj
    obtain ⟨m', hm', ⟨cap', vs', k1, k2, k3⟩, -⟩ := h.some' j q hq
    rcases k2.2 with ⟨e', _⟩ | ⟨g', cap'', cur', e', _, hb', _⟩
    · cases e'
    · cases e'
      rw [← e, h1] at hb'; simp at hb'
end Go.Proofs.Ytjelfiljebamgaa
