/-
  Chapter 21: what Put does to memory: runs of append and make; the box behind it.
-/
import Derived.Laws.OwnMore
import Derived.Test.YtjelfiljebamgaaBxF
namespace Go.Proofs.Ytjelfiljebamgaa
open Go.RowKit Go.Shelf Go.Maps
set_option linter.unusedVariables false
set_option linter.unusedSimpArgs false

/-- append([]byte{}, u...): its run. -/
theorem run_append_new (w : World) (g cap0 : Nat) (u : Value) (L : List Int) (base : Nat) (hown : w.ownsRow base 5 1 (.slice (some ⟨g, 0, none⟩) 0 cap0) 0 []) (hu : BytV w u L) (hlen : L.length ≤ 1000000) (hbase : base ≤ w.heap.size) :
    ∃ a cap w', (Builtin.append_ #[23, 23] 23 #[.slice (some ⟨g, 0, none⟩) 0 cap0, u]).run Try.prog w = .ok (.slice (some ⟨a, 0, none⟩) L.length cap) w' ∧
      w'.ownsRow base 5 1 (.slice (some ⟨a, 0, none⟩) L.length cap) L.length (encB L) ∧ w.grownBy w' (some g) := by
  obtain ⟨i0, hi, hz0, hz1, hz2⟩ := info_parts info_u8
  obtain ⟨_, ao, cap, rfl, hf, hv⟩ := hu
  have hML : 2000000 < maxLen := by decide
  cases ao with
  | none =>
    obtain rfl : cap = 0 := hf.2 rfl
    have hL0 : L = [] := by
      cases L with
      | nil => rfl
      | cons y L => obtain ⟨g, o, e, _⟩ := hv 0 (by simp); cases e
    subst hL0
    exact ⟨g, cap0, w, run_append_owned_none (P := Try.prog) (w := w) base 23 23 5 i0 1 Try.underlying23 hi _ 0 [] hown, hown, ⟨rfl, rfl, rfl, Nat.le_refl _, fun _ _ _ => rfl⟩⟩
  | some ad =>
    obtain ⟨v', w', h1, h2, h3, h4⟩ := run_append_own (P := Try.prog) w base 23 23 5 i0 (.int .u8 0) 1 1 Try.underlying23 hi hz0 hz1 hz2 rfl (by decide) _ 0 [] hown ad L.length cap (encB L) (by unfold encB; simp) (by
      intro j y hj
      unfold encB at hj
      rw [List.getElem?_map] at hj
      have hjl : j < L.length := by
        by_cases hjl : j < L.length
        · exact hjl
        · rw [List.getElem?_eq_none (by omega)] at hj; cases hj
      rw [List.getElem?_eq_getElem hjl] at hj
      obtain ⟨g, o, e, hc⟩ := hv j hjl
      cases e
      rw [List.getD_eq_getElem?_getD, List.getElem?_eq_getElem hjl] at hc
      have hadd : (⟨g, o, none⟩ : Addr).add j = ⟨g, o + j, none⟩ := by unfold Addr.add; split <;> simp_all
      rw [hadd, hc, ← hj]; rfl) (by
      intro y hy
      unfold encB at hy
      rw [List.mem_map] at hy
      obtain ⟨z, _, rfl⟩ := hy
      rfl) (by omega) (by omega) hbase
    rw [Nat.zero_add, List.nil_append] at h2
    rcases h2.2 with ⟨e, h0⟩ | ⟨a, cp, cur, rfl, hr⟩
    · exact absurd (h4.1 e).1 (by simp)
    · exact ⟨a, cp, w', h1, h2, h3⟩
/-- make([][]byte, n): its run. -/
theorem run_make_bss (w : World) (n : Nat) (hn : n ≤ 4096) : (Instr.makeSlice 35 (.int .i64 n) (.int .i64 n)).run Try.prog w = .ok (.slice (some ⟨w.heap.size, 0, none⟩) n n) (w.alloc (.cells (List.replicate n (Value.slice none 0 0)).toArray 23)) := by
  obtain ⟨i0, hi, hz0, hz1, hz2⟩ := info_parts info_bs
  have h := run_make (P := Try.prog) w 35 23 i0 (.slice none 0 0) Try.underlying35 hi hz0 .i64 .i64 n n (by omega) (Int.le_refl _) (by rw [hz2]; omega) (by omega)
  rw [hz1, Nat.mul_one, Int.toNat_natCast] at h
  have e : madeCells (Value.slice none 0 0).cells n = (List.replicate n (Value.slice none 0 0)).toArray := by
    apply Array.ext
    · simp [madeCells]
    · intro i h1 h2
      simp [madeCells, Value.cells, Nat.mod_one]
  rw [e] at h
  exact h
theorem row_make (w : World) (n : Nat) (hn : n ≤ 4096) : (w.alloc (.cells (List.replicate n (Value.slice none 0 0)).toArray 23)).ownsRow 0 23 1 (.slice (some ⟨w.heap.size, 0, none⟩) n n) n (List.replicate n (.slice none 0 0)) :=
  ⟨by simp, .inr ⟨_, n, _, rfl, Nat.zero_le _, heap_alloc_new _ _, Nat.le_refl _, Nat.le_trans hn (by decide), by simp, by simp⟩⟩
/-! ### the plain answer of Put -/
/-- So many messages are open. -/
def Cnt (M : Bx) (n : Nat) : Prop := ∃ ks : List Nat, ks.Nodup ∧ ks.length = n ∧ ∀ i, i ∈ ks ↔ (M i).isSome = true
def pput (M : Bx) (n : Nat) (r : Int) (p : Pc) : List Int × Bool × Int × Bx :=
  if pclash M p = true then ([], false, 211, M)
  else if pthere M p = true then ([], false, 0, M)
  else if ((M p.id).isNone = true ∧ r ≤ (n : Int)) ∨ 131072 < ((M p.id).getD (Msg.fresh p.of)).by' + p.d.length then ([], false, 212, M)
  else if 0 < (((M p.id).getD (Msg.fresh p.of)).fill p).left then ([], false, 0, fun i => if i = p.id then some (((M p.id).getD (Msg.fresh p.of)).fill p) else M i)
  else (pcat (((M p.id).getD (Msg.fresh p.of)).fill p), true, 0, fun i => if i = p.id then none else M i)
theorem pput_clash {M : Bx} {n : Nat} {r : Int} {p : Pc} (h : pclash M p = true) : pput M n r p = ([], false, 211, M) := by unfold pput; rw [if_pos h]
theorem pput_there {M : Bx} {n : Nat} {r : Int} {p : Pc} (h : pclash M p = false) (h2 : pthere M p = true) : pput M n r p = ([], false, 0, M) := by unfold pput; rw [if_neg (by simp [h]), if_pos h2]
theorem pput_full {M : Bx} {n : Nat} {r : Int} {p : Pc} (h : pclash M p = false) (h2 : pthere M p = false) (h3 : ((M p.id).isNone = true ∧ r ≤ (n : Int)) ∨ 131072 < ((M p.id).getD (Msg.fresh p.of)).by' + p.d.length) : pput M n r p = ([], false, 212, M) := by
  unfold pput; rw [if_neg (by simp [h]), if_neg (by simp [h2]), if_pos h3]
theorem pput_open {M : Bx} {n : Nat} {r : Int} {p : Pc} (h : pclash M p = false) (h2 : pthere M p = false) (h3 : ¬ (((M p.id).isNone = true ∧ r ≤ (n : Int)) ∨ 131072 < ((M p.id).getD (Msg.fresh p.of)).by' + p.d.length)) {m : Msg} (h4 : (M p.id).getD (Msg.fresh p.of) = m) (h5 : 0 < (m.fill p).left) :
    pput M n r p = ([], false, 0, fun i => if i = p.id then some (m.fill p) else M i) := by
  subst h4; unfold pput; rw [if_neg (by simp [h]), if_neg (by simp [h2]), if_neg h3, if_pos h5]
theorem pput_whole {M : Bx} {n : Nat} {r : Int} {p : Pc} (h : pclash M p = false) (h2 : pthere M p = false) (h3 : ¬ (((M p.id).isNone = true ∧ r ≤ (n : Int)) ∨ 131072 < ((M p.id).getD (Msg.fresh p.of)).by' + p.d.length)) {m : Msg} (h4 : (M p.id).getD (Msg.fresh p.of) = m) (h5 : ¬ 0 < (m.fill p).left) :
    pput M n r p = (pcat (m.fill p), true, 0, fun i => if i = p.id then none else M i) := by
  subst h4; unfold pput; rw [if_neg (by simp [h]), if_neg (by simp [h2]), if_neg h3, if_neg h5]
theorem pclash_len {M : Bx} {p : Pc} {m : Msg} (h : M p.id = some m) (hl : m.l.length ≠ p.of) : pclash M p = true := by
  unfold pclash; rw [h]; simp [hl]
theorem pclash_at {M : Bx} {p : Pc} {m : Msg} (h : M p.id = some m) (hl : m.l.length = p.of) {d : List Int} (hd : m.l.getD p.pl none = some d) : pclash M p = (d != p.d) := by
  unfold pclash
  rw [h]
  show (m.l.length != p.of || (match m.l.getD p.pl none with | some d => d != p.d | none => false)) = _
  rw [hl, hd]; simp
theorem pclash_eq {M : Bx} {p : Pc} {m : Msg} (h : M p.id = some m) (hl : m.l.length = p.of) {d : List Int} (hd : m.l.getD p.pl none = some d) (hq : (d == p.d) = true) : pclash M p = false := by
  rw [pclash_at h hl hd, bne, hq]; rfl
theorem pclash_ne {M : Bx} {p : Pc} {m : Msg} (h : M p.id = some m) (hl : m.l.length = p.of) {d : List Int} (hd : m.l.getD p.pl none = some d) (hq : (d == p.d) = false) : pclash M p = true := by
  rw [pclash_at h hl hd, bne, hq]; rfl
theorem pclash_no {M : Bx} {p : Pc} {m : Msg} (h : M p.id = some m) (hl : m.l.length = p.of) (hd : m.l.getD p.pl none = none) : pclash M p = false := by
  unfold pclash
  rw [h]
  show (m.l.length != p.of || (match m.l.getD p.pl none with | some d => d != p.d | none => false)) = _
  rw [hl, hd]; simp
theorem pthere_at {M : Bx} {p : Pc} {m : Msg} (h : M p.id = some m) : pthere M p = (m.l.getD p.pl none).isSome := by unfold pthere; rw [h]
theorem pclash_fresh {M : Bx} {p : Pc} (h : M p.id = none) : pclash M p = false := by unfold pclash; rw [h]
theorem pthere_fresh {M : Bx} {p : Pc} (h : M p.id = none) : pthere M p = false := by unfold pthere; rw [h]
/-- What Put leaves: the box; what it hands back, new; all else as it was. -/
structure Left (W : World) (x : Nat) (r : Int) (S T : Nat → Prop) (M' : Bx) (out : List Int) (v : Value) (w' : World) : Prop where
  box : ∃ S' T', BoxB w' x r M' S' T' ∧ (∀ k, S' k → S k ∨ W.heap.size ≤ k) ∧ (∀ k, T' k → T k ∨ W.heap.size ≤ k) ∧ ∀ k, v.ownBlock = some k → ¬ S' k ∧ ¬ T' k
  keep : Keep S W w'
  row : w'.ownsRow W.heap.size 5 1 v out.length (encB out)
theorem BoxC.count {w : World} {x B n : Nat} {r : Int} {D : DataW Unit} {f : Nat → Option Nat} {G : Nat → Nat} {M : Bx} {S T : Nat → Prop} (h : BoxC w x r B D f G n M S T) : Cnt M n := by
  obtain ⟨ks, h1, h2, h3⟩ := h.ok.keys
  refine ⟨ks, h1, h2, fun i => ?_⟩
  rw [h3]
  cases hf : f i with
  | none => rw [h.none' i hf]; simp
  | some p => obtain ⟨m, hm, _⟩ := h.some' i p hf; rw [hm]; simp
theorem Cnt.unique {M : Bx} {n m : Nat} (h : Cnt M n) (k : Cnt M m) : n = m := by
  obtain ⟨ks, h1, h2, h3⟩ := h
  obtain ⟨ls, k1, k2, k3⟩ := k
  rw [← h2, ← k2]
  exact ((List.perm_ext_iff_of_nodup h1 k1).2 (fun i => by rw [h3, k3])).length_eq
/-- Nothing was put. -/
theorem Left.same {W w' : World} {x : Nat} {r : Int} {S T : Nat → Prop} {M : Bx} (h : BoxB W x r M S T) (hl : Later W w') : Left W x r S T M [] (.slice none 0 0) w' :=
  ⟨⟨S, T, h.later hl, fun k hk => .inl hk, fun k hk => .inl hk, fun k hk => by cases hk⟩, Keep.of_later hl, World.ownsRow_nil _ _ _ _⟩
/-- A message's place is filled, and it stays open. -/
theorem BoxC.filled {w w' : World} {x B n : Nat} {r : Int} {D : DataW Unit} {f : Nat → Option Nat} {G : Nat → Nat} {M : Bx} {S T T' : Nat → Prop} (h : BoxC w x r B D f G n M S T) {i p : Nat} (hf : f i = some p) {m' : Msg}
    (hs : ∀ k, S k ∨ T k → k ≠ p → k ≠ G i → w'.heap[k]? = w.heap[k]?) (hz : w.heap.size ≤ w'.heap.size) (hm : MsgB w' S T' p (G i) m') (ht : ∀ k, T k → T' k) (hT : ∀ k, T' k → k < w'.heap.size ∧ ¬ S k) :
    BoxC w' x r B D f G n (fun j => if j = i then some m' else M j) S T' := by
  obtain ⟨k1, k2, k3, k4, k5, k6⟩ := h.kinds hf
  obtain ⟨m, hm0, hM0⟩ := h.some' i p hf
  refine ⟨(hs x (.inl h.sx) (Ne.symm k1) (Ne.symm k3)).trans h.head, ?_, h.ok, fun j hj => ?_, fun j q hj => ?_, h.inj, h.injG, h.sx, h.sb, fun k hk => ?_, fun k hk => (hT k hk).2, h.room, h.full⟩
  · obtain ⟨es, clock, hb, rest⟩ := h.map
    exact ⟨es, clock, (hs B (.inl h.sb) (Ne.symm k2) (Ne.symm k4)).trans hb, rest⟩
  · have : j ≠ i := fun e => by rw [e, hf] at hj; cases hj
    simp only [this, if_false]
    exact h.none' j hj
  · by_cases e : j = i
    · subst e
      rw [hf] at hj; cases hj
      exact ⟨m', by simp, hm⟩
    · obtain ⟨mj, hmj, hMj⟩ := h.some' j q hj
      refine ⟨mj, by simp [e, hmj], MsgB.mono (MsgB.stay hMj (hs _ (.inl hMj.sp) (fun e2 => e (h.inj j i p (by rw [hj, e2]) hf)) (fun e2 => ?_)) (hs _ (.inl hMj.sg) (fun e2 => k6 j (by rw [hj]; rfl) e2.symm) (fun e2 => e (h.injG j i (by rw [hj]; rfl) (by rw [hf]; rfl) e2))) (fun k hk => hs k (.inr hk) (fun e2 => h.dis k hk (e2 ▸ hM0.sp)) (fun e2 => h.dis k hk (e2 ▸ hM0.sg)))) (fun _ hk => hk) ht⟩
      exact (h.kinds hj).2.2.2.2.2 i (by rw [hf]; rfl) e2
  · rcases hk with hk | hk
    · exact Nat.lt_of_lt_of_le (h.lt k (.inl hk)) hz
    · exact (hT k hk).1
/-- A message is gone. -/
theorem BoxC.gone {w w' : World} {x B n : Nat} {r : Int} {D : DataW Unit} {f : Nat → Option Nat} {G : Nat → Nat} {M : Bx} {S T : Nat → Prop} (h : BoxC w x r B D f G n M S T) (i : Nat) {n' : Nat}
    (hs : ∀ k, S k ∨ T k → k ≠ B → (∀ p, f i = some p → k ≠ p ∧ k ≠ G i) → w'.heap[k]? = w.heap[k]?) (hz : w.heap.size ≤ w'.heap.size) (hm : w'.ownsMap Try.prog 22 ptrElem B n' (D.del (.int .u64 i))) :
    ∃ n2 D2, BoxC w' x r B D2 (fun j => if j = i then none else f j) G n2 (fun j => if j = i then none else M j) S T := by
  have hok := h.ok.del i
  have hle : (if (f i).isSome = true then n - 1 else n) ≤ n := by split <;> omega
  refine ⟨_, _, (hs x (.inl h.sx) ?_ (fun p hp => ?_)).trans h.head, hok.size' ▸ ownsMap_tight hm, hok, fun j hj => ?_, fun j q hj => ?_, fun j l q hj hl => ?_, fun j l hj hl e => ?_, h.sx, h.sb, fun k hk => Nat.lt_of_lt_of_le (h.lt k hk) hz, h.dis, h.room, ?_⟩
  · obtain ⟨es, clock, hb, -⟩ := h.map
    intro e
    have := h.head
    rw [e, hb] at this; cases this
  · obtain ⟨k1, k2, k3, k4, k5, k6⟩ := h.kinds hp
    exact ⟨Ne.symm k1, Ne.symm k3⟩
  · by_cases e : j = i
    · simp [e]
    · simp only [e, if_false] at hj ⊢
      exact h.none' j hj
  · by_cases e : j = i
    · simp [e] at hj
    · simp only [e, if_false] at hj ⊢
      obtain ⟨mj, hmj, hMj⟩ := h.some' j q hj
      obtain ⟨k1, k2, k3, k4, k5, k6⟩ := h.kinds hj
      refine ⟨mj, hmj, hMj.stay (hs _ (.inl hMj.sp) k2 (fun p hp => ⟨fun e2 => e (h.inj j i p (by rw [hj, e2]) hp), k6 i (by rw [hp]; rfl)⟩)) (hs _ (.inl hMj.sg) k4 (fun p hp => ⟨fun e2 => (h.kinds hp).2.2.2.2.2 j (by rw [hj]; rfl) e2.symm, fun e2 => e (h.injG j i (by rw [hj]; rfl) (by rw [hp]; rfl) e2)⟩)) (fun k hk => hs k (.inr hk) (fun e2 => h.dis k hk (e2 ▸ h.sb)) (fun p hp => ?_))⟩
      obtain ⟨m0, _, hM0⟩ := h.some' i p hp
      exact ⟨fun e2 => h.dis k hk (e2 ▸ hM0.sp), fun e2 => h.dis k hk (e2 ▸ hM0.sg)⟩
  · by_cases e1 : j = i
    · simp [e1] at hj
    · by_cases e2 : l = i
      · simp [e2] at hl
      · simp only [e1, e2, if_false] at hj hl
        exact h.inj j l q hj hl
  · by_cases e1 : j = i
    · simp [e1] at hj
    · by_cases e2 : l = i
      · simp [e2] at hl
      · simp only [e1, e2, if_false] at hj hl
        exact h.injG j l hj hl e
  · have := h.full
    omega
/-- A message is opened. -/
theorem BoxC.opened {w w' : World} {x B n : Nat} {r : Int} {D : DataW Unit} {f : Nat → Option Nat} {G : Nat → Nat} {M : Bx} {S T S' T' : Nat → Prop} (h : BoxC w x r B D f G n M S T) {i p g : Nat} (hf : f i = none) {m' : Msg} {n' : Nat}
    (hs : ∀ k, S k ∨ T k → k ≠ B → w'.heap[k]? = w.heap[k]?) (hz : w.heap.size ≤ w'.heap.size) (hmap : w'.ownsMap Try.prog 22 ptrElem B n' (D.put (.int .u64 i) (.lit (.int .u64 p))))
    (hm : MsgB w' S' T' p g m') (hp : w.heap.size ≤ p) (hg : w.heap.size ≤ g) (hS : ∀ k, S k → S' k) (hT : ∀ k, T k → T' k) (hlt : ∀ k, S' k ∨ T' k → k < w'.heap.size) (hd : ∀ k, T' k → ¬ S' k) (hfull : (n : Int) < r) :
    ∃ n2 D2, BoxC w' x r B D2 (fun j => if j = i then some p else f j) (fun j => if j = i then g else G j) n2 (fun j => if j = i then some m' else M j) S' T' := by
  have hok := h.ok.put i p
  have hle : (if (f i).isSome = true then n else n + 1) = n + 1 := by rw [hf]; rfl
  have hGlt : ∀ j, (f j).isSome = true → G j < w.heap.size := fun j hj => by
    obtain ⟨q, hq⟩ := Option.isSome_iff_exists.1 hj
    obtain ⟨mj, _, hMj⟩ := h.some' j q hq
    exact h.lt _ (.inl hMj.sg)
  refine ⟨_, _, (hs x (.inl h.sx) ?_).trans h.head, hok.size' ▸ ownsMap_tight hmap, hok, fun j hj => ?_, fun j q hj => ?_, fun j l q hj hl => ?_, fun j l hj hl e => ?_, hS _ h.sx, hS _ h.sb, hlt, hd, h.room, ?_⟩
  · obtain ⟨es, clock, hb, -⟩ := h.map
    intro e
    have := h.head
    rw [e, hb] at this; cases this
  · by_cases e : j = i
    · simp [e] at hj
    · simp only [e, if_false] at hj ⊢
      exact h.none' j hj
  · by_cases e : j = i
    · subst e
      simp only [if_true, Option.some.injEq] at hj ⊢
      subst hj
      exact ⟨m', rfl, hm⟩
    · simp only [e, if_false] at hj ⊢
      obtain ⟨mj, hmj, hMj⟩ := h.some' j q hj
      obtain ⟨k1, k2, k3, k4, k5, k6⟩ := h.kinds hj
      exact ⟨mj, hmj, MsgB.mono (MsgB.stay hMj (hs _ (.inl hMj.sp) k2) (hs _ (.inl hMj.sg) k4) (fun k hk => hs k (.inr hk) (fun e2 => h.dis k hk (e2 ▸ h.sb)))) hS hT⟩
  · have hlt' : ∀ j q, f j = some q → q < w.heap.size := fun j q hq => by
      obtain ⟨mj, _, hMj⟩ := h.some' j q hq
      exact h.lt _ (.inl hMj.sp)
    by_cases e1 : j = i
    · by_cases e2 : l = i
      · rw [e1, e2]
      · simp only [e1, e2, if_true, if_false, Option.some.injEq] at hj hl
        subst hj
        have := hlt' l _ hl
        omega
    · by_cases e2 : l = i
      · simp only [e1, e2, if_true, if_false, Option.some.injEq] at hj hl
        subst hl
        have := hlt' j _ hj
        omega
      · simp only [e1, e2, if_false] at hj hl
        exact h.inj j l q hj hl
  · by_cases e1 : j = i
    · by_cases e2 : l = i
      · rw [e1, e2]
      · simp only [e1, e2, if_true, if_false] at hl e
        have := hGlt l hl
        omega
    · by_cases e2 : l = i
      · simp only [e1, e2, if_true, if_false] at hj e
        have := hGlt j hj
        omega
      · simp only [e1, e2, if_false] at hj hl e
        exact h.injG j l hj hl e
  · rw [hle]
    omega
/-- The same message is stored once more. -/
theorem BoxC.remap {w w' : World} {x B n : Nat} {r : Int} {D : DataW Unit} {f : Nat → Option Nat} {G : Nat → Nat} {M : Bx} {S T : Nat → Prop} (h : BoxC w x r B D f G n M S T) {i p n' : Nat} (hf : f i = some p)
    (hs : ∀ k, k < w.heap.size → k ≠ B → w'.heap[k]? = w.heap[k]?) (hz : w.heap.size ≤ w'.heap.size) (hm : w'.ownsMap Try.prog 22 ptrElem B n' (D.put (.int .u64 i) (.lit (.int .u64 p)))) :
    ∃ D2, BoxC w' x r B D2 f G n M S T := by
  have hok := h.ok.put i p
  have hfe : (fun y => if y = i then some p else f y) = f := by
    funext y
    by_cases e : y = i
    · simp [e, hf]
    · simp [e]
  have hne : (if (f i).isSome = true then n else n + 1) = n := by rw [hf]; rfl
  rw [hfe, hne] at hok
  refine ⟨_, (hs x (h.lt x (.inl h.sx)) ?_).trans h.head, hok.size' ▸ ownsMap_tight hm, hok, h.none', fun j q hj => ?_, h.inj, h.injG, h.sx, h.sb, fun k hk => Nat.lt_of_lt_of_le (h.lt k hk) hz, h.dis, h.room, h.full⟩
  · obtain ⟨es, clock, hb, -⟩ := h.map
    intro e
    have := h.head
    rw [e, hb] at this; cases this
  · obtain ⟨mj, hmj, hMj⟩ := h.some' j q hj
    obtain ⟨k1, k2, k3, k4, k5, k6⟩ := h.kinds hj
    exact ⟨mj, hmj, hMj.stay (hs _ (h.lt _ (.inl hMj.sp)) k2) (hs _ (h.lt _ (.inl hMj.sg)) k4) (fun k hk => hs k (h.lt k (.inr hk)) (fun e2 => h.dis k hk (e2 ▸ h.sb)))⟩
theorem row_at1 {w w' : World} {base e n k cap g : Nat} {vs : List Value} (h : w.ownsRow base e 1 (.slice (some ⟨g, 0, none⟩) n cap) k vs) (hg : w'.heap[g]? = w.heap[g]?) : w'.ownsRow base e 1 (.slice (some ⟨g, 0, none⟩) n cap) k vs :=
  row_at h (fun k e => by
    obtain rfl : g = k := by simpa [Value.ownBlock] using e
    exact hg)
theorem Keep.drew {S : Nat → Prop} {a b : World} (h : Keep S a b) : Keep S a b.drew := ⟨h.os, h.tape, h.output, h.size, h.block⟩
theorem map_at {w w' : World} {B n : Nat} {D : DataW Unit} (h : w.ownsMap Try.prog 22 ptrElem B n D) (hb : w'.heap[B]? = w.heap[B]?) : w'.ownsMap Try.prog 22 ptrElem B n D := by
  obtain ⟨es, clock, h1, rest⟩ := h
  exact ⟨es, clock, hb.trans h1, rest⟩
theorem row_ge {w : World} {base e n k cap g : Nat} {vs : List Value} (h : w.ownsRow base e 1 (.slice (some ⟨g, 0, none⟩) n cap) k vs) : base ≤ g := by
  rcases h.2 with ⟨e, _⟩ | ⟨g', c', cur, e, hb, _⟩
  · cases e
  · cases e; exact hb
theorem row_lt {w : World} {base e n k cap g : Nat} {vs : List Value} (h : w.ownsRow base e 1 (.slice (some ⟨g, 0, none⟩) n cap) k vs) : g < w.heap.size := by
  rcases h.2 with ⟨e, _⟩ | ⟨g', c', cur, e, _, hb', _⟩
  · cases e
  · cases e
    exact (Array.getElem?_eq_some_iff.1 hb').1
theorem row_set {w : World} {g n cap a : Nat} {vs : List Value} {v : Value} {e : TypeId} (h : w.ownsRow 0 e 1 (.slice (some ⟨g, 0, none⟩) n cap) n vs) (ha : a < n) : (w.setCell ⟨g, a, none⟩ v).ownsRow 0 e 1 (.slice (some ⟨g, 0, none⟩) n cap) n (vs.set a v) := by
  obtain ⟨hx, h⟩ := h
  refine ⟨by rw [List.length_set]; exact hx, .inr ?_⟩
  rcases h with ⟨e, _⟩ | ⟨g', cap', cur, e1, _, hb, h1, h2, h3, h4⟩
  · cases e
  · cases e1
    refine ⟨g, cap, cur.setIfInBounds a v, rfl, Nat.zero_le _, heap_set4 hb a v, h1, h2, by rw [Array.size_setIfInBounds]; exact h3, ?_⟩
    rw [← h4, Array.toList_setIfInBounds, Nat.mul_one]
    apply List.ext_getElem?
    intro k
    by_cases hk : k < n
    · rw [List.getElem?_take_of_lt hk, List.getElem?_set, List.getElem?_set, List.length_take, List.getElem?_take_of_lt hk]
      have hl : cur.toList.length = cap := by simpa using h3
      rw [hl]
      by_cases e : a = k
      · subst e
        rw [if_pos rfl, if_pos rfl, if_pos (by omega), if_pos (by omega)]
      · rw [if_neg e, if_neg e]
    · rw [List.getElem?_eq_none (by rw [List.length_take]; omega), List.getElem?_eq_none (by rw [List.length_set, List.length_take]; omega)]
theorem pcat_set {l : List (Option (List Int))} {a : Nat} {d : List Int} (ha : a < l.length) (hn : l.getD a none = none) : ((l.set a (some d)).map fun o => o.getD []).flatten.length = (l.map fun o => o.getD []).flatten.length + d.length := by
  induction l generalizing a with
  | nil => simp at ha
  | cons y r ih =>
    cases a with
    | zero =>
      have : y = none := by simpa using hn
      subst this
      simp; omega
    | succ a =>
      have h1 := ih (a := a) (by simpa using ha) (by simpa using hn)
      simp only [List.set_cons_succ, List.map_cons, List.flatten_cons, List.length_append] at h1 ⊢
      omega
theorem MsgB.fill {X : World} {S T : Nat → Prop} {p g cap : Nat} {m : Msg} {pc : Pc} {LF BY : Int} {vs : List Value} (hhead : X.heap[p]? = some (.cells #[.slice (some ⟨g, 0, none⟩) m.l.length cap, .int .i64 LF, .int .i64 BY] 127 (0, 0)))
    (hL : (m.left : Int) - 1 = LF) (hB : (m.by' : Int) + pc.d.length = BY) (hrow : X.ownsRow 0 23 1 (.slice (some ⟨g, 0, none⟩) m.l.length cap) m.l.length vs) (hpls : PlsV X T vs (m.l.set pc.pl (some pc.d))) (sp : S p) (sg : S g)
    (hn : m.l.length ≤ 4096) (hlt : 0 < LF ∧ LF ≤ 4096) (hby : BY ≤ 131072) (hcat : (pcat m).length = m.by') (ha : pc.pl < m.l.length) (hno : m.l.getD pc.pl none = none) : MsgB X S T p g (m.fill pc) := by
  have e1 : (m.fill pc).l.length = m.l.length := by simp [Msg.fill]
  have e2 : (((m.fill pc).left : Nat) : Int) = LF := by show (((m.left - 1 : Nat)) : Int) = LF; omega
  have e3 : (((m.fill pc).by' : Nat) : Int) = BY := by show (((m.by' + pc.d.length : Nat)) : Int) = BY; omega
  refine ⟨⟨cap, vs, ?_, ?_, hpls⟩, sp, sg, by rw [e1]; exact hn, ⟨by omega, by omega⟩, by omega, ?_⟩
  · rw [e1, e2, e3]; exact hhead
  · rw [e1]; exact hrow
  · show (pcat { l := m.l.set pc.pl (some pc.d), left := m.left - 1, by' := m.by' + pc.d.length }).length = m.by' + pc.d.length
    unfold pcat at hcat ⊢
    rw [pcat_set ha hno, hcat]
theorem bsV_of {w : World} {T : Nat → Prop} {g cap : Nat} {vs : List Value} {l : List (Option (List Int))} (hr : w.ownsRow 0 23 1 (.slice (some ⟨g, 0, none⟩) l.length cap) l.length vs) (hp : PlsV w T vs l) : BsV w (.slice (some ⟨g, 0, none⟩) l.length cap) (l.map fun o => o.getD []) := by
  refine ⟨g, cap, vs, by simp, by simpa using hr, fun k hk => ?_⟩
  rw [List.length_map] at hk
  obtain ⟨v, h1, h2⟩ := hp.2 k hk
  refine ⟨v, h1, ?_⟩
  have e : (l.map fun o => o.getD []).getD k [] = (l.getD k none).getD [] := by
    rw [List.getD_eq_getElem?_getD, List.getD_eq_getElem?_getD, List.getElem?_map, List.getElem?_eq_getElem hk]; rfl
  rw [e]
  cases hd : l.getD k none with
  | none => rw [hd] at h2; rw [show v = .slice none 0 0 from h2]; exact bytV_nil w
  | some d => rw [hd] at h2; exact h2.1
end Go.Proofs.Ytjelfiljebamgaa
