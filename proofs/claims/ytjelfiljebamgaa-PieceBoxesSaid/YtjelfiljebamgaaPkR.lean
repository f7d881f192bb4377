/-
  A range over a function whose iterator keeps a variable of its own in a block q (a captured loop variable that it turns between two rounds).
-/
import Derived.RangeFuncNested
import Derived.RangeFuncBound
import Derived.Test.YtjelfiljebamgaaBox
namespace Go.Proofs.Ytjelfiljebamgaa
open Go.RowKit Go.Shelf
set_option linter.unusedVariables false
set_option linter.unusedSimpArgs false

/-- J abides what such an iterator does: walks' objects laid since B, and its own block q, are turned. -/
def AbidesQ {β : Type} (B q : Nat) (J : β → World → Prop) : Prop := AbidesFrom B J ∧ ∀ s X u, J s X → J s (X.setCell ⟨q, 0, none⟩ u)
/-- I abides that, and the machine's own book-keeping. -/
def OwnQ {β : Type} (B q : Nat) (I : β → World → Prop) : Prop := OwnFrom B I ∧ ∀ s X u, I s X → I s (X.setCell ⟨q, 0, none⟩ u)
theorem OwnQ.and {β : Type} {B q : Nat} {I I' : β → World → Prop} (h : OwnQ B q I) (k : OwnQ B q I') : OwnQ B q (fun s W => I s W ∧ I' s W) := ⟨h.1.and k.1, fun s X u hs => ⟨h.2 s X u hs.1, k.2 s X u hs.2⟩⟩
/-- The contract of such an iterator. -/
def SeqQ {α : Type} (F : Fence) (n : Nat) (P : Program) (g : Nat) (lb : Array Value) (encs : α → Array Value) (q : Nat) (Kp : World → World → Prop) (S Sp : List α → Prop) (N : Nat) (w : World) : Prop :=
  ∀ (l : Nat) (J Jx : List α → World → Prop) (W : World), Below w.heap.size w W → AbidesQ W.heap.size q J → AbidesQ W.heap.size q Jx →
    (∀ pre x W1, J pre W1 → pre.length < N → YieldAt F (n - 1) P l (encs x) W1 fun e W' =>
      (e = .returned (.bool true) ∧ J (pre ++ [x]) W' ∧ Kp W1 W') ∨ (e = .returned (.bool false) ∧ Jx (pre ++ [x]) W')) →
    J [] W →
    CallsIn F n P g (#[.func (.yield l) #[] #[]] ++ lb) W fun e W' => (∃ v, e = .returned v) ∧ ((∃ xs, S xs ∧ J xs W') ∨ (∃ pre, Sp pre ∧ Jx pre W'))
/-- A block that is no walk's stands. -/
theorem stands_w {B : Nat} {X Y : World} {row : Option Nat} (hg : X.grownBy Y row) (hr : ∀ r, row = some r → B ≤ r ∧ ∃ o : Obj, X.heap[r]? = some o ∧ o.isWalk = true) {k : Nat} {o : Obj} (hk : X.heap[k]? = some o) (ho : o.isWalk = false) : Y.heap[k]? = some o :=
  (hg.block k (Array.getElem?_eq_some_iff.1 hk).1 (fun e => by
    obtain ⟨_, o', h1, h2⟩ := hr k e.symm
    rw [hk] at h1; cases h1; rw [ho] at h2; cases h2)).trans hk

variable {F : Fence} {n : Nat} {P : Program}
theorem wpIn_rangeFunc_q {α : Type} {g : Operand} {ps : Array Tmp} {assign body : Code} {Q : Exit → Act → World → Prop} {a : Act} {w : World}
    (hro : F.round = none) (h1 : 1 ≤ n) {gf : Nat} {lb : Array Value} (hg : a.eval g = .func (.func gf) #[] lb) (hFg : F.fn gf) (eg : ∀ args w, (callFunc gf args).run P w = .ok (.enter gf args) w)
    {encs : α → Array Value} {q : Nat} {Kp : World → World → Prop} {S Sp : List α → Prop} {N : Nat} {w0 : World} (hseq : SeqQ F (n - 1) P gf lb encs q Kp S Sp N w0) (hq : q < w.heap.size)
    (hKt : ∀ {A B C : World}, Kp A B → Kp B C → Kp A C) (hKb : ∀ (W : World) (l : Nat) (o o' : Obj), w.heap.size ≤ l → W.heap[l]? = some o → o.isCells = false → o.isWalk = false → Kp W (W.putObj l o'))
    (hb0 : Below w0.heap.size w0 w) (hps : ∀ x, (encs x).size = ps.size)
    (I : List α → World → Prop) (Ix : Code → List α → World → Prop) (hI : OwnQ w.heap.size q I) (hIx : ∀ c, OwnQ w.heap.size q (Ix c)) (h0 : I [] w) (a₁ : α → Act)
    (hassign : ∀ (l : Nat) (x : α) (W : World) (K : Act → World → Prop), K (a₁ x) W →
      assign.wpIn (F.inRound l) (n - 1 - 1) P (Exit.then K (fun _ _ _ => False)) { tmps := (ps.zip (encs x)).foldl (fun t (p, v) => t.setIfInBounds p v) a.tmps, defers := [] } W)
    (hbody : ∀ (l : Nat) (pre : List α) (x : α) (W : World), I pre W → pre.length < N → body.wpIn (F.inRound l) (n - 1 - 1) P (ownPostG w.heap.size Kp I Ix (pre ++ [x]) W) (a₁ x) W)
    (hdone : ∀ (D : Nat) (xs : List α) (W : World), w.heap.size ≤ D → S xs → I xs W → W.heap[D]? = some (.deferred (some [])) → Q .normal { a with defers := { target := .collected D, args := #[] } :: a.defers } W)
    (hstop : ∀ (D : Nat) (c : Code) (pre : List α) (W : World), w.heap.size ≤ D → Sp pre → Ix c pre W → W.heap[D]? = some (.deferred (some [])) → c.wpIn F n P Q { a with defers := { target := .collected D, args := #[] } :: a.defers } W) :
    (Code.rangeFunc g ps assign body).wpIn F n P Q a w := by
  refine wpIn_rangeFunc ?_
  intro fn hfn
  rw [hro]
  obtain ⟨D, hD⟩ : ∃ D, D = w.heap.size := ⟨_, rfl⟩
  obtain ⟨lp, hlp⟩ : ∃ lp : LoopState → Option Code → Loop, lp = fun st pe => { state := st, pending := pe, fn, tmps := a.tmps, params := ps, assign, body, defers := w.heap.size } := ⟨_, rfl⟩
  obtain ⟨V, hV⟩ : ∃ V, V = (w.alloc (.deferred (some []))).alloc (.loop (lp .ready none)) := ⟨_, rfl⟩
  -- what lies at the two blocks of book-keeping
  obtain ⟨Bk, hBk⟩ : ∃ Bk : Loop → World → Prop, Bk = fun r W => W.heap[D + 1]? = some (.loop r) ∧ W.heap[D]? = some (.deferred (some [])) := ⟨_, rfl⟩
  have bk0 : Bk (lp .ready none) V := by
    rw [hBk, hV, hD]
    refine ⟨?_, (Below.heap_alloc _ _ _ (by simp)).trans (World.alloc_heap_new w _)⟩
    have := World.alloc_heap_new (w.alloc (.deferred (some []))) (.loop (lp .ready none)); rwa [World.size_alloc] at this
  have bk_put : ∀ {r : Loop} {W : World} (r' : Loop), Bk r W → Bk r' (W.putObj (D + 1) (.loop r')) := fun r' h => by
    rw [hBk] at h ⊢
    exact ⟨World.putObj_heap_same (Array.getElem?_eq_some_iff.1 h.1).1, (World.putObj_heap_other (by omega)).trans h.2⟩
  have bk_w : ∀ {r : Loop} {X Y : World} {row : Option Nat}, Bk r X → X.grownBy Y row → (∀ r, row = some r → V.heap.size ≤ r ∧ ∃ o : Obj, X.heap[r]? = some o ∧ o.isWalk = true) → Bk r Y := fun h hg hr => by
    rw [hBk] at h ⊢
    exact ⟨stands_w hg hr h.1 rfl, stands_w hg hr h.2 rfl⟩
  have bk_q : ∀ {r : Loop} {X : World} (u : Value), Bk r X → Bk r (X.setCell ⟨q, 0, none⟩ u) := fun u h => by
    rw [hBk] at h ⊢
    exact ⟨(Below.heap_setCell _ _ _ _ (by show D + 1 ≠ q; omega)).trans h.1, (Below.heap_setCell _ _ _ _ (by show D ≠ q; omega)).trans h.2⟩
  have bk_k : ∀ {r : Loop} {X Y : World}, Bk r X → KeepsFrom w.heap.size X Y → Bk r Y := fun h hk => by
    rw [hBk] at h ⊢
    exact ⟨hk.same _ _ (by omega) h.1 rfl, hk.same _ _ (by omega) h.2 rfl⟩
  have hVs : V.heap.size = D + 2 := by rw [hV, hD]; simp
  have hIV : I [] V := by rw [hV]; exact hI.1.alloc _ (hI.1.alloc _ h0)
  have hbV : Below w0.heap.size w0 V := by rw [hV]; exact hb0.trans ((((Below.refl _ w).alloc (Nat.le_refl _) _).alloc (by simp) _).mono hb0.size)
  have tm : ∀ {X : World} {row : Option Nat}, (∀ r, row = some r → V.heap.size ≤ r ∧ ∃ o : Obj, X.heap[r]? = some o ∧ o.isWalk = true) → (∀ r, row = some r → w.heap.size ≤ r ∧ ∃ o : Obj, X.heap[r]? = some o ∧ o.isCells = false) := fun hr r e => by
    obtain ⟨hB, o, ho, hw⟩ := hr r e
    exact ⟨by omega, o, ho, Obj.not_cells_of_walk hw⟩
  refine ⟨D + 1, [{ target := .collected D, args := #[] }], V, { target := .fn (.func gf) lb, args := #[.func (.yield (D + 1)) #[] #[]] }, V, gf, #[.func (.yield (D + 1)) #[] #[]] ++ lb, V, ?_, ?_, ?_, ?_, fun _ => h1, ?_⟩
  · rw [hV, hlp, hD]; exact run_enterLoop_outer _ _ _ _ _
  · simp only [resolve, hg]
    simp [go_sem]
  · intro f' hf'; simp [Target.leads] at hf'; subst hf'; exact hFg
  · simp [invoke, go_sem, eg]
  refine (hseq (D + 1) (fun pre W => I pre W ∧ Bk (lp .ready none) W) (fun pre W => ∃ c, Ix c pre W ∧ Bk (lp .done (some c)) W) V hbV
    ⟨fun s X Y row hs hg hr => ⟨hI.1 s X Y row hs.1 hg (tm hr), bk_w hs.2 hg hr⟩, fun s X u hs => ⟨hI.2 s X u hs.1, bk_q u hs.2⟩⟩
    ⟨fun s X Y row ⟨c, hs, hb⟩ hg hr => ⟨c, (hIx c).1 s X Y row hs hg (tm hr), bk_w hb hg hr⟩, fun s X u ⟨c, hs, hb⟩ => ⟨c, (hIx c).2 s X u hs, bk_q u hb⟩⟩ ?_ ⟨hIV, bk0⟩).mono ?_
  · rintro pre x W ⟨hi, hb⟩ hlen
    have hb' := hb
    rw [hBk] at hb'
    have hy := run_yield (P := P) (args := encs x) hb'.1 (by rw [hlp]; exact hps x)
    rw [hlp] at hy
    refine ⟨fn, _, assign, body, hy, roundIn_of_wpIn hfn (hassign _ x W _ ⟨_, run_beginRound hb'.1 (by rw [hlp]), ?_⟩)⟩
    have hbz := bk_put (lp .busy none) hb
    have hz : ({ lp .ready none with state := .busy } : Loop) = lp .busy none := by rw [hlp]
    rw [hz]
    have hkz : Kp W (W.putObj (D + 1) (.loop (lp .busy none))) := hKb _ _ _ _ (by omega) hb'.1 rfl rfl
    refine wpIn_mono (hbody _ pre x _ (hI.1.putObj _ hi (by omega) hb'.1 rfl) hlen) ?_
    have fin : ∀ (jump : Option Code) (W3 : World), KeepsFrom w.heap.size (W.putObj (D + 1) (.loop (lp .busy none))) W3 →
        (Instr.endRound (D + 1) jump).run P W3 = .ok (.bool jump.isNone) (W3.putObj (D + 1) (.loop (lp (if jump.isNone then .ready else .done) jump))) ∧
        W3.heap[D + 1]? = some (.loop (lp .busy none)) ∧ Bk (lp (if jump.isNone then .ready else .done) jump) (W3.putObj (D + 1) (.loop (lp (if jump.isNone then .ready else .done) jump))) := fun jump W3 hk3 => by
      have h3 := bk_k hbz hk3
      have h3' := h3
      rw [hBk] at h3'
      have := run_endRound (P := P) jump h3'.1
      rw [hlp] at this
      exact ⟨by rw [hlp]; exact this, h3'.1, bk_put _ h3⟩
    rintro e a3 W3 hp
    cases e with
    | normal =>
      obtain ⟨hk3, hkp3, hi3⟩ := hp
      obtain ⟨hr, hl3, hb3⟩ := fin none W3 hk3
      exact ⟨_, _, hr, .inl ⟨rfl, ⟨hI.1.putObj _ hi3 (by omega) hl3 rfl, hb3⟩, hKt (hKt hkz hkp3) (hKb _ _ _ _ (by omega) hl3 rfl rfl)⟩⟩
    | ret =>
      obtain ⟨hr, hl3, hb3⟩ := fin (some .ret) W3 hp.1
      exact ⟨_, _, hr, .inr ⟨rfl, .ret, (hIx _).1.putObj _ hp.2 (by omega) hl3 rfl, hb3⟩⟩
    | exit id =>
      obtain ⟨hr, hl3, hb3⟩ := fin (some (.exit id)) W3 hp.1
      exact ⟨_, _, hr, .inr ⟨rfl, .exit id, (hIx _).1.putObj _ hp.2 (by omega) hl3 rfl, hb3⟩⟩
    | goto t =>
      obtain ⟨hr, hl3, hb3⟩ := fin (some (.goto t)) W3 hp.1
      exact ⟨_, _, hr, .inr ⟨rfl, .goto t, (hIx _).1.putObj _ hp.2 (by omega) hl3 rfl, hb3⟩⟩
    | panic ch => exact hp.elim
    | outgrown => exact hp.elim
  · rintro e W2 ⟨⟨v, rfl⟩, (⟨xs, hS, hi, hb⟩ | ⟨pre, hSp, c, hi, hb⟩)⟩
    · rw [hBk] at hb
      have := run_endLoop (P := P) hb.1 (by rw [hlp]; simp)
      rw [hlp] at this
      exact ⟨none, _, this, by rw [hD]; rw [hD] at hb; exact hdone _ xs _ (Nat.le_refl _) hS (hI.1.putObj _ hi (by omega) hb.1 rfl) ((World.putObj_heap_other (by omega)).trans hb.2)⟩
    · rw [hBk] at hb
      have := run_endLoop (P := P) hb.1 (by rw [hlp]; simp)
      rw [hlp] at this
      exact ⟨some c, _, this, by rw [hD]; rw [hD] at hb; exact hstop _ c pre _ (Nat.le_refl _) hSp ((hIx c).1.putObj _ hi (by omega) hb.1 rfl) ((World.putObj_heap_other (by omega)).trans hb.2)⟩
end Go.Proofs.Ytjelfiljebamgaa
