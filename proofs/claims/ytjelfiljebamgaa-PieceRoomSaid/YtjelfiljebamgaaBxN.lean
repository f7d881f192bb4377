/-
  Chapter 21: a box among other blocks that stay.
-/
import Derived.Test.YtjelfiljebamgaaBxM
namespace Go.Proofs.Ytjelfiljebamgaa
open Go.RowKit Go.Shelf Go.Maps
set_option linter.unusedVariables false
set_option linter.unusedSimpArgs false

/-- A box; Q's blocks are none of those that it writes. -/
def BxSt (w : World) (Q : Nat → Prop) (x : Nat) (r : Int) (M : Bx) : Prop := ∃ S T, BoxB w x r M S T ∧ ∀ k, Q k → ¬ S k ∧ k < w.heap.size ∧ ¬ T k
abbrev Hold (Q : Nat → Prop) (w w' : World) : Prop := Keep (fun k => ¬ Q k) w w'
theorem Hold.at_ {Q : Nat → Prop} {w w' : World} (h : Hold Q w w') {k : Nat} {o : Obj} (hk : w.heap[k]? = some o) (hq : Q k) : w'.heap[k]? = some o := Keep.at_ h hk (fun hn => hn hq)
theorem Hold.bytV {Q : Nat → Prop} {w w' : World} (h : Hold Q w w') {v : Value} {L : List Int} (hv : BytV w v L) (hi : In v Q) : BytV w' v L := Keep.bytV h hv (hi.mono (fun g hg hn => hn hg))
theorem Hold.below {Q : Nat → Prop} {w w' X : World} (h : Hold Q w w') (hl : Later X w) (hq : ∀ k, k < X.heap.size → Q k) : Later X w' :=
  h.later hl (fun k hk => Nat.not_lt.1 (fun hlt => hk (hq k hlt)))
theorem Hold.row {Q : Nat → Prop} {w w' : World} (h : Hold Q w w') {base e k : Nat} {v : Value} {xs : List Value} (hr : w.ownsRow base e 1 v k xs) (hq : ∀ g, v.ownBlock = some g → Q g) : w'.ownsRow base e 1 v k xs := by
  refine row_at hr (fun g hg => ?_)
  rcases hr.2 with ⟨rfl, _⟩ | ⟨g', c', cur, rfl, _, hb, _⟩
  · cases hg
  · obtain rfl : g' = g := by simpa [Value.ownBlock] using hg
    exact (h.at_ hb (hq _ hg)).trans hb.symm
theorem Hold.mono {Q Q' : Nat → Prop} {w w' : World} (h : Hold Q w w') (hq : ∀ k, Q' k → Q k) : Hold Q' w w' := Keep.mono h (fun k _ hn hk => hn (hq k hk))
theorem BxSt.later {w w' : World} {Q : Nat → Prop} {x : Nat} {r : Int} {M : Bx} (h : BxSt w Q x r M) (hl : Later w w') : BxSt w' (fun k => Q k ∨ (w.heap.size ≤ k ∧ k < w'.heap.size)) x r M := by
  obtain ⟨S, T, hb, hq⟩ := h
  refine ⟨S, T, hb.later hl, fun k hk => ?_⟩
  rcases hk with hk | ⟨h1, h2⟩
  · exact ⟨(hq k hk).1, Nat.lt_of_lt_of_le (hq k hk).2.1 hl.size, (hq k hk).2.2⟩
  · exact ⟨fun hs => by have := hb.lt (.inl hs); omega, h2, fun hs => by have := hb.lt (.inr hs); omega⟩
theorem BxSt.mono {w : World} {Q Q' : Nat → Prop} {x : Nat} {r : Int} {M : Bx} (h : BxSt w Q x r M) (hq : ∀ k, Q' k → Q k) : BxSt w Q' x r M := by
  obtain ⟨S, T, hb, h2⟩ := h
  exact ⟨S, T, hb, fun k hk => h2 k (hq k hk)⟩
theorem BxSt.cnt {w : World} {Q : Nat → Prop} {x : Nat} {r : Int} {M : Bx} (h : BxSt w Q x r M) : ∃ n, Cnt M n ∧ (n : Int) ≤ r := by
  obtain ⟨S, T, ⟨B, D, f, G, n, hb⟩, _⟩ := h
  exact ⟨n, hb.count, hb.full⟩
/-- Blocks are written, none of the box's. -/
theorem BxSt.other {w w' : World} {Q : Nat → Prop} {x : Nat} {r : Int} {M : Bx} {A : Nat → Prop} (h : BxSt w Q x r M) (hk : Keep A w w') (hA : ∀ k, k < w.heap.size → A k → Q k) : BxSt w' Q x r M := by
  obtain ⟨S, T, hb, hq⟩ := h
  exact ⟨S, T, hb.keep hk (fun k hs hAk => by
    have h1 := hq k (hA k (hb.lt hs) hAk)
    exact hs.elim h1.1 h1.2.2), fun k hq' => ⟨(hq k hq').1, Nat.lt_of_lt_of_le (hq k hq').2.1 hk.size, (hq k hq').2.2⟩⟩
theorem new_st (r : Int) (W : World) (hr : 1 ≤ r ∧ r ≤ 64) :
    Calls Try.prog 20 #[.int .i64 r] W fun e w' => ∃ x, e = .returned (.tuple #[wp x, .int .i64 0]) ∧ BxSt w' (fun k => k < W.heap.size) x r (fun _ => none) ∧ Later W w' :=
  (new_yes r W hr).mono (fun e w' ⟨x, S, he, hb, hs, hl⟩ => ⟨x, he, ⟨S, _, hb, fun k hk => ⟨fun h => by have := hs k h; omega, Nat.lt_of_lt_of_le hk hl.size, fun h => h⟩⟩, hl⟩)
theorem put_st {w : World} {Q : Nat → Prop} {x : Nat} {r : Int} {M M' : Bx} {u : Value} {b out : List Int} {is : Bool} {er : Int} {n : Nat} {pc : Pc} (h : BxSt w Q x r M) (hu : BytV w u b) (hb : b.length ≤ 1000000) (hok : RdOk b) (hpc : pcOf b = pc) (hn : Cnt M n) (hv : pput M n r pc = (out, is, er, M')) :
    Calls Try.prog 32 #[wp x, u] w fun e w' => ∃ v, e = .returned (.tuple #[v, .bool is, .int .i64 er]) ∧ BxSt w' (fun k => Q k ∨ v.ownBlock = some k) x r M' ∧ Hold Q w w' ∧ w'.ownsRow w.heap.size 5 1 v out.length (encB out) := by
  obtain ⟨S, T, hbx, hq⟩ := h
  refine (put_any u b x r M S T w hbx hu hb).mono ?_
  rintro e w' ⟨h1, -⟩
  obtain ⟨n', hn', v, is', er', out', M2, rfl, hp, hL⟩ := h1 hok
  rw [hn'.unique hn, hpc, hv] at hp
  obtain ⟨rfl, rfl, rfl, rfl⟩ : out = out' ∧ is = is' ∧ er = er' ∧ M' = M2 := by
    have e1 := congrArg Prod.fst hp
    have e2 := congrArg (fun z => z.2.1) hp
    have e3 := congrArg (fun z => z.2.2.1) hp
    have e4 := congrArg (fun z => z.2.2.2) hp
    exact ⟨e1, e2, e3, e4⟩
  obtain ⟨S', T', hb', hS', hT', hv'⟩ := hL.box
  refine ⟨v, rfl, ⟨S', T', hb', fun k hk => ?_⟩, hL.keep.mono (fun k hk hs hQ => (hq k hQ).1 hs), hL.row⟩
  rcases hk with hk | hk
  · refine ⟨fun hs => ?_, Nat.lt_of_lt_of_le (hq k hk).2.1 hL.keep.size, fun hs => ?_⟩
    · rcases hS' k hs with h2 | h2
      · exact (hq k hk).1 h2
      · have := (hq k hk).2.1; omega
    · rcases hT' k hs with h2 | h2
      · exact (hq k hk).2.2 h2
      · have := (hq k hk).2.1; omega
  · refine ⟨(hv' k hk).1, ?_, (hv' k hk).2⟩
    rcases hL.row.2 with ⟨rfl, _⟩ | ⟨g', c', cur, rfl, _, hg, _⟩
    · cases hk
    · obtain rfl : g' = k := by simpa [Value.ownBlock] using hk
      exact (Array.getElem?_eq_some_iff.1 hg).1
theorem missing_st {w : World} {Q : Nat → Prop} {x : Nat} {r : Int} {M : Bx} (i : Nat) (hi : i < 18446744073709551616) (h : BxSt w Q x r M) :
    Calls Try.prog 28 #[wp x, .int .u64 i] w fun e w' => ∃ v, e = .returned v ∧ w'.ownsRow w.heap.size 3 1 v (missB M i).length (encN (missB M i)) ∧ Later w w' := by
  obtain ⟨S, T, hbx, hq⟩ := h
  exact missing_any i x r M S T w hbx hi
theorem held_st {w : World} {Q : Nat → Prop} {x : Nat} {r : Int} {M : Bx} (h : BxSt w Q x r M) {ks : List Nat} (hn : ks.Nodup) (hk : ∀ i, i ∈ ks ↔ (M i).isSome = true) :
    Calls Try.prog 26 #[wp x] w fun e w' => e = .returned (.int .i64 (sumM M ks : Nat)) ∧ Later w w' := by
  obtain ⟨S, T, hbx, hq⟩ := h
  refine (held_any x r M S T w hbx).mono ?_
  rintro e w' ⟨ls, h1, h2, rfl, hl⟩
  have : sumM M ls = sumM M ks := by
    unfold sumM
    exact (((List.perm_ext_iff_of_nodup h1 hn).2 (fun i => by rw [h2, hk])).map (byM M)).sum_nat
  exact ⟨by rw [this], hl⟩
theorem open_st {w : World} {Q : Nat → Prop} {x : Nat} {r : Int} {M : Bx} (h : BxSt w Q x r M) (hM : ∀ i, M i = none) :
    Calls Try.prog 23 #[wp x] w fun e w' => e = .returned (.slice none 0 0) ∧ Later w w' := by
  obtain ⟨S, T, hbx, hq⟩ := h
  exact open_empty x r M S T w hbx hM
/-- A piece's bytes are read as it. -/
theorem pc_of_wr {id at_ of : Int} {D : List Int} (h : May id at_ of D.length) (hid : 0 ≤ id) : RdOk (wrL id at_ of D) ∧ pcOf (wrL id at_ of D) = ⟨id.toNat, at_.toNat, of.toNat, D⟩ := by
  obtain ⟨h1, h2, h3, h4, h5⟩ := read_write h hid
  refine ⟨h1, ?_⟩
  unfold pcOf
  obtain ⟨m1, m2, m3, m4, m5, m6⟩ := h
  have e1 : (rd1 (wrL id at_ of D)).1 = id.toNat := by omega
  have e2 : (rd3 (wrL id at_ of D)).1 = at_.toNat := by omega
  have e3 : (rd2 (wrL id at_ of D)).1 + 1 = of.toNat := by omega
  rw [e1, e2, e3, h5]
end Go.Proofs.Ytjelfiljebamgaa
