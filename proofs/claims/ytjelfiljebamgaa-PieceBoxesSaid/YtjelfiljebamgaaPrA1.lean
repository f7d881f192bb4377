/-
  Chapter 21: Put of any bytes, into the box and into the document's; a box whose data another one shares.
  Chapter 21's law: bytes are put into both boxes.
  Chapter 21's document: where the bytes lie that its Write makes: in new memory.
  Chapter 21's law: a call of both boxes: Put of bytes, and of a piece.
-/
import Derived.Test.YtjelfiljebamgaaRfD1
import Derived.Test.YtjelfiljebamgaaRfF
import Derived.Test.YtjelfiljebamgaaBxK1
import Derived.Test.YtjelfiljebamgaaPcC
namespace Go.Proofs.Ytjelfiljebamgaa
open Go.RowKit Go.Shelf Go.Maps
set_option linter.unusedVariables false
set_option linter.unusedSimpArgs false

/-- What Put of any bytes answers. -/
def AIs (M : Bx) (n : Nat) (r : Int) (b out : List Int) (is : Bool) (er : Int) (M' : Bx) : Prop := (RdOk b ∧ pput M n r (pcOf b) = (out, is, er, M')) ∨ (¬ RdOk b ∧ out = [] ∧ is = false ∧ er = 210 ∧ M' = M)
def RIs (L : List Pc) (r : Int) (b out : List Int) (is : Bool) (er : Int) (L' : List Pc) : Prop := (RdOk b ∧ rput L r (pcOf b) = (out, is, er, L')) ∨ (¬ RdOk b ∧ out = [] ∧ is = false ∧ er = 210 ∧ L' = L)
theorem is_alike {L L' : List Pc} {M M' : Bx} {n : Nat} {r er er' : Int} {b out out' : List Int} {is is' : Bool} (h : BOk L M) (hn : Cnt M n) (ha : AIs M n r b out is er M') (hr : RIs L r b out' is' er' L') : out' = out ∧ is' = is ∧ er' = er ∧ BOk L' M' := by
  rcases ha with ⟨h1, h2⟩ | ⟨h1, rfl, rfl, rfl, rfl⟩
  · rcases hr with ⟨h3, h4⟩ | ⟨h3, _⟩
    · have hp : (pcOf b).pl < (pcOf b).of := by
        have := h1.2.2.2.2.2.1
        show (rd3 b).1 < (rd2 b).1 + 1
        omega
      have h5 := put_alike (r := r) h hn hp
      rw [h2, h4] at h5
      exact h5
    · exact absurd h1 h3
  · rcases hr with ⟨h3, h4⟩ | ⟨h3, rfl, rfl, rfl, rfl⟩
    · exact absurd h3 h1
    · exact ⟨rfl, rfl, rfl, h⟩
theorem put_stA {w : World} {Q : Nat → Prop} {x : Nat} {r : Int} {M : Bx} {u : Value} {b : List Int} {n : Nat} (h : BxSt w Q x r M) (hu : BytV w u b) (hb : b.length ≤ 1000000) (hn : Cnt M n) :
    Calls Try.prog 32 #[wp x, u] w fun e w' => ∃ (v : Value) (out : List Int) (is : Bool) (er : Int) (M' : Bx), AIs M n r b out is er M' ∧ e = .returned (.tuple #[v, .bool is, .int .i64 er]) ∧ BxSt w' (fun k => Q k ∨ v.ownBlock = some k) x r M' ∧ Hold Q w w' ∧ w'.ownsRow w.heap.size 5 1 v out.length (encB out) := by
  by_cases hok : RdOk b
  · obtain ⟨⟨out, is, er, M'⟩, hv⟩ : ∃ z, pput M n r (pcOf b) = z := ⟨_, rfl⟩
    refine (put_st h hu hb hok rfl hn hv).mono ?_
    rintro e w' ⟨v, he, h1, h2, h3⟩
    exact ⟨v, out, is, er, M', .inl ⟨hok, hv⟩, he, h1, h2, h3⟩
  · obtain ⟨S, T, hbx, hq⟩ := h
    refine (put_any u b x r M S T w hbx hu hb).mono ?_
    rintro e w' ⟨-, h1⟩
    obtain ⟨rfl, hl⟩ := h1 hok
    refine ⟨.slice none 0 0, [], false, 210, M, .inr ⟨hok, rfl, rfl, rfl, rfl⟩, rfl, ⟨S, T, hbx.later hl, fun k hk => ?_⟩, Keep.of_later hl, World.ownsRow_nil _ _ _ _⟩
    rcases hk with hk | hk
    · exact ⟨(hq k hk).1, Nat.lt_of_lt_of_le (hq k hk).2.1 hl.size, (hq k hk).2.2⟩
    · cases hk
def RefAll (W : World) (y : Nat) (r : Int) (P : List Pv) (Q : Nat → Prop) (b : List Int) (e : Ending) (w' : World) : Prop :=
  ∃ (v : Value) (out : List Int) (is : Bool) (er : Int) (P' : List Pv), RIs (pcs P) r b out is er (pcs P') ∧ e = .returned (.tuple #[v, .bool is, .int .i64 er]) ∧ w'.ownsRow W.heap.size 5 1 v out.length (encB out) ∧ PutTo W w' y r P' Q
theorem refput_all (u : Value) (b : List Int) (y : Nat) (r : Int) (P : List Pv) (Q : Nat → Prop) (W : World) (h : DB W y r P Q) (hn : P.length ≤ 999999) (hd : ∀ q ∈ P, q.1.d.length ≤ 1000) (hu : BytV W u b) (hb : b.length ≤ 1000000) (hQ : ∀ k, Q k → k < W.heap.size) :
    Calls Try.prog 88 #[wp y, u] W (RefAll W y r P Q b) := by
  by_cases hok : RdOk b
  · refine (refput_yes u b y r P Q W h hn hd hu hb hok hQ).mono ?_
    rintro e w' ⟨v, out, is, er, P', h1, h2, h3, h4⟩
    exact ⟨v, out, is, er, P', .inl ⟨hok, h1⟩, h2, h3, h4⟩
  · refine (refput_bad u b y W hu hb hok).mono ?_
    rintro e w' ⟨rfl, hl⟩
    exact ⟨.slice none 0 0, [], false, 210, P, .inr ⟨hok, rfl, rfl, rfl, rfl⟩, rfl, World.ownsRow_nil _ _ _ _, (h.later hl).mono (fun k hk => .inl hk), Keep.of_later hl⟩
/-- What is in the document's box then. -/
theorem RIs.sub {L L' : List Pc} {r er : Int} {b out : List Int} {is : Bool} (h : RIs L r b out is er L') : L'.length ≤ L.length + 1 ∧ ∀ q ∈ L', q ∈ L ∨ (RdOk b ∧ q = pcOf b) := by
  rcases h with ⟨h1, h2⟩ | ⟨h1, _, _, _, rfl⟩
  · have h3 := rput_sub L r (pcOf b)
    rw [h2] at h3
    exact ⟨h3.1, fun q hq => (h3.2 q hq).elim .inl (fun e => .inr ⟨h1, e⟩)⟩
  · exact ⟨Nat.le_succ _, fun q hq => .inl hq⟩
/-- A box, whatever is in it; Q's blocks are none of those that it writes. -/
def BxW (w : World) (Q : Nat → Prop) (x : Nat) (r : Int) : Prop := ∃ M S T, BoxB w x r M S T ∧ ∀ k, Q k → ¬ S k ∧ k < w.heap.size
theorem BxW.later {w w' : World} {Q : Nat → Prop} {x : Nat} {r : Int} (h : BxW w Q x r) (hl : Later w w') : BxW w' (fun k => Q k ∨ (w.heap.size ≤ k ∧ k < w'.heap.size)) x r := by
  obtain ⟨M, S, T, hb, hq⟩ := h
  refine ⟨M, S, T, hb.later hl, fun k hk => ?_⟩
  rcases hk with hk | ⟨h1, h2⟩
  · exact ⟨(hq k hk).1, Nat.lt_of_lt_of_le (hq k hk).2 hl.size⟩
  · exact ⟨fun hs => by have := hb.lt (.inl hs); omega, h2⟩
theorem BxW.mono {w : World} {Q Q' : Nat → Prop} {x : Nat} {r : Int} (h : BxW w Q x r) (hq : ∀ k, Q' k → Q k) : BxW w Q' x r := by
  obtain ⟨M, S, T, hb, h2⟩ := h
  exact ⟨M, S, T, hb, fun k hk => h2 k (hq k hk)⟩
theorem put_w {w : World} {Q : Nat → Prop} {x : Nat} {r : Int} {u : Value} {b : List Int} (h : BxW w Q x r) (hu : BytV w u b) (hb : b.length ≤ 1000000) :
    Calls Try.prog 32 #[wp x, u] w fun e w' => ∃ (v : Value) (is : Bool) (er : Int), e = .returned (.tuple #[v, .bool is, .int .i64 er]) ∧ BxW w' Q x r ∧ Hold Q w w' := by
  obtain ⟨M, S, T, hbx, hq⟩ := h
  refine (put_any u b x r M S T w hbx hu hb).mono ?_
  rintro e w' ⟨h1, h2⟩
  by_cases hok : RdOk b
  · obtain ⟨n', hn', v, is', er', out', M2, rfl, hp, hL⟩ := h1 hok
    obtain ⟨S', T', hb', hS', hT', hv'⟩ := hL.box
    refine ⟨v, is', er', rfl, ⟨M2, S', T', hb', fun k hk => ⟨fun hs => ?_, Nat.lt_of_lt_of_le (hq k hk).2 hL.keep.size⟩⟩, hL.keep.mono (fun k hk hs hQ => (hq k hQ).1 hs)⟩
    rcases hS' k hs with h3 | h3
    · exact (hq k hk).1 h3
    · have := (hq k hk).2; omega
  · obtain ⟨rfl, hl⟩ := h2 hok
    exact ⟨.slice none 0 0, false, 210, rfl, ⟨M, S, T, hbx.later hl, fun k hk => ⟨(hq k hk).1, Nat.lt_of_lt_of_le (hq k hk).2 hl.size⟩⟩, Keep.of_later hl⟩
theorem drop_w {w : World} {Q : Nat → Prop} {x : Nat} {r : Int} (i : Nat) (hi : i < 18446744073709551616) (h : BxW w Q x r) :
    Calls Try.prog 31 #[wp x, .int .u64 i] w fun e w' => ∃ er : Int, e = .returned (.int .i64 er) ∧ BxW w' Q x r ∧ Hold Q w w' := by
  obtain ⟨M, S, T, hbx, hq⟩ := h
  refine (drop_any i x r M S T w hbx hi).mono ?_
  rintro e w' h1
  rcases h1 with ⟨_, rfl, hb, hk⟩ | ⟨m, _, rfl, hb, hk⟩
  · exact ⟨210, rfl, ⟨_, S, T, hb, fun k hk' => ⟨(hq k hk').1, Nat.lt_of_lt_of_le (hq k hk').2 hk.size⟩⟩, hk.mono (fun k _ hs hQ => (hq k hQ).1 hs)⟩
  · exact ⟨0, rfl, ⟨_, S, T, hb, fun k hk' => ⟨(hq k hk').1, Nat.lt_of_lt_of_le (hq k hk').2 hk.size⟩⟩, hk.mono (fun k _ hs hQ => (hq k hQ).1 hs)⟩
/-- A call of the box that makes new memory alone, and blocks of others that turn. -/
theorem BxSt.turn {w w' : World} {Q : Nat → Prop} {x : Nat} {r : Int} {M : Bx} {A : Nat → Prop} (h : BxSt w Q x r M) (hk : Keep A w w') (hA : ∀ k, k < w.heap.size → A k → Q k) : BxSt w' (fun k => Q k ∨ (w.heap.size ≤ k ∧ k < w'.heap.size)) x r M := by
  obtain ⟨S, T, hb, hq⟩ := h
  refine ⟨S, T, hb.keep hk (fun k hs hAk => by
    have h1 := hq k (hA k (hb.lt hs) hAk)
    exact hs.elim h1.1 h1.2.2), fun k hk' => ?_⟩
  rcases hk' with hk' | ⟨h1, h2⟩
  · exact ⟨(hq k hk').1, Nat.lt_of_lt_of_le (hq k hk').2.1 hk.size, (hq k hk').2.2⟩
  · exact ⟨fun hs => by have := hb.lt (.inl hs); omega, h2, fun hs => by have := hb.lt (.inr hs); omega⟩
end Go.Proofs.Ytjelfiljebamgaa
namespace Go.Proofs.Ytjelfiljebamgaa
open Go.RowKit Go.Shelf Go.Maps
set_option linter.unusedVariables false
set_option linter.unusedSimpArgs false
attribute [local go_sem] Oper.semAt_some

theorem Byt.single (x : Int) (hx : 0 ≤ x ∧ x < 256) : Byt [x] := fun y hy => by rw [List.mem_singleton] at hy; rw [hy]; exact hx
theorem bytV_len {W : World} {a : Option Addr} {m q : Nat} {L : List Int} (h : BytV W (.slice a m q) L) : m = L.length ∧ m ≤ q := by
  obtain ⟨_, ao, cap, e, hc, _⟩ := h
  injection e with e1 e2 e3
  subst e1 e2 e3
  exact ⟨rfl, hc.1⟩
theorem own_sl {W : World} {base e k size : Nat} {v : Value} {xs : List Value} (h : W.ownsRow base e size v k xs) : ∃ m a q, v = .slice a m q := by
  obtain ⟨a, c, h⟩ := own_form h
  exact ⟨_, a, c, h⟩
theorem one_byte (W : World) (x : Int) (hx : 0 ≤ x ∧ x < 256) : BytV (W.alloc (.cells #[.int .u8 x] 5)) (.slice (some ⟨W.heap.size, 0, none⟩) 1 1) [x] := by
  refine ⟨fun y hy => by rw [List.mem_singleton] at hy; rw [hy]; exact hx, _, _, rfl, ⟨Nat.le_refl _, fun e => by cases e⟩, fun k hk => ⟨_, _, rfl, ?_⟩⟩
  have hk1 : k = 0 := by have : k < 1 := hk; omega
  subst hk1
  simp
/-- Bytes of what Put answers. -/
theorem RIs.byt {L L' : List Pc} {r er : Int} {b out : List Int} {is : Bool} (h : RIs L r b out is er L') (hL : ∀ q ∈ L, Byt q.d) (hb : Byt b) : Byt out ∧ ∀ q ∈ L', Byt q.d := by
  have hp : Byt (pcOf b).d := rd4_byt hb
  have hsub := h.sub
  refine ⟨?_, fun q hq => (hsub.2 q hq).elim (hL q) (fun e => by rw [e.2]; exact hp)⟩
  rcases h with ⟨h1, h2⟩ | ⟨h1, rfl, _⟩
  · have hnil : Byt [] := fun x hx => by simp at hx
    have h3 : out = (rput L r (pcOf b)).1 := by rw [h2]
    rw [h3]
    unfold rput
    split
    · exact hnil
    split
    · exact hnil
    split
    · exact hnil
    split
    · exact hnil
    · intro x hx
      show 0 ≤ x ∧ x < 256
      unfold dcat at hx
      rw [List.mem_flatten] at hx
      obtain ⟨l, hl, hx⟩ := hx
      obtain ⟨k, _, rfl⟩ := List.mem_map.1 hl
      rw [List.mem_flatten] at hx
      obtain ⟨l, hl, hx⟩ := hx
      obtain ⟨q, hq, rfl⟩ := List.mem_map.1 hl
      have hq := (List.mem_filter.1 hq).1
      rcases List.mem_append.1 hq with hq | hq
      · exact hL q (List.mem_filter.1 hq).1 x hx
      · obtain rfl : q = pcOf b := by simpa using hq
        exact hp x hx
  · intro x hx; simp at hx
/-- What all pieces of a box are. -/
def PcOk (P : List Pv) : Prop := ∀ q ∈ P, q.1.d.length ≤ 880 ∧ q.1.of ≤ 4096 ∧ q.1.id < 18446744073709551616
theorem RIs.ok {P P' : List Pv} {r er : Int} {b out : List Int} {is : Bool} (h : RIs (pcs P) r b out is er (pcs P')) (hP : PcOk P) : P'.length ≤ P.length + 1 ∧ PcOk P' := by
  obtain ⟨h1, h2⟩ := h.sub
  refine ⟨by simpa [pcs] using h1, fun q hq => ?_⟩
  rcases h2 q.1 (List.mem_map_of_mem hq) with h3 | ⟨h3, h4⟩
  · obtain ⟨q', hq', e⟩ := List.mem_map.1 h3
    have := hP q' hq'
    rw [e] at this
    exact this
  · rw [h4]
    obtain ⟨_, m1, m2, m3, m4, m5, m6⟩ := h3
    refine ⟨m6, ?_, ?_⟩
    · show (rd2 b).1 + 1 ≤ 4096; omega
    · show (rd1 b).1 < _; omega
theorem U8s.stay {W W' : World} {base n : Nat} {v : Value} (h : U8s W base v n) (hs : ∀ g, v.ownBlock = some g → g < W.heap.size → W'.heap[g]? = W.heap[g]?) : U8s W' base v n := by
  rcases h with h | ⟨g, cap, c, rfl, hb, hg, hc⟩
  · exact .inl h
  · exact .inr ⟨g, cap, c, rfl, hb, (hs g rfl (Array.getElem?_eq_some_iff.1 hg).1).trans hg, hc⟩
theorem BxSt.lt {w : World} {Q : Nat → Prop} {x : Nat} {r : Int} {M : Bx} (h : BxSt w Q x r M) {k : Nat} (hk : Q k) : k < w.heap.size := by
  obtain ⟨S, T, hb, hq⟩ := h
  exact (hq k hk).2.1
theorem row_max {w : World} {base e n k : Nat} {v : Value} {xs : List Value} (h : w.ownsRow base e n v k xs) : k ≤ maxLen := by
  rcases h.2 with ⟨_, h0⟩ | ⟨g, cap, cur, _, _, _, h1, h2, _⟩
  · omega
  · exact Nat.le_trans h1 h2
structure PairTo (W w' : World) (x y : Nat) (r : Int) (n : Nat) (Q Qy : Nat → Prop) : Prop where
  ex : ∃ (Q' Qy' : Nat → Prop) (M' : Bx) (P' : List Pv), BxSt w' Q' x r M' ∧ DB w' y r P' Qy' ∧ (∀ k, Qy' k → Q' k) ∧ BOk (pcs P') M' ∧ P'.length ≤ n ∧ PcOk P' ∧ (∀ k, Q k → Q' k) ∧ (∀ k, Qy' k → Qy k ∨ W.heap.size ≤ k)
  keep : Keep (fun k => Qy k ∨ ¬ Q k) W w'
set_option maxRecDepth 100000 in
set_option maxHeartbeats 2000000 in
theorem put_pair (x y : Nat) (r : Int) (M : Bx) (P : List Pv) (Q Qy : Nat → Prop) (u : Value) (b : List Int) (W : World) (hbx : BxSt W Q x r M) (hdb : DB W y r P Qy) (hQy : ∀ k, Qy k → Q k) (hok : BOk (pcs P) M) (hn : P.length ≤ 1000) (hP : PcOk P) (hu : BytV W u b) (hi : In u (fun k => Q k ∧ ¬ Qy k)) (hb : b.length ≤ 2000) :
    Calls Try.prog 60 #[wp x, wp y, u] W fun e w' => e = .returned (.bool true) ∧ PairTo W w' x y r (P.length + 1) Q Qy := by
  obtain ⟨aB, cB, rfl⟩ := bytV_form hu
  obtain ⟨nB, hnB⟩ : ∃ n, Hid (b.length = n) := ⟨_, Lib.hid rfl⟩
  rw [hnB.out] at hu hi ⊢
  have hv0 := Lib.hid hu
  replace hi := Lib.hid hi
  have hlb : b.length ≤ 2000 := hb
  rw [hnB.out] at hb
  have hPl : ∀ q ∈ P, q.1.d.length ≤ 1000 := fun q hq => Nat.le_trans (hP q hq).1 (by decide)
  have hPb : Hid (∀ q ∈ pcs P, Byt q.d) := Lib.hid (fun q hq => by
    obtain ⟨q', hq', rfl⟩ := List.mem_map.1 hq
    obtain ⟨v, base, _, _, _, _, _, hd⟩ := hdb
    exact (hd q' hq').1.1)
  replace hPl := Lib.hid hPl
  replace hP := Lib.hid hP
  replace hQy := Lib.hid hQy
  replace hok := Lib.hid hok
  replace hbx := Lib.hid hbx
  replace hdb := Lib.hid hdb
  clear hu
  go_enter Try.func60, Try.ntmps60
  go_upto_region 1 with fail
  have o1 : Hid ((W.alloc (.cells #[] 5)).ownsRow W.heap.size 5 1 (.slice (some ⟨W.heap.size, 0, none⟩) 0 0) ([] : List Int).length (encB [])) :=
    Lib.hid ⟨rfl, .inr ⟨_, _, _, rfl, Nat.le_refl _, heap_alloc_new _ _, Nat.le_refl _, by decide, rfl, rfl⟩⟩
  have b1 := Lib.hid (hv0.out.later ((Later.refl W).alloc (.cells #[] 5)))
  have l1 : Hid (([] : List Int).length + (b).length ≤ 2000000) := Lib.hid (by simp; omega)
  have l2 : Hid (W.heap.size ≤ (W.alloc (.cells #[] 5)).heap.size) := Lib.hid (by simp)
  have l3 : Hid ((b).length + ([7] : List Int).length ≤ 2000000) := Lib.hid (by simp; omega)
  go_upto_region 2 with (first
    | (at_builtin; refine wpList_append_bytes rfl _ _ rfl W.heap.size _ [] rfl o1.out _ rfl b b1.out l1.out l2.out ?_; intro vA wA hrA hgA hnA; have hlA := later_own ((Later.refl W).alloc _) o1.out (Nat.le_refl _) hgA; rw [List.nil_append] at hrA; obtain ⟨mA, aA, qA, rfl⟩ := own_sl hrA; have oA := Lib.hid (hrA.alloc (.cells #[.int .u8 7] 5)); have bA := Lib.hid (one_byte wA 7 (by decide)); have lA : Hid (W.heap.size ≤ (wA.alloc (.cells #[.int .u8 7] 5)).heap.size) := Lib.hid (Nat.le_trans hlA.size (by simp)))
    | (at_builtin; refine wpList_append_bytes rfl _ _ rfl W.heap.size _ b rfl oA.out _ rfl [7] bA.out l3.out lA.out ?_; intro vB w1 hrB hgB hnB; have hl1 := later_own (hlA.alloc _) oA.out (Nat.le_refl _) hgB; obtain ⟨m1, a1, q1, rfl⟩ := own_sl hrB; have ho1 := Lib.hid hrB))
  clear o1 b1 l1 l2 l3 hrA hgA hnA hlA oA bA lA hrB hgB hnB
  have bO := (bytV_of_row (hv0.out.1.append (Byt.single 7 (by decide))) ho1.out).1
  have oI : Hid (∀ k, (Value.slice a1 m1 q1).ownBlock = some k → W.heap.size ≤ k ∧ k < w1.heap.size) := Lib.hid (World.ownsRow.lt ho1.out)
  have oIn : Hid (In (.slice a1 m1 q1) (fun k => W.heap.size ≤ k ∧ k < w1.heap.size)) := Lib.hid (fun g o s len cap e _ => oI.out g (by rw [e]; rfl))
  obtain ⟨eO, cO⟩ := bytV_len bO
  have nO : nB ≤ m1 := by rw [eO, List.length_append, hnB.out]; exact Nat.le_add_right _ _
  have m2k : m1 ≤ 2001 := by rw [eO, List.length_append, hnB.out]; simp; omega
  obtain ⟨zO, hO⟩ := slice_high a1 m1 q1 nB nO cO
  have rO : ∀ W', _ := fun W' => (hO W').1
  have bO8 : BytV w1 (.slice zO nB q1) b := by have h := (hO w1).2 w1 _ eO.symm bO; rw [List.take_left' hnB.out] at h; exact h
  have uO : Hid (U8s w1 W.heap.size (.slice a1 m1 q1) m1) := Lib.hid (by have h := u8s_of ho1.out; rw [← eO] at h; exact h)
  have hb1 := hbx.out.later hl1
  obtain ⟨nc, hcnt, -⟩ := hbx.out.cnt
  have HP := Lib.hid (put_stA hb1 bO8 (by omega) hcnt)
  have hd1 := Lib.hid (hdb.out.later hl1)
  replace hl1 := Lib.hid hl1
  have hl1k := hl1
  replace bO := Lib.hid bO
  clear ho1 hO nO eO cO bO8 hb1
  go_wp2_with fail
  refine HP.out.mono ?_
  rintro e w2 ⟨v, out, is, er, M', ha, rfl, hb2, hh2, hr2⟩
  obtain ⟨mv, av, qv, rfl⟩ := own_sl hr2
  have vI : Hid (∀ k, (Value.slice av mv qv).ownBlock = some k → w1.heap.size ≤ k ∧ k < w2.heap.size) := Lib.hid (World.ownsRow.lt hr2)
  have hW1 := hl1.out.size
  have hQW : Hid (∀ k, Qy k → k < W.heap.size) := Lib.hid (fun k hk => hbx.out.lt (hQy.out k hk))
  have hW2 := hh2.size
  have hd2 := hd1.out.keep hh2 (fun k hk hn => hn (.inl (hQy.out k hk)))
  have bu2 := hh2.bytV (hv0.out.later hl1.out) (hi.out.mono (fun k hk => .inl hk.1))
  have bo2 := Lib.hid (hh2.bytV bO.out (oIn.out.mono (fun k hk => .inr hk)))
  have uo2 := Lib.hid (uO.out.stay (W' := w2) (fun g hg hlt => hh2.block g hlt (fun hn => hn (.inr (oI.out g hg)))))
  have HR := Lib.hid (refput_all (.slice aB nB cB) b y r P Qy w2 hd2 (by omega) hPl.out bu2 (by omega) (fun k hk => by have := hQW.out k hk; omega))
  replace bu2 := Lib.hid bu2
  replace hb2 := Lib.hid hb2
  replace hh2 := Lib.hid hh2
  replace hr2 := Lib.hid hr2
  replace ha := Lib.hid ha
  clear HP hd1 hd2 bO uO
  go_wp2_with fail
  refine HR.out.mono ?_
  rintro e w3 ⟨v3, out3, is3, er3, P', hr', rfl, hr3, hpt⟩
  obtain ⟨e1, e2, e3, hok3⟩ := is_alike hok.out hcnt ha.out hr'
  subst e1 e2 e3
  obtain ⟨hbo, hbP⟩ := hr'.byt hPb.out hv0.out.1
  obtain ⟨hP1, hP2⟩ := hr'.ok hP.out
  obtain ⟨m3, a3, q3, rfl⟩ := own_sl hr3
  have hk3 := hpt.keep
  have hW3 := hk3.size
  have bm2 := bytV_of_row hbo hr2.out
  have emv : mv = out3.length := (bytV_len bm2.1).1
  have hmx := row_max hr2.out
  have hmv : mv ≤ 9223372036854775807 := by rw [emv]; exact Nat.le_trans hmx (by decide)
  have bm3 := hk3.bytV bm2.1 (fun g o s len cap e _ hq => by have h1 := vI.out g (by rw [e]; rfl); have h2 := hQW.out g hq; omega)
  have bn3 := (bytV_of_row hbo hr3).1
  have bo3 := hk3.bytV bo2.out (oIn.out.mono (fun k hk hq => by have h2 := hQW.out k hq; omega))
  have bu3 := hk3.bytV bu2.out (hi.out.mono (fun k hk hq => hk.2 hq))
  have uo3 := uo2.out.stay (W' := w3) (fun g hg hlt => hk3.block g hlt (fun hq => by have h1 := oI.out g hg; have h2 := hQW.out g hq; omega))
  have um3 : U8s w3 w1.heap.size (.slice av mv qv) mv := by
    have h := u8s_of hr2.out
    rw [← emv] at h
    exact h.stay (W' := w3) (fun g hg hlt => hk3.block g hlt (fun hq => by have h1 := vI.out g hg; have h2 := hQW.out g hq; omega))
  have s1 : (convert 23 9 (.slice av mv qv)).run Try.prog w3 = .ok (.string (strOfNums out3)) w3 := bytV_string bm3
  have s2 : (convert 23 9 (.slice a3 m3 q3)).run Try.prog w3 = .ok (.string (strOfNums out3)) w3 := bytV_string bn3
  have s3 : (convert 23 9 (.slice a1 m1 q1)).run Try.prog w3 = .ok (.string (strOfNums (b ++ [7]))) w3 := bytV_string bo3
  have s4 : (convert 23 9 (.slice aB nB cB)).run Try.prog w3 = .ok (.string (strOfNums b)) w3 := bytV_string bu3
  rw [strOf_snoc] at s3
  have z1 : ¬ 9223372036854775807 < (strOfNums b).size + 1 := by rw [strOfNums_size]; omega
  have i1 : (is3 == is3) = true := by simp
  have i2 : (er3 == er3) = true := by simp
  replace uo3 := Lib.hid uo3
  replace um3 := Lib.hid um3
  replace hpt := Lib.hid hpt
  replace hok3 := Lib.hid hok3
  replace hP1 := Lib.hid hP1
  replace hP2 := Lib.hid hP2
  clear HR bm2 bm3 bn3 bo3 bu3 hk3 hr3 hbo hbP hr' emv hmx bo2 uo2 bu2 hv0 rO hl1
  go_upto_region 6 with fail
  go_loopg [15, 64] (m1 + 1) (fun g y15 y wr => ∃ i : Nat, g = m1 + 1 - i ∧ i ≤ m1 ∧ y = .int .i64 i ∧ Hid (U8s wr W.heap.size (.slice a1 m1 q1) m1) ∧ Hid (U8s wr w1.heap.size (.slice av mv qv) mv) ∧ Hid (Keep (fun k => (Value.slice a1 m1 q1).ownBlock = some k) w3 wr))
  case atStart => exact ⟨0, by omega, Nat.zero_le _, rfl, uo3, um3, Lib.hid (Keep.refl _ _)⟩
  case round =>
    obtain ⟨i, rfl, him, rfl, hu1, hu2, hk1⟩ := hrel
    by_cases hi' : i < m1
    · have hii : (i : Int) < (m1 : Int) := by omega
      obtain ⟨g, cap, xx, he, hge, hc, hf, hblk⟩ := hu1.out.at_ hi'
      injection he with he1 he2 he3
      subst he1 he3
      go_wp2_with fail
      go_roundg (m1 - i)
      case measure => omega
      case rel => exact ⟨i + 1, by omega, by omega, by go_num, Lib.hid (hu1.out.set _ _ _), Lib.hid (hu2.out.set _ _ _), Lib.hid (hk1.out.setCell (p := ⟨g, i, none⟩) (.inl rfl) _)⟩
    · obtain rfl : m1 = i := by omega
      have hii : ¬ (m1 : Int) < (m1 : Int) := by omega
      clear hu1
      go_upto_region 11 with fail
      go_loopg [16, 73] (mv + 1) (fun g y16 y wr => ∃ i : Nat, g = mv + 1 - i ∧ i ≤ mv ∧ y = .int .i64 i ∧ Hid (U8s wr w1.heap.size (.slice av mv qv) mv) ∧ Hid (Keep (fun k => (Value.slice a1 m1 q1).ownBlock = some k ∨ (Value.slice av mv qv).ownBlock = some k) w3 wr))
      case atStart => exact ⟨0, by omega, Nat.zero_le _, rfl, hu2, Lib.hid (hk1.out.mono (fun k _ h => .inl h))⟩
      case round =>
        clear hu2 hk1
        obtain ⟨i, rfl, him, rfl, hu2, hk2⟩ := hrel
        by_cases hi' : i < mv
        · have hii : (i : Int) < (mv : Int) := by omega
          obtain ⟨g, cap, xx, he, hge, hc, hf, hblk⟩ := hu2.out.at_ hi'
          injection he with he1 he2 he3
          subst he1 he3
          go_wp2_with fail
          go_roundg (mv - i)
          case measure => omega
          case rel => exact ⟨i + 1, by omega, by omega, by go_num, Lib.hid (hu2.out.set _ _ _), Lib.hid (hk2.out.setCell (p := ⟨g, i, none⟩) (.inl (.inr rfl)) _)⟩
        · obtain rfl : mv = i := by omega
          have hii : ¬ (mv : Int) < (mv : Int) := by omega
          go_wp2_with fail
          go_ret
          have hb3 := hb2.out.turn hpt.out.keep (fun k _ hk => .inl (.inl (hQy.out k hk)))
          have hb4 := hb3.other hk2.out (fun k _ hk => hk.elim (fun h => .inl (.inl (.inr (oI.out k h)))) (fun h => .inl (.inr h)))
          have hd4 := hpt.out.box.keep hk2.out (fun k hk h => by
            rcases hk with hk | hk
            · have h2 := hQW.out k hk
              rcases h with h | h
              · have := oI.out k h; omega
              · have := vI.out k h; omega
            · rcases h with h | h
              · have := oI.out k h; omega
              · have := vI.out k h; omega)
          refine ⟨rfl, ⟨_, _, M', P', hb4, hd4, fun k hk => ?_, hok3.out, hP1.out, hP2.out, fun k hk => .inl (.inl (.inl hk)), fun k hk => ?_⟩, ?_⟩
          · rcases hk with hk | hk
            · exact .inl (.inl (.inl (hQy.out k hk)))
            · exact .inr hk
          · rcases hk with hk | hk
            · exact .inl hk
            · exact .inr (by omega)
          · have k1 : Keep (fun k => (Qy k ∨ ¬ Q k) ∨ W.heap.size ≤ k) W w1 := Keep.of_later hl1k.out
            have k2 : Keep (fun k => (Qy k ∨ ¬ Q k) ∨ W.heap.size ≤ k) w1 w2 := Keep.mono (S := fun k => ¬ (Q k ∨ (W.heap.size ≤ k ∧ k < w1.heap.size))) hh2.out (fun k hk h => by
              by_cases hq : Q k
              · exact (h (Or.inl hq)).elim
              · exact Or.inl (Or.inr hq))
            have k3 : Keep (fun k => (Qy k ∨ ¬ Q k) ∨ W.heap.size ≤ k) w2 w3 := hpt.out.keep.mono (fun k _ h => .inl (.inl h))
            have k4 := hk2.out.mono (S' := fun k => (Qy k ∨ ¬ Q k) ∨ W.heap.size ≤ k) (fun k _ h => h.elim (fun h => .inr (by have := oI.out k h; omega)) (fun h => .inr (by have := vI.out k h; omega)))
            exact (((k1.trans k2).trans k3).trans k4).mono (fun k hk h => h.elim (fun h => h) (fun h => by omega))
end Go.Proofs.Ytjelfiljebamgaa
namespace Go.Proofs.Ytjelfiljebamgaa
open Go.RowKit Go.Shelf
set_option linter.unusedVariables false
set_option linter.unusedSimpArgs false
attribute [local go_sem] Oper.semAt_some

/-- The document's writer; its bytes lie behind it. -/
structure RwL (W : World) (p : Nat) (v : Value) (L : List Int) : Prop where
  b : RwB W p v L
  lo : In v (fun g => p < g)
theorem RwL.later {W W' : World} {p : Nat} {v : Value} {L : List Int} (h : RwL W p v L) (hl : Later W W') : RwL W' p v L := ⟨h.b.later hl, h.lo⟩
set_option maxRecDepth 100000 in
theorem put05L (p : Nat) (v u : Value) (L D : List Int) (W : World) (h : RwL W p v L) (hu : BytV W u D) (hi : In u (· ≠ p)) (hD : 0 < D.length) (hlen : L.length + D.length ≤ 1000000) :
    Calls Try.prog 81 #[wp p, u, .bool true] W fun e w' => e = .returned (.tuple #[]) ∧ (∃ v', RwL w' p v' (L ++ D)) ∧ W.grownBy w' (some p) := by
  have c1 : W.cell? ⟨p, 1, none⟩ = some (.bool false) := cell_of_row W p 1 _ _ _ h.b.head
  have f1 := frozen_row h.b.head 1
  have k1 := heap_set2b W p _ _ _ (.bool false) h.b.head
  obtain ⟨X, hX⟩ : ∃ X, X = W.setCell ⟨p, 1, none⟩ (.bool false) := ⟨_, rfl⟩
  have hgX : W.grownBy X (some p) := by rw [hX]; exact grownBy_set W p 1 _
  have hvX : BytV X v L := h.b.val.stay h.b.ne (fun g hg hl => hgX.block g hl (by simp; exact hg))
  have huX : BytV X u D := hu.stay hi (fun g hg hl => hgX.block g hl (by simp; exact hg))
  rw [← hX] at k1
  have hpl := h.b.lt
  have hsz := hgX.size
  have hb1 := hvX.1
  have hb2 := huX.1
  have huX' := Lib.hid huX
  have hvX' := Lib.hid hvX
  clear h hu hvX huX
  go_enter Try.func81, Try.ntmps81
  go_upto_region 1 with fail
  rw [← hX]
  clear hX c1 f1
  have c0 : X.cell? ⟨p, 0, none⟩ = some v := cell_of_row X p 0 _ _ _ k1
  have c1 : X.cell? ⟨p, 1, none⟩ = some (.bool false) := cell_of_row X p 1 _ _ _ k1
  have hnil : X.ownsRow X.heap.size 5 1 (.slice none 0 0) ([] : List Int).length (encB []) := World.ownsRow_nil _ _ _ _
  have hpX : p < X.heap.size := (Array.getElem?_eq_some_iff.1 k1).1
  have hl1 : ([] : List Int).length + L.length ≤ 2000000 := by simp; omega
  have hl2 : ([] ++ L : List Int).length + D.length ≤ 2000000 := by simp; omega
  have hpos : 0 < (([] ++ L : List Int) ++ D).length := by simp; omega
  have hXX : X.heap.size ≤ X.heap.size := Nat.le_refl _
  go_wp2_with (first | (at_builtin; refine wpList_append_bytes rfl _ _ rfl X.heap.size _ [] rfl hnil _ rfl L hvX'.out hl1 hXX ?_; intro v2 w5 hr5 hg5 hn5; have hL5 := later_own (Later.refl X) hnil (Nat.le_refl _) hg5; have c5 := hL5.cell c0; have hs5 := hL5.size) | (at_builtin; refine wpList_append_bytes rfl _ _ rfl X.heap.size _ _ rfl hr5 _ rfl D (huX'.out.later hL5) hl2 hs5 ?_; intro v3 w6 hr6 hg6 hn6; have hL6 := later_own hL5 hr5 (Nat.le_refl _) hg6; have c6 := hL6.cell c0; have f6 := hL6.frozen c0 (frozen_row k1 0); obtain ⟨g2, c2, n2, hn2, rfl⟩ := row_pos hr6 hpos))
  go_end0
  have h6p := (hL6.block p hpX).trans k1
  have hrow := ownsRow_setCell_below hr6 (a := ⟨p, 0, none⟩) (show p < X.heap.size from hpX) (.slice (some ⟨g2, 0, none⟩) n2 c2)
  rw [List.nil_append] at hrow
  obtain ⟨q1, q2⟩ := bytV_of_row (hb1.append hb2) hrow
  exact ⟨rfl, ⟨_, ⟨heap_set2a w6 p _ _ _ _ h6p, q1, q2.mono (fun g hg e => by subst e; omega), U8b.of_row hrow⟩, q2.mono (fun g hg => by have hg : X.heap.size ≤ g := hg; omega)⟩, grown_but (grown_but hgX hL6.grown (fun r e => by cases e)) (grownBy_set w6 p 0 _) (fun r e => .inl (Option.some.inj e).symm)⟩
theorem uint05L (p n : Nat) (v : Value) (L : List Int) (W : World) (h : RwL W p v L) (hn : n < 18446744073709551616) (hL : L.length ≤ 900000) :
    Calls Try.prog 48 #[wp p, .int .u64 n] W fun e w' => e = .returned (.tuple #[]) ∧ (∃ v', RwL w' p v' (L ++ fm n)) ∧ W.grownBy w' (some p) := by
  have hfl := fm_len n
  have hpl := h.b.lt
  go_enter Try.func48, Try.ntmps48
  go_wp2_with fail
  refine (form05_any n W hn).mono ?_
  rintro e w1 ⟨u, rfl, hr, hl⟩
  obtain ⟨q1, q2⟩ := bytV_of_row (fm_byt hn) hr
  go_wp2_with fail
  refine (put05L p v u L (fm n) w1 (h.later hl) q1 (q2.mono (fun g hg e => by subst e; omega)) (by omega) (by omega)).mono ?_
  rintro e w2 ⟨rfl, hw, hg⟩
  go_wp2_with fail
  go_end0
  exact ⟨rfl, hw, grown_but (grown_some hl.grown) hg (fun r e => .inl (Option.some.inj e).symm)⟩
set_option maxRecDepth 100000 in
theorem text05L (p m : Nat) (v u : Value) (L D : List Int) (W : World) (h : RwL W p v L) (hu : BytV W u D) (hm : D.length ≤ m) (hL : L.length ≤ 100000) (hD : D.length ≤ 100000) :
    Calls Try.prog 49 #[wp p, u, .int .i64 m] W fun e w' => e = .returned (.tuple #[]) ∧ (∃ v', RwL w' p v' (L ++ fm D.length ++ D)) ∧ W.grownBy w' (some p) := by
  have hfl := fm_len D.length
  have hfb := fm_byt (n := D.length) (by omega)
  have hpl := h.b.lt
  obtain ⟨ao, cap, hue⟩ : ∃ ao cap, u = .slice ao D.length cap := by
    obtain ⟨_, ao, cap, e, _⟩ := hu
    exact ⟨ao, cap, e⟩
  subst hue
  have hF := Lib.hid (form05_any D.length W (by omega))
  have hbD := hu.1
  obtain ⟨n, hnn⟩ : ∃ n, Hid (D.length = n) := ⟨_, rfl⟩
  rw [hnn.out] at hF hu hm hfl hfb hD ⊢
  have hu := Lib.hid hu
  have hmD : (n : Int) ≤ (m : Int) := by omega
  go_enter Try.func49, Try.ntmps49
  go_wp2_with fail
  refine hF.out.mono ?_
  rintro e w1 ⟨u1, rfl, hr, hl⟩
  have hl2 : (fm n).length + D.length ≤ 2000000 := by have := hnn.out; omega
  have hs1 := hl.size
  go_wp2_with (at_builtin; refine wpList_append_bytes rfl _ _ rfl W.heap.size _ (fm n) rfl hr _ rfl D (hu.out.later hl) hl2 hs1 ?_; intro v2 w5 hr5 hg5 hn5; have hL5 := later_own hl hr (Nat.le_refl _) hg5)
  obtain ⟨q1, q2⟩ := bytV_of_row (hfb.append hbD) hr5
  refine (put05L p v v2 L (fm n ++ D) w5 (h.later hL5) q1 (q2.mono (fun g hg e => by subst e; omega)) (by rw [List.length_append]; omega) (by rw [List.length_append]; have := hnn.out; omega)).mono ?_
  rintro e w2 ⟨rfl, ⟨v', hw⟩, hg⟩
  go_wp2_with fail
  go_end0
  exact ⟨rfl, ⟨v', by rw [List.append_assoc]; exact hw⟩, grown_but (grown_some hL5.grown) hg (fun r e => .inl (Option.some.inj e).symm)⟩
theorem newWriterL (X : World) : RwL (X.alloc (.cells #[.slice none 0 0, .bool false] 106)) X.heap.size (.slice none 0 0) [] := ⟨newWriter05 X, fun g o s len cap e => by cases e⟩
set_option maxRecDepth 10000 in
set_option maxHeartbeats 1000000 in
theorem write21_new (id at_ of : Int) (u : Value) (D : List Int) (W : World) (hu : BytV W u D) (h : May id at_ of D.length) (hid : 0 ≤ id) :
    Calls Try.prog 12 #[pcV id at_ of u] W fun e w' => ∃ v, e = .returned (.tuple #[v, .int .i64 0]) ∧ BytV w' v (wrL id at_ of D) ∧ In v (fun k => W.heap.size ≤ k ∧ k < w'.heap.size) ∧ Later W w' := by
  have hl0 : Later W (W.alloc (.cells #[.int .u64 id, .int .i64 at_, .int .i64 of, u] 25)) := (Later.refl _).alloc _
  have HM := Lib.hid (may21_yes id at_ of u D (W.alloc (.cells #[.int .u64 id, .int .i64 at_, .int .i64 of, u] 25)) (hu.later hl0) h)
  obtain ⟨h1, h2, h3, h4, h5, h6⟩ := h
  obtain ⟨i, rfl⟩ : ∃ i : Nat, id = i := ⟨id.toNat, by omega⟩
  obtain ⟨a, rfl⟩ : ∃ a : Nat, at_ = a := ⟨at_.toNat, by omega⟩
  obtain ⟨o, rfl⟩ : ∃ o : Nat, of = (o : Int) + 1 := ⟨(of - 1).toNat, by omega⟩
  have hwr : wrL i a ((o : Int) + 1) D = fm i ++ fm o ++ fm a ++ fm D.length ++ D := by
    unfold wrL; rw [show ((i : Nat) : Int).toNat = i by omega, show ((a : Nat) : Int).toNat = a by omega, show ((o : Int) + 1 - 1).toNat = o by omega]
  rw [hwr]
  clear hwr
  have hi2 : i < 18446744073709551616 := by omega
  have ho2 : o < 18446744073709551616 := by omega
  have ha2 : a < 18446744073709551616 := by omega
  have hlt := hu.lt
  have hfi := fm_len i
  have hfo := fm_len o
  have hfa := fm_len a
  have hfd := fm_len D.length
  obtain ⟨I, hI⟩ : ∃ I : Int, Hid ((i : Int) = I) := ⟨_, rfl⟩
  have HU := Lib.hid (fun p v L w (h : RwL w p v L) (hL : L.length ≤ 900000) => uint05L p i v L w h hi2 hL)
  have HSo := Lib.hid (fun p v L w (h : RwL w p v L) (hL : L.length ≤ 900000) => uint05L p o v L w h ho2 hL)
  have HSa := Lib.hid (fun p v L w (h : RwL w p v L) (hL : L.length ≤ 900000) => uint05L p a v L w h ha2 hL)
  rw [hI.out] at HU HM h1 hid ⊢
  rw [hI.out] at hl0
  have ho3 : 0 ≤ (o : Int) ∧ (o : Int) ≤ 4095 := by omega
  have ha3 : 0 ≤ (a : Int) ∧ (a : Int) ≤ 4095 := by omega
  clear h1 h2 h3 h4 h5 hi2 ho2 ha2
  obtain ⟨ao, cap, hue⟩ := bytV_form hu
  have hu := Lib.hid hu
  obtain ⟨n, hn⟩ : ∃ n, Hid (D.length = n) := ⟨_, rfl⟩
  rw [hn.out] at hue h6 hfd ⊢
  subst hue
  go_enter Try.func12, Try.ntmps12
  go_wp2_with fail
  refine HM.out.mono ?_
  rintro e w1 ⟨rfl, hl1⟩
  have c0 : w1.cell? ⟨W.heap.size, 0, none⟩ = some (.int .u64 I) := hl1.cell (by simp)
  have c1 : w1.cell? ⟨W.heap.size, 1, none⟩ = some (.int .i64 a) := hl1.cell (by simp)
  have c2 : w1.cell? ⟨W.heap.size, 2, none⟩ = some (.int .i64 ((o : Int) + 1)) := hl1.cell (by simp)
  have c3 : w1.cell? ⟨W.heap.size, 3, none⟩ = some (.slice ao n cap) := hl1.cell (by simp)
  have hW1 : W.heap.size < w1.heap.size := cell_lt c0
  replace hl1 := hl0.trans hl1
  clear HM hl0
  go_upto_region 5 with fail
  have hw := newWriterL w1
  obtain ⟨X, hX⟩ : ∃ X, X = w1.alloc (.cells #[.slice none 0 0, .bool false] 106) := ⟨_, rfl⟩
  have hl2 : Later w1 X := by rw [hX]; exact (Later.refl _).alloc _
  rw [← hX] at hw ⊢
  clear hX
  replace c0 := hl2.cell c0
  replace c1 := hl2.cell c1
  replace c2 := hl2.cell c2
  replace c3 := hl2.cell c3
  replace hu := Lib.hid (hu.out.later (hl1.trans hl2))
  replace hl1 := hl1.trans hl2
  obtain ⟨p, hp⟩ : ∃ p, Hid (w1.heap.size = p) := ⟨_, rfl⟩
  rw [hp.out] at hw hW1 ⊢
  clear hl2 hp
  have hWp : W.heap.size ≤ p := by omega
  have hin : In (.slice ao n cap) (· ≠ p) := hlt.mono (fun g hg => by have hg : g < W.heap.size := hg; omega)
  go_wp2_with fail
  refine (HU.out _ _ _ _ hw (by simp)).mono ?_
  rintro e w3 ⟨rfl, ⟨v3, hw3⟩, hs3⟩
  replace c1 := grown_c hs3 c1 (by omega)
  replace c2 := grown_c hs3 c2 (by omega)
  replace c3 := grown_c hs3 c3 (by omega)
  replace hu := Lib.hid (hu.out.grown hs3 hin)
  replace hl1 := rw_step hl1 hs3 hWp
  clear hw hs3 HU c0
  rw [List.nil_append] at hw3
  go_wp2_with fail
  refine (HSo.out _ _ _ _ hw3 (by omega)).mono ?_
  rintro e w4 ⟨rfl, ⟨v4, hw4⟩, hs4⟩
  replace c1 := grown_c hs4 c1 (by omega)
  replace c3 := grown_c hs4 c3 (by omega)
  replace hu := Lib.hid (hu.out.grown hs4 hin)
  replace hl1 := rw_step hl1 hs4 hWp
  clear hw3 hs4 HSo c2
  go_wp2_with fail
  refine (HSa.out _ _ _ _ hw4 (by rw [List.length_append]; omega)).mono ?_
  rintro e w5 ⟨rfl, ⟨v5, hw5⟩, hs5⟩
  replace c3 := grown_c hs5 c3 (by omega)
  replace hu := Lib.hid (hu.out.grown hs5 hin)
  replace hl1 := rw_step hl1 hs5 hWp
  clear hw4 hs5 HSa c1
  have HT := Lib.hid (text05L p 880 v5 _ _ D w5 hw5 hu.out (by rw [hn.out]; exact h6) (by rw [List.length_append, List.length_append]; omega) (by rw [hn.out]; omega))
  rw [hn.out] at HT
  go_wp2_with fail
  refine HT.out.mono ?_
  rintro e w6 ⟨rfl, ⟨v6, hw6⟩, hs6⟩
  replace hl1 := rw_step hl1 hs6 hWp
  have cB : w6.cell? ⟨p, 0, none⟩ = some v6 := cell_of_row w6 p 0 _ _ _ hw6.b.head
  have hv6 := Lib.hid hw6.b.val
  have ht6 : Hid (In v6 (fun k => W.heap.size ≤ k ∧ k < w6.heap.size)) := Lib.hid (fun g o s len cap e hp => ⟨by have h1 : p < g := hw6.lo g o s len cap e hp; omega, hw6.b.val.lt g o s len cap e hp⟩)
  clear hw5 hs6 HT c3 hu hw6
  go_wp2_with fail
  go_ret2
  exact ⟨v6, rfl, hv6.out, ht6.out, hl1⟩
end Go.Proofs.Ytjelfiljebamgaa
namespace Go.Proofs.Ytjelfiljebamgaa
open Go.RowKit Go.Shelf Go.Maps
set_option linter.unusedVariables false
set_option linter.unusedSimpArgs false
attribute [local go_sem] Oper.semAt_some

/-- Both boxes stand alike. -/
structure DoPre (W : World) (x y : Nat) (r : Int) (M : Bx) (P : List Pv) (Q Qy : Nat → Prop) : Prop where
  bx : BxSt W Q x r M
  db : DB W y r P Qy
  qy : ∀ k, Qy k → Q k
  ok : BOk (pcs P) M
  len : P.length ≤ 1000
  pc : PcOk P
theorem DoPre.later {W w' : World} {x y : Nat} {r : Int} {M : Bx} {P : List Pv} {Q Qy : Nat → Prop} (h : DoPre W x y r M P Q Qy) (hl : Later W w') : DoPre w' x y r M P (fun k => Q k ∨ (W.heap.size ≤ k ∧ k < w'.heap.size)) Qy :=
  ⟨h.bx.later hl, h.db.later hl, fun k hk => .inl (h.qy k hk), h.ok, h.len, h.pc⟩
theorem PairTo.after {W W1 w' : World} {x y n : Nat} {r : Int} {Q Q1 Qy : Nat → Prop} (h : PairTo W1 w' x y r n Q1 Qy) (hl : Later W W1) (hq : ∀ k, Q k → Q1 k) : PairTo W w' x y r n Q Qy := by
  obtain ⟨⟨Q', Qy', M', P', h1, h2, h3, h4, h5, h6, h7, h8⟩, hk⟩ := h
  exact ⟨⟨Q', Qy', M', P', h1, h2, h3, h4, h5, h6, fun k hk => h7 k (hq k hk), fun k hk => (h8 k hk).elim .inl (fun h => .inr (Nat.le_trans hl.size h))⟩, (Keep.of_later hl).trans (hk.mono (fun k _ h => h.elim .inl (fun h => .inr (fun hq' => h (hq k hq')))))⟩
theorem PairTo.of_later {W w' : World} {x y n : Nat} {r : Int} {M : Bx} {P : List Pv} {Q Qy : Nat → Prop} (h : DoPre W x y r M P Q Qy) (hl : Later W w') (hn : P.length ≤ n) : PairTo W w' x y r n Q Qy :=
  ⟨⟨_, Qy, M, P, (h.later hl).bx, h.db.later hl, fun k hk => .inl (h.qy k hk), h.ok, hn, h.pc, fun k hk => .inl hk, fun k hk => .inl hk⟩, Keep.of_later hl⟩
/-- What a call of both leaves. -/
def DoPost (W : World) (y : Nat) (r : Int) (n : Nat) (Q Qy : Nat → Prop) (e : Ending) (w' : World) : Prop := ∃ x', e = .returned (.tuple #[wp x', .bool true]) ∧ PairTo W w' x' y r n Q Qy
abbrev opA (kind : Int) (id : Nat) (pl of : Int) (u : Value) : Value := .agg #[.int .i64 kind, .int .u64 id, .int .i64 pl, .int .i64 of, u]
set_option maxRecDepth 100000 in
theorem do_put (x y : Nat) (r : Int) (M : Bx) (P : List Pv) (Q Qy : Nat → Prop) (W : World) (h : DoPre W x y r M P Q Qy) (id : Nat) (pl of : Int) (u : Value) (b : List Int) (hid : id < 18446744073709551616) (hu : BytV W u b) (hi : In u (fun k => Q k ∧ ¬ Qy k)) (hb : b.length ≤ 1000) :
    Calls Try.prog 22 #[wp x, wp y, opA 0 id pl of u] W (DoPost W y r (P.length + 1) Q Qy) := by
  obtain ⟨aB, cB, rfl⟩ := bytV_form hu
  obtain ⟨nB, hnB⟩ : ∃ n, Hid (b.length = n) := ⟨_, Lib.hid rfl⟩
  rw [hnB.out] at hu hi ⊢
  obtain ⟨I, hI⟩ : ∃ I : Int, Hid ((id : Int) = I) := ⟨_, Lib.hid rfl⟩
  unfold opA
  rw [hI.out]
  obtain ⟨W1, hW1⟩ : ∃ w, w = W.alloc (.cells #[.int .i64 0, .int .u64 I, .int .i64 pl, .int .i64 of, .slice aB nB cB] 55) := ⟨_, rfl⟩
  have hl1 : Later W W1 := by rw [hW1]; exact (Later.refl _).alloc _
  have k1 : W1.heap[W.heap.size]? = some (.cells #[.int .i64 0, .int .u64 I, .int .i64 pl, .int .i64 of, .slice aB nB cB] 55 (0, 0)) := by rw [hW1]; exact heap_alloc_new _ _
  have hp1 := Lib.hid (h.later hl1)
  have hu1 := Lib.hid (hu.later hl1)
  have hi1 : Hid (In (.slice aB nB cB) (fun k => (Q k ∨ (W.heap.size ≤ k ∧ k < W1.heap.size)) ∧ ¬ Qy k)) := Lib.hid (hi.mono (fun k hk => ⟨.inl hk.1, hk.2⟩))
  obtain ⟨z, hz⟩ : ∃ z, Hid (W.heap.size = z) := ⟨_, Lib.hid rfl⟩
  rw [hz.out] at k1
  have c0 : W1.cell? ⟨z, 0, none⟩ = some (.int .i64 0) := by rw [cell_of_row _ _ _ _ _ _ k1]; rfl
  have c1 : W1.cell? ⟨z, 1, none⟩ = some (.int .u64 I) := by rw [cell_of_row _ _ _ _ _ _ k1]; rfl
  have c2 : W1.cell? ⟨z, 2, none⟩ = some (.int .i64 pl) := by rw [cell_of_row _ _ _ _ _ _ k1]; rfl
  have c3 : W1.cell? ⟨z, 3, none⟩ = some (.int .i64 of) := by rw [cell_of_row _ _ _ _ _ _ k1]; rfl
  have c4 : W1.cell? ⟨z, 4, none⟩ = some (.slice aB nB cB) := by rw [cell_of_row _ _ _ _ _ _ k1]; rfl
  clear hu hi
  go_enter Try.func22, Try.ntmps22
  go_upto_region 1 with fail
  rw [← hW1, hz.out]
  clear hW1
  have HP := Lib.hid (put_pair x y r M P _ Qy (.slice aB nB cB) b W1 hp1.out.bx hp1.out.db hp1.out.qy hp1.out.ok hp1.out.len hp1.out.pc hu1.out hi1.out (by omega))
  go_wp2_with fail
  refine HP.out.mono ?_
  rintro e w2 ⟨rfl, hpt⟩
  go_wp2_with fail
  go_ret2
  exact ⟨x, rfl, hpt.after hl1 (fun k hk => .inl hk)⟩
set_option maxRecDepth 100000 in
theorem do_piece (x y : Nat) (r : Int) (M : Bx) (P : List Pv) (Q Qy : Nat → Prop) (W : World) (h : DoPre W x y r M P Q Qy) (id : Nat) (pl of : Int) (u : Value) (b : List Int) (hid : id < 18446744073709551616) (hu : BytV W u b) (hi : In u (fun k => Q k ∧ ¬ Qy k)) (hb : b.length ≤ 1000) :
    Calls Try.prog 22 #[wp x, wp y, opA 1 id pl of u] W (DoPost W y r (P.length + 1) Q Qy) := by
  have hid0 : (0 : Int) ≤ (id : Int) := by omega
  obtain ⟨aB, cB, rfl⟩ := bytV_form hu
  obtain ⟨nB, hnB⟩ : ∃ n, Hid (b.length = n) := ⟨_, Lib.hid rfl⟩
  rw [hnB.out] at hu hi ⊢
  obtain ⟨I, hI⟩ : ∃ I : Int, Hid ((id : Int) = I) := ⟨_, Lib.hid rfl⟩
  unfold opA
  rw [hI.out]
  obtain ⟨W1, hW1⟩ : ∃ w, w = W.alloc (.cells #[.int .i64 1, .int .u64 I, .int .i64 pl, .int .i64 of, .slice aB nB cB] 55) := ⟨_, rfl⟩
  have hl1 : Later W W1 := by rw [hW1]; exact (Later.refl _).alloc _
  have k1 : W1.heap[W.heap.size]? = some (.cells #[.int .i64 1, .int .u64 I, .int .i64 pl, .int .i64 of, .slice aB nB cB] 55 (0, 0)) := by rw [hW1]; exact heap_alloc_new _ _
  have hp1 := Lib.hid (h.later hl1)
  have hu1 := Lib.hid (hu.later hl1)
  have hi1 : Hid (In (.slice aB nB cB) (fun k => (Q k ∨ (W.heap.size ≤ k ∧ k < W1.heap.size)) ∧ ¬ Qy k)) := Lib.hid (hi.mono (fun k hk => ⟨.inl hk.1, hk.2⟩))
  obtain ⟨z, hz⟩ : ∃ z, Hid (W.heap.size = z) := ⟨_, Lib.hid rfl⟩
  rw [hz.out] at k1
  have c0 : W1.cell? ⟨z, 0, none⟩ = some (.int .i64 1) := by rw [cell_of_row _ _ _ _ _ _ k1]; rfl
  have c1 : W1.cell? ⟨z, 1, none⟩ = some (.int .u64 I) := by rw [cell_of_row _ _ _ _ _ _ k1]; rfl
  have c2 : W1.cell? ⟨z, 2, none⟩ = some (.int .i64 pl) := by rw [cell_of_row _ _ _ _ _ _ k1]; rfl
  have c3 : W1.cell? ⟨z, 3, none⟩ = some (.int .i64 of) := by rw [cell_of_row _ _ _ _ _ _ k1]; rfl
  have c4 : W1.cell? ⟨z, 4, none⟩ = some (.slice aB nB cB) := by rw [cell_of_row _ _ _ _ _ _ k1]; rfl
  clear hu hi
  go_enter Try.func22, Try.ntmps22
  go_upto_region 1 with fail
  rw [← hW1, hz.out]
  clear hW1
  rw [hI.out] at hid0
  by_cases hm : May I pl of b.length
  · have HW := Lib.hid (write21_new I pl of (.slice aB nB cB) b W1 hu1.out hm hid0)
    have hwl := wrL_length hm hid0
    obtain ⟨D, hD⟩ : ∃ D, Hid (wrL I pl of b = D) := ⟨_, Lib.hid rfl⟩
    rw [hD.out] at HW hwl
    clear hm
    go_wp2_with fail
    refine HW.out.mono ?_
    rintro e w2 ⟨v, rfl, hv, hvi, hl2⟩
    obtain ⟨av, cv, rfl⟩ := bytV_form hv
    have hp2 := hp1.out.later hl2
    have HP := Lib.hid (put_pair x y r M P _ Qy _ D w2 hp2.bx hp2.db hp2.qy hp2.ok hp2.len hp2.pc hv (hvi.mono (fun k hk => ⟨.inr hk, fun hq => by have h1 := hp1.out.bx.lt (hp1.out.qy k hq); have := hk.1; omega⟩)) (by omega))
    replace hl2 := Lib.hid hl2
    clear hp2
    go_wp2_with fail
    refine HP.out.mono ?_
    rintro e w3 ⟨rfl, hpt⟩
    go_wp2_with fail
    go_ret2
    exact ⟨x, rfl, hpt.after (hl1.trans hl2.out) (fun k hk => .inl (.inl hk))⟩
  · have HW := Lib.hid (write21_no I pl of (.slice aB nB cB) b W1 hu1.out hm)
    clear hm
    go_wp2_with fail
    refine HW.out.mono ?_
    rintro e w2 ⟨rfl, hl2⟩
    have hp2 := hp1.out.later hl2
    have HP := Lib.hid (put_pair x y r M P _ Qy (.slice none 0 0) [] w2 hp2.bx hp2.db hp2.qy hp2.ok hp2.len hp2.pc (bytV_nil w2) (fun g o s len cap e => by cases e) (by simp))
    replace hl2 := Lib.hid hl2
    clear hp2
    go_wp2_with fail
    refine HP.out.mono ?_
    rintro e w3 ⟨rfl, hpt⟩
    go_wp2_with fail
    go_ret2
    exact ⟨x, rfl, hpt.after (hl1.trans hl2.out) (fun k hk => .inl (.inl hk))⟩
end Go.Proofs.Ytjelfiljebamgaa
