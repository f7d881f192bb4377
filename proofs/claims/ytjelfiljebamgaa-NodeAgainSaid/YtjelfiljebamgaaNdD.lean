/-
  Chapter 28: a message's bytes.
-/
import Derived.Test.YtjelfiljebamgaaNdC
namespace Go.Proofs.Ytjelfiljebamgaa
open Go.RowKit Go.Shelf
set_option linter.unusedVariables false
set_option linter.unusedSimpArgs false
attribute [local go_sem] Oper.semAt_some

def flat (L : List Int) : List Int := (L.map fun x => fm x.toNat).flatten
/-- A message's bytes. -/
def wrM (k eN eB : Int) (Ms : List Int) (fr ro mf mt sf st : Int) (D : List Int) : List Int :=
  fm k.toNat ++ fm eN.toNat ++ fm eB.toNat ++
    (if k = 1 then fm Ms.length ++ flat Ms else
      fm fr.toNat ++ (if k = 4 then fm ro.toNat ++ fm mf.toNat ++ fm mt.toNat ++ fm sf.toNat ++ fm st.toNat ++ fm D.length ++ D else
        if k = 5 then fm mf.toNat ++ fm sf.toNat ++ fm st.toNat ++ fm D.length ++ D else []))
theorem flat_snoc (L : List Int) (x : Int) : flat (L ++ [x]) = flat L ++ fm x.toNat := by unfold flat; simp
theorem IntsV.lt {w : World} {v : Value} {L : List Int} (h : IntsV w v L) : In v (· < w.heap.size) := by
  obtain ⟨ao, cap, rfl, hv⟩ := h
  intro g o s len cap' e hl
  injection e with e1 e2 e3
  subst e1
  obtain ⟨g', o', e', hc⟩ := hv 0 (by omega)
  injection e' with e'
  injection e' with e1 e2 e3
  subst e1
  exact cell_lt hc
theorem IntsV.stay {w w' : World} {v : Value} {L : List Int} (h : IntsV w v L) {P : Nat → Prop} (hi : In v P) (hs : ∀ g, P g → g < w.heap.size → w'.heap[g]? = w.heap[g]?) : IntsV w' v L := by
  obtain ⟨ao, cap, rfl, hv⟩ := h
  refine ⟨ao, cap, rfl, fun k hk => ?_⟩
  obtain ⟨g, o, rfl, hc⟩ := hv k hk
  exact ⟨g, o, rfl, (World.cell?_of_block (a := ⟨g, o + k, none⟩) (hs g (hi g o none _ _ rfl (by omega)) (cell_lt hc))).trans hc⟩
theorem small_int (base p : Nat) (x m : Int) (v : Value) (L : List Int) (W : World) (h : WrB W base p v L) (hb : base ≤ W.heap.size) (hx : 0 ≤ x ∧ x ≤ m) (hm : m ≤ 4611686018427387904) (hL : L.length ≤ 1000000) :
    Calls Try.prog 44 #[wp p, .int .i64 x, .int .i64 m] W fun e w' => e = .returned (.tuple #[]) ∧ (∃ v', WrB w' base p v' (L ++ fm x.toNat)) ∧ WS base p W w' := by
  obtain ⟨n, rfl⟩ : ∃ n : Nat, x = n := ⟨x.toNat, by omega⟩
  obtain ⟨k, rfl⟩ : ∃ k : Nat, m = k := ⟨m.toNat, by omega⟩
  exact small_any base p n k v L W h hb (by omega) (by omega) hL
set_option maxRecDepth 100000 in
theorem put_any (base p q : Nat) (m : Int) (v u : Value) (L Ns : List Int) (W : World) (h : WrB W base p v L) (hb : base ≤ W.heap.size) (hq : ∀ w, WS base p W w → w.cell? ⟨q, 0, none⟩ = some (wp p)) (hu : ∀ w, WS base p W w → IntsV w u Ns)
    (hN : ∀ x ∈ Ns, 0 ≤ x ∧ x ≤ m) (hm : m ≤ 4611686018427387904) (hL : L.length + 10 * Ns.length ≤ 1000000) :
    Calls Try.prog 70 #[.int .i64 m, u, wp q] W fun e w' => e = .returned (.tuple #[]) ∧ (∃ v', WrB w' base p v' (L ++ flat Ns)) ∧ WS base p W w' := by
  obtain ⟨ao, cap, rfl⟩ := intsV_form (hu W (WS.of_later (Later.refl _)))
  obtain ⟨n, hn⟩ : ∃ n, Hid (Ns.length = n) := ⟨_, rfl⟩
  have hn1 : n ≤ 100000 := by have := hn.out; omega
  replace hu := Lib.hid hu
  replace hq := Lib.hid hq
  replace hN := Lib.hid hN
  replace hL := Lib.hid hL
  rw [hn.out] at hu ⊢
  go_enter Try.func70, Try.ntmps70
  go_wp2_with fail
  go_loopg [6, 9] (n + 1) (fun g y6 y wr => WS base p W wr ∧ ∃ (i : Nat) (v' : Value), g = n + 1 - i ∧ i ≤ n ∧ y = .int .i64 i ∧ WrB wr base p v' (L ++ flat (Ns.take i)))
  case atStart => exact ⟨WS.of_later (Later.refl _), 0, v, by omega, Nat.zero_le _, rfl, by simpa [flat] using h⟩
  case round =>
    obtain ⟨hs, i, v', rfl, hin, rfl, hw⟩ := hrel
    obtain ⟨wo, rfl⟩ : ∃ wo : World, wo = wr := ⟨_, rfl⟩
    by_cases hi : i < n
    · have hii : (i : Int) < (n : Int) := by omega
      obtain ⟨ao', cap', e, hv⟩ := hu.out wo hs
      injection e with e1 e2 e3
      subst e1 e3
      clear e2
      obtain ⟨g, o, rfl, hc⟩ := hv i (by rw [hn.out]; exact hi)
      have hlt : i < Ns.length := by rw [hn.out]; exact hi
      have hx : Ns.getD i 0 = Ns[i] := by rw [List.getD_eq_getElem?_getD, List.getElem?_eq_getElem hlt]; rfl
      have htk : Ns.take (i + 1) = Ns.take i ++ [Ns[i]] := by rw [List.take_add_one, List.getElem?_eq_getElem hlt]; rfl
      have hb2 := hN.out _ (List.getElem_mem hlt)
      rw [hx] at hc
      obtain ⟨x, hxx⟩ : ∃ x, Ns[i] = x := ⟨_, rfl⟩
      rw [hxx] at hc htk hb2
      replace htk := Lib.hid htk
      have hfl : (flat (Ns.take i)).length ≤ 10 * i := by
        have h1 : ∀ l : List Int, (flat l).length ≤ 10 * l.length := fun l => by
          induction l with
          | nil => simp [flat]
          | cons y l ih =>
            have h2 : flat (y :: l) = fm y.toNat ++ flat l := by simp [flat]
            have h3 := fm_len y.toNat
            rw [h2, List.length_append, List.length_cons]; omega
        have h4 := h1 (Ns.take i)
        rw [List.length_take] at h4; omega
      have cq := hq.out wo hs
      have HS := Lib.hid (small_int base p x m v' _ wo hw (Nat.le_trans hb hs.size) hb2 hm (by have := hL.out; have := hn.out; rw [List.length_append]; omega))
      have hs' := Lib.hid hs
      clear hv hx hxx hw hs hfl hlt
      go_wp2_with fail
      refine HS.out.mono ?_
      rintro e w2 ⟨rfl, ⟨v2, hw2⟩, hs2⟩
      go_wp2_with fail
      go_roundg (n - i)
      case measure => omega
      case rel => exact ⟨hs'.out.trans hs2, i + 1, v2, by omega, by omega, by go_num, by rw [htk.out, flat_snoc, ← List.append_assoc]; exact hw2⟩
    · obtain rfl : i = n := by omega
      have hii : ¬ (i : Int) < (i : Int) := by omega
      rw [List.take_of_length_le (by rw [hn.out]; exact Nat.le_refl _)] at hw
      go_wp2_with fail
      go_end0
      exact ⟨rfl, ⟨_, hw⟩, hs⟩
/-- The writer of a message, and what it lies among. -/
structure WX (W : World) (P p q : Nat) (cs : Array Value) (um ud : Value) (Ms D L : List Int) (w : World) : Prop where
  wr : ∃ v, WrB w (p + 1) p v L
  kP : w.heap[P]? = some (.cells cs 88 (0, 0))
  kq : w.heap[q]? = some (.cells #[wp p] 98 (0, 0))
  vm : IntsV w um Ms
  vd : BytV w ud D
  im : In um (· < W.heap.size)
  id_ : In ud (· < W.heap.size)
  ls : Later W w
  o1 : W.heap.size ≤ P
  o2 : P < p
  o3 : q = p + 1
  hb : p + 1 ≤ w.heap.size
section
variable {W w w' : World} {P p q : Nat} {cs : Array Value} {um ud : Value} {Ms D L L' : List Int}
theorem ws_type {base : Nat} {k : Nat} {c : Array Value} {t : TypeId} {fr : Nat × Nat} (hk : w.heap[k]? = some (.cells c t fr)) (ht : t ≠ 5) (hne : k ≠ p) (hs : WS base p w w') : w'.heap[k]? = some (.cells c t fr) :=
  (hs.block k (Array.getElem?_eq_some_iff.1 hk).1 hne (.inr fun c' fr' e => by
    rw [hk] at e; injection e with e; injection e with _ e _; exact ht e)).trans hk
theorem WX.step (h : WX W P p q cs um ud Ms D L w) (hw : ∃ v, WrB w' (p + 1) p v L') (hs : WS (p + 1) p w w') : WX W P p q cs um ud Ms D L' w' := by
  have o1 := h.o1; have o2 := h.o2; have o3 := h.o3
  exact ⟨hw, ws_type h.kP (by decide) (by omega) hs, ws_type h.kq (by decide) (by omega) hs,
    h.vm.stay h.im (fun g hg hl => hs.block g hl (by have hg : g < W.heap.size := hg; omega) (.inl (by have hg : g < W.heap.size := hg; omega))),
    h.vd.stay h.id_ (fun g hg hl => hs.block g hl (by have hg : g < W.heap.size := hg; omega) (.inl (by have hg : g < W.heap.size := hg; omega))),
    h.im, h.id_, ⟨hs.os.trans h.ls.os, hs.tape.trans h.ls.tape, hs.output.trans h.ls.output, Nat.le_trans h.ls.size hs.size, fun k hk => (hs.block k (Nat.lt_of_lt_of_le hk h.ls.size) (by omega) (.inl (by omega))).trans (h.ls.block k hk)⟩,
    h.o1, h.o2, h.o3, Nat.le_trans h.hb hs.size⟩
theorem WX.later (h : WX W P p q cs um ud Ms D L w) (hl : Later w w') : WX W P p q cs um ud Ms D L w' :=
  ⟨by obtain ⟨v, hv⟩ := h.wr; exact ⟨v, hv.later hl⟩, (hl.block _ (Array.getElem?_eq_some_iff.1 h.kP).1).trans h.kP, (hl.block _ (Array.getElem?_eq_some_iff.1 h.kq).1).trans h.kq, h.vm.later hl, h.vd.later hl, h.im, h.id_, h.ls.trans hl, h.o1, h.o2, h.o3, Nat.le_trans h.hb hl.size⟩
theorem WX.cell (h : WX W P p q cs um ud Ms D L w) (k : Nat) : w.cell? ⟨P, k, none⟩ = cs[k]? := cell_of_row w P k _ _ _ h.kP
theorem WX.cellq (h : WX W P p q cs um ud Ms D L w) : w.cell? ⟨q, 0, none⟩ = some (wp p) := cell_of_row w q 0 _ _ _ h.kq
/-- A few numbers are put. -/
theorem WX.put {m : Int} {xs : List Int} (h : WX W P p q cs um ud Ms D L w) (hx : ∀ x ∈ xs, 0 ≤ x ∧ x ≤ m) (hm : m ≤ 4611686018427387904) (hL : L.length + 10 * xs.length ≤ 1000000) (a : Array Value) (ha : a = (encI xs).toArray) (n c : Nat) (hn : n = xs.length) (hc : c = xs.length) :
    Calls Try.prog 70 #[.int .i64 m, .slice (some ⟨w.heap.size, 0, none⟩) n c, wp q] (w.alloc (.cells a 3)) fun e w' => e = .returned (.tuple #[]) ∧ WX W P p q cs um ud Ms D (L ++ flat xs) w' := by
  subst ha hn hc
  have h' := h.later ((Later.refl w).alloc (.cells (encI xs).toArray 3))
  obtain ⟨v, hv⟩ := h'.wr
  have hkk : (w.alloc (.cells (encI xs).toArray 3)).heap[w.heap.size]? = some (.cells (encI xs).toArray 3 (0, 0)) := push_new w _ rfl
  refine (put_any (p + 1) p q m v _ L xs _ hv h'.hb (fun w' hs => cell_of_row w' q 0 _ _ _ (ws_type h'.kq (by decide) (by have := h.o3; omega) hs)) (fun w' hs => ?_) hx hm hL).mono ?_
  · refine ⟨_, _, rfl, fun k hk => ⟨_, 0, rfl, ?_⟩⟩
    rw [Nat.zero_add, cell_of_row w' _ k _ _ _ (ws_type hkk (by decide) (by have := h.hb; omega) hs)]
    unfold encI
    rw [List.getElem?_toArray, List.getElem?_map, List.getElem?_eq_getElem hk, List.getD_eq_getElem?_getD, List.getElem?_eq_getElem hk]; rfl
  · rintro e w' ⟨rfl, hw, hs⟩
    exact ⟨rfl, h'.step hw hs⟩
end
end Go.Proofs.Ytjelfiljebamgaa
