/-
  Chapter 21's law: strings of bytes; the first examples.
-/
import Derived.Laws.BytesArg
import Derived.Lib.SlBytesConst
import Derived.Test.YtjelfiljebamgaaPcH
namespace Go.Proofs.Ytjelfiljebamgaa
open Go.RowKit Go.Shelf
set_option linter.unusedVariables false
set_option linter.unusedSimpArgs false
attribute [local go_sem] Oper.semAt_some

theorem bytV_string {W : World} {u : Value} {L : List Int} (h : BytV W u L) : (convert 23 9 u).run Try.prog W = .ok (.string (strOfNums L)) W := by
  obtain ⟨hb, ao, cap, rfl, hc, hv⟩ := h
  cases ao with
  | none =>
    have hc0 := hc.2 rfl
    have hL : L = [] := List.length_eq_zero_iff.1 (by omega)
    subst hL
    exact run_convert_bytes_nil W _ 5 Try.underlying23 Try.underlying5 _ _ _ Try.underlying9
  | some a =>
    have hl : (loadCells a L.length).run Try.prog W = .ok (L.map (Value.int .u8)).toArray W := by
      have := run_loadCells_list (P := Try.prog) W a (L.map (Value.int .u8)) (fun j v hj => by
        have hjl : j < L.length := by
          rcases Nat.lt_or_ge j L.length with h | h
          · exact h
          · simp [List.getElem?_eq_none (show (L.map (Value.int .u8)).length ≤ j by simpa using h)] at hj
        obtain ⟨g, o, e, h1⟩ := hv j hjl
        cases e
        have hplain : (⟨g, o, none⟩ : Addr).add j = ⟨g, o + j, none⟩ := by unfold Addr.add; split <;> simp_all
        rw [hplain, h1]
        simp [List.getElem?_eq_getElem hjl] at hj
        subst hj
        simp [List.getD, List.getElem?_eq_getElem hjl])
      simpa using this
    rw [run_convert_bytes_string W _ _ 5 _ _ cap Try.underlying23 Try.underlying5 Try.underlying9, run_bytesToString W _ _ cap L hl, foldl_push_bytes]
    simp [strOfNums, ByteArray.empty, ByteArray.emptyWithCapacity]
    rfl
theorem str_inj : ∀ {L M : List Int}, Byt L → Byt M → (L.map fun n => UInt8.ofNat n.toNat) = (M.map fun n => UInt8.ofNat n.toNat) → L = M
  | [], [], _, _, _ => rfl
  | [], m :: M, _, _, h => by cases h
  | l :: L, [], _, _, h => by cases h
  | l :: L, m :: M, h1, h2, h => by
    rw [List.map_cons, List.map_cons] at h
    injection h with e1 e2
    have b1 := h1 l (by simp)
    have b2 := h2 m (by simp)
    have e3 : l = m := by
      have := congrArg UInt8.toNat e1
      rw [UInt8.toNat_ofNat', UInt8.toNat_ofNat'] at this
      omega
    rw [e3, str_inj (fun x hx => h1 x (by simp [hx])) (fun x hx => h2 x (by simp [hx])) e2]
theorem str_eq {L M : List Int} (h1 : Byt L) (h2 : Byt M) : strOfNums L = strOfNums M ↔ L = M :=
  ⟨fun h => str_inj h1 h2 (by rw [← strOfNums_data, ← strOfNums_data, h]), fun h => by rw [h]⟩
def threeL : List (List Int) := [[5, 2, 0, 2, 97, 98], [5, 2, 1, 2, 99, 100], [5, 2, 2, 1, 101]]
set_option maxRecDepth 10000 in
theorem three_any (W : World) : Calls Try.prog 33 #[] W fun e w' => ∃ v vs, e = .returned v ∧ w'.ownsRow W.heap.size 23 1 v 3 vs ∧ Pcs w' W.heap.size vs threeL ∧ Later W w' := by
  have hu : BytV (W.alloc (.cells #[.int .u8 97, .int .u8 98, .int .u8 99, .int .u8 100, .int .u8 101] 5 (5, 6))) (.slice (some ⟨W.heap.size, 0, none⟩) 5 5) [97, 98, 99, 100, 101] := by
    refine ⟨by intro x hx; simp at hx; omega, _, _, rfl, ⟨Nat.le_refl _, fun e => by cases e⟩, fun k hk => ⟨_, _, rfl, ?_⟩⟩
    have hk5 : k < 5 := hk
    rw [cell_of_row _ _ _ _ _ _ (heap_alloc_new W _)]
    rcases (show k = 0 ∨ k = 1 ∨ k = 2 ∨ k = 3 ∨ k = 4 by omega) with rfl | rfl | rfl | rfl | rfl <;> rfl
  have hl : Later W (W.alloc (.cells #[.int .u8 97, .int .u8 98, .int .u8 99, .int .u8 100, .int .u8 101] 5 (5, 6))) := (Later.refl _).alloc _
  have hcv := fun (w : World) (C : Array Value) (n c : Nat) => Lib.run_convert_bytes_const (P := Try.prog) w 23 5 C n c Try.underlying23 Try.underlying5
  have HC := Lib.hid (cut_any 5 2 _ _ _ hu (by decide) ⟨by decide, by decide, by decide, by decide⟩)
  go_enter Try.func33, Try.ntmps33
  go_wp2_with fail
  refine HC.out.mono ?_
  rintro e w2 ⟨(⟨h4, v, vs, rfl, hr, hp⟩ | ⟨h4, rfl⟩), h2⟩
  · go_wp2_with fail
    go_ret
    exact ⟨_, _, rfl, row_mono hr hl.size, ⟨hp.1, fun j u D h1 h3 => row_mono (hp.2 j u D h1 h3) hl.size⟩, hl.trans h2⟩
  · exact absurd (by decide) h4
theorem bytV_sl {W : World} {u : Value} {D : List Int} (h : BytV W u D) : ∃ m a q, u = .slice a m q := by
  obtain ⟨a, c, h⟩ := bytV_form h
  exact ⟨_, a, c, h⟩
theorem pcs_at {W : World} {B : Nat} {vs : List Value} {Ls : List (List Int)} (h : Pcs W B vs Ls) (hb : ∀ D ∈ Ls, Byt D) {k : Nat} {D : List Int} (hk : Ls[k]? = some D) : ∃ u, vs[k]? = some u ∧ BytV W u D := by
  have hlt : k < vs.length := by rw [h.1]; exact (List.getElem?_eq_some_iff.1 hk).1
  refine ⟨vs[k], List.getElem?_eq_getElem hlt, ?_⟩
  exact (bytV_of_row (hb D (List.mem_of_getElem? hk)) (h.2 k _ D (List.getElem?_eq_getElem hlt) hk)).1
set_option maxRecDepth 10000 in
theorem alive_any (W : World) : Calls Try.prog 18 #[] W fun e w' => e = .returned (.bool true) ∧ Later W w' := by
  have hbt : ∀ D ∈ threeL, Byt D := by
    intro D hD x hx
    have : ∀ D ∈ threeL, ∀ x ∈ D, 0 ≤ x ∧ x < 256 := by decide
    exact this D hD x hx
  go_enter Try.func18, Try.ntmps18
  go_wp2_with fail
  refine (three_any _).mono ?_
  rintro e w1 ⟨v, vs, rfl, hr, hp, h1⟩
  obtain ⟨g, cap, rfl⟩ := ownsRow_succ hr
  obtain ⟨u0, e0, b0⟩ := pcs_at hp hbt (k := 0) rfl
  obtain ⟨u1, e1, b1⟩ := pcs_at hp hbt (k := 1) rfl
  obtain ⟨u2, e2, b2⟩ := pcs_at hp hbt (k := 2) rfl
  have c0 := (hr.cellAt 0 (by omega)).trans e0
  have c1 := (hr.cellAt 1 (by omega)).trans e1
  have c2 := (hr.cellAt 2 (by omega)).trans e2
  have s0 : (convert 23 9 u0).run Try.prog w1 = .ok (.string { data := #[5, 2, 0, 2, 97, 98] }) w1 := bytV_string b0
  have s1 : (convert 23 9 u1).run Try.prog w1 = .ok (.string { data := #[5, 2, 1, 2, 99, 100] }) w1 := bytV_string b1
  have s2 : (convert 23 9 u2).run Try.prog w1 = .ok (.string { data := #[5, 2, 2, 1, 101] }) w1 := bytV_string b2
  obtain ⟨m0, a0, q0, rfl⟩ := bytV_sl b0
  obtain ⟨m1, a1, q1, rfl⟩ := bytV_sl b1
  obtain ⟨m2, a2, q2, rfl⟩ := bytV_sl b2
  clear b0 b1 b2 e0 e1 e2 hp hr
  go_wp2_with fail
  go_ret
  exact ⟨rfl, h1⟩
end Go.Proofs.Ytjelfiljebamgaa
