/-
  Chapter 6: the first rule that is broken, plainly; the iterator's contract.
-/
import Derived.Test.YtackbajbladhhaaScH
namespace Go.Proofs.Ytackbajbladhhaa
open Go.RowKit Go.Shelf
set_option linter.unusedVariables false
set_option linter.unusedSimpArgs false

theorem broken_stops (S R : Nat) (s : Scn) (r : Nat) (Sx : Nat → Prop) (w0 : World) (hlen : s.os.length ≤ 1000000) (hr : 4 ≤ r ∧ r ≤ 8) (hvl : r = 8 → ∀ x ∈ s.os, x.vs.length ≤ 1000000)
    (hSx : Sx S ∧ Sx R) (hSb : ∀ j, Sx j → j < w0.heap.size) (hw0 : ∀ V, KeepS Sx w0 V → s.Ok V) (hS : ScnB w0 S s) (hR : w0.heap[R]? = some (.cells #[.int .i64 r] 3 (0, 0))) :
    SeqStopsK Fence.wide 3 Try.prog 72 #[wp S, wp R] (fun k : Nat => #[.int .i64 k]) (KeepS Sx)
      (fun ys => ys = badL s r s.os.length) (fun pre => ∃ k x, s.os[k]? = some x ∧ keepsB s k x r = false ∧ pre = badL s r k ++ [k]) s.os.length w0 := fun l J Jx W hW hJ hJx hY h0 => by
  have hl : Later w0 W := hW
  have hk0 : KeepS Sx w0 W := KeepS.later hl hSb
  refine (broken1_in l S R s r Sx J Jx W hlen hr hvl hJ hSx (fun j hj => Nat.lt_of_lt_of_le (hSb j hj) hl.size) (fun V hV => hw0 V (hk0.trans hV)) ?_ (hl.row hS) (hl.row hR) h0).mono fun e W' h => h
  intro pre k W1 _ hj hlen'
  exact hY pre k W1 hj hlen'

theorem badL_prefix (s : Scn) (r k : Nat) : ∀ m, ∃ l, badL s r (k + m) = badL s r k ++ l
  | 0 => ⟨[], by simp⟩
  | m + 1 => by
    obtain ⟨l, hl⟩ := badL_prefix s r k m
    refine ⟨l ++ (match s.os[k + m]? with | some x => if keepsB s (k + m) x r = true then [] else [k + m] | none => []), ?_⟩
    rw [show k + (m + 1) = (k + m) + 1 by omega]
    conv => lhs; unfold badL
    rw [hl, List.append_assoc]
    first | rfl | (cases s.os[k + m]? <;> rfl)
theorem badL_nil {s : Scn} {r : Nat} : ∀ {n : Nat}, badL s r n = [] → ∀ k x, k < n → s.os[k]? = some x → keepsB s k x r = true
  | 0, _ => fun k x hk => by omega
  | n + 1, h => fun k x hk hx => by
    unfold badL at h
    rw [List.append_eq_nil_iff] at h
    by_cases e : k = n
    · subst e
      rw [hx] at h
      by_cases hb : keepsB s k x r = true
      · exact hb
      · have := h.2
        simp [hb] at this
    · exact badL_nil h.1 k x (by omega) hx
theorem nil_badL {s : Scn} {r : Nat} : ∀ {n : Nat}, (∀ k x, k < n → s.os[k]? = some x → keepsB s k x r = true) → badL s r n = []
  | 0, _ => rfl
  | n + 1, h => by
    have ih := nil_badL (s := s) (r := r) (n := n) (fun k x hk hx => h k x (by omega) hx)
    unfold badL
    rw [ih]
    cases hx : s.os[n]? with
    | none => rfl
    | some x => simp [h n x (by omega) hx]
theorem badL_cons {s : Scn} {r k n : Nat} {x : SObj} (hx : s.os[k]? = some x) (hb : keepsB s k x r = false) (h0 : badL s r k = []) (hk : k < n) : ∃ l, badL s r n = k :: l := by
  obtain ⟨l, hl⟩ := badL_prefix s r (k + 1) (n - (k + 1))
  rw [show k + 1 + (n - (k + 1)) = n by omega, badL_bad hx hb, h0] at hl
  exact ⟨l, by rw [hl]; rfl⟩
/-- The first rule from one on that is broken, and by which object. -/
noncomputable def wrongFrom (s : Scn) : Nat → Nat → Int × Int
  | 0, _ => (0, -1)
  | m + 1, r => match badL s r s.os.length with
    | k :: _ => ((r : Int), (k : Int))
    | [] => wrongFrom s m (r + 1)
theorem wrongFrom_hit {s : Scn} {m r k : Nat} {l : List Nat} (h : badL s r s.os.length = k :: l) : wrongFrom s (m + 1) r = ((r : Int), (k : Int)) := by
  unfold wrongFrom; rw [h]
theorem wrongFrom_miss {s : Scn} {m r : Nat} (h : badL s r s.os.length = []) : wrongFrom s (m + 1) r = wrongFrom s m (r + 1) := by
  conv => lhs; unfold wrongFrom
  rw [h]
def sizeMay (s : Scn) : Bool := allIn 1 64 [s.W, s.H]
noncomputable def wrongQ (s : Scn) : Int × Int :=
  if sizeMay s = false then (1, -1)
  else if ¬ Within 16777216 16 s.cam then (2, -1)
  else if 16 < s.os.length then (3, -1)
  else wrongFrom s 5 4
theorem seven_verts {s : Scn} (h : badL s 7 s.os.length = []) : ∀ x ∈ s.os, x.vs.length ≤ 1000000 := by
  intro x hx
  obtain ⟨k, hk, rfl⟩ := List.getElem_of_mem hx
  have := badL_nil h k _ hk (List.getElem?_eq_getElem hk)
  unfold keepsB at this
  simp at this
  omega
theorem RowsV.same {n : Nat} {w w' : World} {v : Value} {L : List (List Value)} (h : RowsV n w v L) (hl : ∀ k, k < w.heap.size → w'.heap[k]? = w.heap[k]?) : RowsV n w' v L := by
  obtain ⟨ao, cap, rfl, hc, hk⟩ := h
  refine ⟨ao, cap, rfl, hc, fun k x hx => ?_⟩
  obtain ⟨g, o, e, hr⟩ := hk k x hx
  refine ⟨g, o, e, fun j v hv => ?_⟩
  have h1 := hr j v hv
  exact (World.cell?_of_block (a := ⟨g, o + k * n + j, none⟩) (hl g (cell_lt h1))).trans h1
theorem Scn.Ok.same {w w' : World} {s : Scn} (h : s.Ok w) (hl : ∀ k, k < w.heap.size → w'.heap[k]? = w.heap[k]?) : s.Ok w' :=
  ⟨h.1.same hl, fun x hx => ⟨(h.2 x hx).1.same hl, (h.2 x hx).2.same hl⟩⟩
end Go.Proofs.Ytackbajbladhhaa
