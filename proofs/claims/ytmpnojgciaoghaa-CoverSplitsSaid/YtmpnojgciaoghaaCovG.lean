/-
  Chapter 11: Cells, the program's: the iterator's contract, and the loop that collects.
-/
import Derived.Test.YtmpnojgciaoghaaCovF
import Derived.Deep.AppendLies
import Derived.Deep.DeepCutAuto
namespace Go.Proofs.Ytmpnojgciaoghaa
open Go.RowKit Go.Shelf
set_option linter.unusedVariables false
set_option linter.unusedSimpArgs false
attribute [local go_sem] Oper.semAt_some

abbrev Px := { p : Int × Int // 0 ≤ p.1 ∧ p.1 ≤ 63 ∧ 0 ≤ p.2 ∧ p.2 ≤ 63 }
def boxL (a b c : C3) (w h : Int) : List (Int × Int) := pix (lo3 a.x b.x c.x) (gX w a b c) (lo3 a.y b.y c.y) (eY h a b c)

theorem pixels_stops (T Hb Wb n₀ o : Nat) (a b c : C3) (w h : Int) (w0 : World) (ha : MayP a) (hb : MayP b) (hc : MayP c) (hh : 1 ≤ h ∧ h ≤ 64) (hw : 1 ≤ w ∧ w ≤ 64)
    (hT : T < n₀ ∧ T ≠ o) (hHb : Hb < n₀ ∧ Hb ≠ o) (hWb : Wb < n₀ ∧ Wb ≠ o)
    (t0 : w0.cell? ⟨T, 0, none⟩ = some (.int .i64 a.x)) (t1 : w0.cell? ⟨T, 1, none⟩ = some (.int .i64 a.y)) (t3 : w0.cell? ⟨T, 3, none⟩ = some (.int .i64 b.x)) (t4 : w0.cell? ⟨T, 4, none⟩ = some (.int .i64 b.y))
    (t6 : w0.cell? ⟨T, 6, none⟩ = some (.int .i64 c.x)) (t7 : w0.cell? ⟨T, 7, none⟩ = some (.int .i64 c.y)) (th : w0.cell? ⟨Hb, 0, none⟩ = some (.int .i64 h)) (tw : w0.cell? ⟨Wb, 0, none⟩ = some (.int .i64 w)) :
    SeqStopsK Fence.wide 3 Try.prog 36 #[.pointer (some ⟨T, 0, none⟩), .pointer (some ⟨Hb, 0, none⟩), .pointer (some ⟨Wb, 0, none⟩)] (fun x : Px => encp x.1) (Apart n₀ o)
      (fun ys => ys.map (·.1) = boxL a b c w h) (fun _ => True) 4096 w0 := fun l J Jx W hW hJ hJx hY h0 => by
  have hl : Later w0 W := hW
  refine (pixels1_in l T Hb Wb n₀ o a b c h w (fun ys W => ∃ zs : List Px, zs.map (·.1) = ys ∧ J zs W) (fun ys W => ∃ zs : List Px, zs.map (·.1) = ys ∧ Jx zs W) W ha hb hc hh hw hT hHb hWb ?_ ?_
    (hl.cell t0) (hl.cell t1) (hl.cell t3) (hl.cell t4) (hl.cell t6) (hl.cell t7) (hl.cell th) (hl.cell tw) ⟨[], rfl, h0⟩).mono ?_
  · rintro s X Y row ⟨zs, hz, hj⟩ hg hr
    exact ⟨zs, hz, hJ zs X Y row hj hg hr⟩
  · rintro pre x W1 hx ⟨zs, rfl, hj⟩ hlen
    obtain ⟨fn, tmps, assign, body, hy, hR⟩ := hY zs ⟨x, hx⟩ W1 hj (by simpa using hlen)
    refine ⟨fn, tmps, assign, body, hy, hR.mono ?_⟩
    rintro e W' (⟨he, h1, h2⟩ | ⟨he, h1⟩)
    · exact .inl ⟨he, ⟨zs ++ [⟨x, hx⟩], by simp, h1⟩, h2⟩
    · exact .inr ⟨he, ⟨zs ++ [⟨x, hx⟩], by simp, h1⟩⟩
  · rintro e W' ⟨hv, h | h⟩
    · obtain ⟨xs, hxs, zs, hz, hj⟩ := h
      exact ⟨hv, .inl ⟨zs, by show zs.map (·.1) = _; rw [hz, hxs]; rfl, hj⟩⟩
    · obtain ⟨xs, _, zs, hz, hj⟩ := h
      exact ⟨hv, .inr ⟨zs, trivial, hj⟩⟩

theorem pixels_any (a b c : C3) (w h : Int) (W : World) :
    Calls Try.prog 33 #[tri a b c, .int .i64 w, .int .i64 h] W fun e w' =>
      e = .returned (.func (.func 36) #[] #[.pointer (some ⟨W.heap.size, 0, none⟩), .pointer (some ⟨W.heap.size + 1 + 1, 0, none⟩), .pointer (some ⟨W.heap.size + 1, 0, none⟩)]) ∧
      w' = ((W.alloc (.cells #[.int .i64 a.x, .int .i64 a.y, .int .i64 a.z, .int .i64 b.x, .int .i64 b.y, .int .i64 b.z, .int .i64 c.x, .int .i64 c.y, .int .i64 c.z] 24)).alloc (.cells #[.int .i64 w] 3)).alloc (.cells #[.int .i64 h] 3) := by
  go_enter Try.func33, Try.ntmps33
  go_wp2
  go_ret
  exact ⟨rfl, rfl⟩

def cellOf (a b c : C3) (s : Int) (p : Int × Int) : Option (Int × Int × Int) := if tellI a b c s p.1 p.2 then some (p.1, p.2, tellZ a b c s p.1 p.2) else none
def enc3 (q : Int × Int × Int) : List Value := [.int .i64 q.1, .int .i64 q.2.1, .int .u32 q.2.2]
def encs (L : List (Int × Int × Int)) : List Value := L.flatMap enc3
theorem encs_snoc (L : List (Int × Int × Int)) (q : Int × Int × Int) : encs (L ++ [q]) = encs L ++ enc3 q := by simp [encs]

theorem grown_edge {w0 w : World} {o : Nat} {v : Value} {a b : C3} (h : w0.grownBy w (some o)) (he : EdgeV w0 v a b) (ho : w0.cell? ⟨o, 0, none⟩ = some (.slice none 0 0)) : EdgeV w v a b := by
  obtain ⟨d, p, e, q, hv, h1, h2, h3, h4, h5⟩ := he
  have n1 : d ≠ o := by rintro rfl; rw [ho] at h1; cases h1
  have n2 : p ≠ o := by rintro rfl; rw [ho] at h2; cases h2
  have n3 : e ≠ o := by rintro rfl; rw [ho] at h4; cases h4
  have n4 : q ≠ o := by rintro rfl; rw [ho] at h5; cases h5
  exact ⟨d, p, e, q, hv, grown_cell h h1 n1, grown_cell h h2 n2, grown_cell h h3 n2, grown_cell h h4 n3, grown_cell h h5 n4⟩
theorem grown_shape {w0 w : World} {o B : Nat} {a b c : C3} {s : Int} (h : w0.grownBy w (some o)) (hs : Shape w0 B a b c s) (ho : w0.cell? ⟨o, 0, none⟩ = some (.slice none 0 0)) : Shape w B a b c s := by
  obtain ⟨⟨⟨h0, h1, h2, h3, h4, h5, h6, h7, h8⟩, h9⟩, v0, v1, v2, g0, e0, g1, e1, g2, e2⟩ := hs
  have n : B ≠ o := by rintro rfl; rw [ho] at h0; cases h0
  exact ⟨⟨⟨grown_cell h h0 n, grown_cell h h1 n, grown_cell h h2 n, grown_cell h h3 n, grown_cell h h4 n, grown_cell h h5 n, grown_cell h h6 n, grown_cell h h7 n, grown_cell h h8 n⟩, grown_cell h h9 n⟩,
    v0, v1, v2, grown_cell h g0 n, grown_edge h e0 ho, grown_cell h g1 n, grown_edge h e1 ho, grown_cell h g2 n, grown_edge h e2 ho⟩

theorem info_cell : (Try.prog.info? 57).map (fun i => (i.zero, i.size, i.bytes)) = some (some (.agg #[.int .i64 0, .int .i64 0, .int .u32 0]), 3, 24) := by kernel_rfl

/-- A slice of cells: what it holds. -/
def CellsV (w : World) (v : Value) (L : List (Int × Int × Int)) : Prop :=
  ∃ ao cap, v = .slice ao L.length cap ∧ ∀ k, k < L.length → ∃ g, ao = some ⟨g, 0, none⟩ ∧ w.cell? ⟨g, 3 * k, none⟩ = some (.int .i64 (L.getD k (0, 0, 0)).1) ∧ w.cell? ⟨g, 3 * k + 1, none⟩ = some (.int .i64 (L.getD k (0, 0, 0)).2.1) ∧ w.cell? ⟨g, 3 * k + 2, none⟩ = some (.int .u32 (L.getD k (0, 0, 0)).2.2)
def CellsRet (L : List (Int × Int × Int)) (n : Int) (w : World) (e : Ending) (w' : World) : Prop :=
  ∃ v, e = .returned (.tuple #[v, .int .i64 n]) ∧ CellsV w' v L ∧ Later w w'

def covL (a b c : C3) (w h : Int) : List (Int × Int × Int) := (boxL a b c w h).filterMap (cellOf a (shB b c (sdW a b c.x c.y)) (shC b c (sdW a b c.x c.y)) (shS (sdW a b c.x c.y)))

def pixL (a b c : C3) (pre : List Px) : List (Int × Int × Int) := (pre.map (·.1)).filterMap (cellOf a (shB b c (sdW a b c.x c.y)) (shC b c (sdW a b c.x c.y)) (shS (sdW a b c.x c.y)))

theorem pixL_snoc (a b c : C3) (pre : List Px) (x : Px) : pixL a b c (pre ++ [x]) = pixL a b c pre ++ (cellOf a (shB b c (sdW a b c.x c.y)) (shC b c (sdW a b c.x c.y)) (shS (sdW a b c.x c.y)) x.1).toList := by
  unfold pixL
  rw [List.map_append, List.filterMap_append]
  show _ ++ List.filterMap _ [x.1] = _
  rw [List.filterMap_cons]
  cases cellOf a (shB b c (sdW a b c.x c.y)) (shC b c (sdW a b c.x c.y)) (shS (sdW a b c.x c.y)) x.1 <;> rfl
theorem pixL_hit {a b c : C3} {pre : List Px} {x : Px} {z : Int} (h : tellI a (shB b c (sdW a b c.x c.y)) (shC b c (sdW a b c.x c.y)) (shS (sdW a b c.x c.y)) x.1.1 x.1.2 = true)
    (hz : tellZ a (shB b c (sdW a b c.x c.y)) (shC b c (sdW a b c.x c.y)) (shS (sdW a b c.x c.y)) x.1.1 x.1.2 = z) : pixL a b c (pre ++ [x]) = pixL a b c pre ++ [(x.1.1, x.1.2, z)] := by
  rw [pixL_snoc]; unfold cellOf; rw [if_pos h, hz]; rfl
theorem pixL_miss {a b c : C3} {pre : List Px} {x : Px} (h : tellI a (shB b c (sdW a b c.x c.y)) (shC b c (sdW a b c.x c.y)) (shS (sdW a b c.x c.y)) x.1.1 x.1.2 = false) : pixL a b c (pre ++ [x]) = pixL a b c pre := by
  rw [pixL_snoc]; unfold cellOf; rw [if_neg (by rw [h]; simp)]; exact List.append_nil _
theorem pixL_length (a b c : C3) (pre : List Px) : (pixL a b c pre).length ≤ pre.length := by
  unfold pixL
  exact Nat.le_trans (List.length_filterMap_le _ _) (by simp)
theorem pixL_all {a b c : C3} {w h : Int} {ys : List Px} (hy : ys.map (·.1) = boxL a b c w h) : pixL a b c ys = covL a b c w h := by unfold pixL covL; rw [hy]
theorem encs_cons (q : Int × Int × Int) (L : List (Int × Int × Int)) : encs (q :: L) = .int .i64 q.1 :: .int .i64 q.2.1 :: .int .u32 q.2.2 :: encs L := by simp [encs, enc3]
theorem encs_get : ∀ (L : List (Int × Int × Int)) (k : Nat), k < L.length → (encs L)[3 * k]? = some (.int .i64 (L.getD k (0, 0, 0)).1) ∧ (encs L)[3 * k + 1]? = some (.int .i64 (L.getD k (0, 0, 0)).2.1) ∧ (encs L)[3 * k + 2]? = some (.int .u32 (L.getD k (0, 0, 0)).2.2)
  | [], k, h => by simp at h
  | q :: L, 0, _ => by rw [encs_cons]; exact ⟨rfl, rfl, rfl⟩
  | q :: L, k + 1, h => by
    have ih := encs_get L k (by simpa using h)
    rw [encs_cons, show 3 * (k + 1) + 2 = (3 * k + 2) + 3 by omega, show 3 * (k + 1) + 1 = (3 * k + 1) + 3 by omega, show 3 * (k + 1) = 3 * k + 3 by omega]
    simpa using ih
theorem cellsV_of_row {w : World} {base : Nat} {v : Value} {L : List (Int × Int × Int)} {E : TypeId} (h : w.ownsRow base E 3 v L.length (encs L)) : CellsV w v L := by
  rcases h.2 with ⟨rfl, h0⟩ | ⟨g, cap, cur, rfl, _⟩
  · exact ⟨none, 0, by rw [h0], fun k hk => by omega⟩
  · refine ⟨some ⟨g, 0, none⟩, cap, rfl, fun k hk => ?_⟩
    obtain ⟨h1, h2, h3⟩ := encs_get L k hk
    exact ⟨g, rfl, (h.cellAt (3 * k) (by omega)).trans h1, (h.cellAt (3 * k + 1) (by omega)).trans h2, (h.cellAt (3 * k + 2) (by omega)).trans h3⟩
end Go.Proofs.Ytmpnojgciaoghaa
