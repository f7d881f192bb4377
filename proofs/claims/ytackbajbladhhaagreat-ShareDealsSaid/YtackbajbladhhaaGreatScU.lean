/-
  Chapter 6: the library's sort of ints, by its contract (laid by the kit's tool); lists of ints.
-/
import Derived.Shelf.Sort.Plain
import Derived.Shelf.Slices.In.SortNone
import Derived.Sort.OwnSortedInts
import Derived.Test.YtackbajbladhhaaGreatScT
namespace Go.Proofs.YtackbajbladhhaaGreat
open Go.RowKit Go.Shelf
set_option linter.unusedVariables false
set_option linter.unusedSimpArgs false
def lays189_ren : Go.Shelf.Ren := ⟨fun | 189 => 33 | 125 => 40 | 257 => 39 | 128 => 56 | 129 => 57 | 294 => 47 | 295 => 48 | 296 => 49 | 297 => 50 | 298 => 51 | 299 => 52 | 216 => 53 | 300 => 54 | 301 => 55 | 328 => 68 | 329 => 69 | 330 => 70 | 331 => 71 | 332 => 72 | 215 => 73 | 343 => 84 | n => n, fun | 28 => 29 | 3 => 3 | 46 => 83 | 0 => 0 | 51 => 73 | 53 => 102 | 4 => 4 | 183 => 95 | 182 => 94 | 131 => 57 | 5 => 5 | 9 => 9 | 218 => 115 | 222 => 119 | 228 => 138 | 229 => 34 | n => n, fun | n => n⟩
theorem lays189 : Go.Proofs.Lays.n189 Tryz.prog lays189_ren := {
  mixed := by kernel_rfl
  f125 := Tryz.func40.trans (congrArg some (by kernel_rfl))
  f128 := Tryz.func56.trans (congrArg some (by kernel_rfl))
  f129 := Tryz.func57.trans (congrArg some (by kernel_rfl))
  f189 := Tryz.func33.trans (congrArg some (by kernel_rfl))
  f215 := Tryz.func73.trans (congrArg some (by kernel_rfl))
  f216 := Tryz.func53.trans (congrArg some (by kernel_rfl))
  f257 := Tryz.func39.trans (congrArg some (by kernel_rfl))
  f294 := Tryz.func47.trans (congrArg some (by kernel_rfl))
  f295 := Tryz.func48.trans (congrArg some (by kernel_rfl))
  f296 := Tryz.func49.trans (congrArg some (by kernel_rfl))
  f297 := Tryz.func50.trans (congrArg some (by kernel_rfl))
  f298 := Tryz.func51.trans (congrArg some (by kernel_rfl))
  f299 := Tryz.func52.trans (congrArg some (by kernel_rfl))
  f300 := Tryz.func54.trans (congrArg some (by kernel_rfl))
  f301 := Tryz.func55.trans (congrArg some (by kernel_rfl))
  f328 := Tryz.func68.trans (congrArg some (by kernel_rfl))
  f329 := Tryz.func69.trans (congrArg some (by kernel_rfl))
  f330 := Tryz.func70.trans (congrArg some (by kernel_rfl))
  f331 := Tryz.func71.trans (congrArg some (by kernel_rfl))
  f332 := Tryz.func72.trans (congrArg some (by kernel_rfl))
  f343 := Tryz.func84.trans (congrArg some (by kernel_rfl))
  t0 := Tryz.underlying0
  a0 := Tryz.isAgg0
  z0 := Tryz.sizeOf0
  v0 := Tryz.zeroValue0
  t3 := Tryz.underlying3
  a3 := Tryz.isAgg3
  z3 := Tryz.sizeOf3
  v3 := Tryz.zeroValue3
  t4 := Tryz.underlying4
  a4 := Tryz.isAgg4
  z4 := Tryz.sizeOf4
  v4 := Tryz.zeroValue4
  t5 := Tryz.underlying5
  a5 := Tryz.isAgg5
  z5 := Tryz.sizeOf5
  v5 := Tryz.zeroValue5
  t9 := Tryz.underlying9
  a9 := Tryz.isAgg9
  z9 := Tryz.sizeOf9
  v9 := Tryz.zeroValue9
  t28 := Tryz.underlying29
  a28 := Tryz.isAgg29
  z28 := Tryz.sizeOf29
  v28 := Tryz.zeroValue29
  t46 := Tryz.underlying83
  a46 := Tryz.isAgg83
  z46 := Tryz.sizeOf83
  v46 := Tryz.zeroValue83
  t51 := Tryz.underlying73
  a51 := Tryz.isAgg73
  z51 := Tryz.sizeOf73
  v51 := Tryz.zeroValue73
  t53 := Tryz.underlying102
  a53 := Tryz.isAgg102
  z53 := Tryz.sizeOf102
  v53 := Tryz.zeroValue102
  t131 := Tryz.underlying57
  a131 := Tryz.isAgg57
  z131 := Tryz.sizeOf57
  v131 := Tryz.zeroValue57
  t182 := Tryz.underlying94
  a182 := Tryz.isAgg94
  z182 := Tryz.sizeOf94
  v182 := Tryz.zeroValue94
  t183 := Tryz.underlying95
  a183 := Tryz.isAgg95
  z183 := Tryz.sizeOf95
  v183 := Tryz.zeroValue95
  t218 := Tryz.underlying115
  a218 := Tryz.isAgg115
  z218 := Tryz.sizeOf115
  v218 := Tryz.zeroValue115
  t222 := Tryz.underlying119
  a222 := Tryz.isAgg119
  z222 := Tryz.sizeOf119
  v222 := Tryz.zeroValue119
  t228 := Tryz.underlying138
  a228 := Tryz.isAgg138
  z228 := Tryz.sizeOf138
  v228 := Tryz.zeroValue138
  t229 := Tryz.underlying34
  a229 := Tryz.isAgg34
  z229 := Tryz.sizeOf34
  v229 := Tryz.zeroValue34 }
open Go.Sort Go.RowKit in
theorem slices_Sort_int (blk off cap : Nat) (zs : List Int) (w : World) (hH : Holds (Value.int .i64) w blk off zs.toArray) (hblk : blk < w.heap.size) (hsz : zs.length < 4611686018427387904) :
    Calls Tryz.prog 33 #[.slice (some ⟨blk, off, none⟩) zs.length cap] w fun e w' =>
      e = .returned (.tuple #[]) ∧ ∃ n os, w' = grow (putRow (Value.int .i64) (Sort.ahead w n) blk off (zs.mergeSort fun x y => decide (x ≤ y)).toArray) os := Any.slices_Sort_int lays189 blk off cap zs w hH hblk hsz
open Go.RowKit Go.Sort in
theorem slices_Sort_int_none (p : Option Addr) (cap : Nat) (w : World) :
    Calls Tryz.prog 33 #[.slice p 0 cap] w fun e w' => e = .returned (.tuple #[]) ∧ w' = w := Any.slices_Sort_int_none lays189 p cap w

def encI (L : List Int) : List Value := L.map (Value.int .i64)
/-- A slice of ints: what it holds. -/
def IntsV (w : World) (v : Value) (L : List Int) : Prop :=
  ∃ ao cap, v = .slice ao L.length cap ∧ ∀ k, k < L.length → ∃ g, ao = some ⟨g, 0, none⟩ ∧ w.cell? ⟨g, k, none⟩ = some (.int .i64 (L.getD k 0))
theorem IntsV.later {w w' : World} {v : Value} {L : List Int} (h : IntsV w v L) (hl : Later w w') : IntsV w' v L := by
  obtain ⟨ao, cap, rfl, hv⟩ := h
  exact ⟨ao, cap, rfl, fun k hk => by obtain ⟨g, e, hc⟩ := hv k hk; exact ⟨g, e, hl.cell hc⟩⟩
theorem intsV_of_row {w : World} {base : Nat} {v : Value} {L : List Int} {E : TypeId} (h : w.ownsRow base E 1 v L.length (encI L)) : IntsV w v L := by
  rcases h.2 with ⟨rfl, h0⟩ | ⟨g, cap, cur, rfl, _⟩
  · exact ⟨none, 0, by rw [h0], fun k hk => by omega⟩
  · refine ⟨some ⟨g, 0, none⟩, cap, rfl, fun k hk => ⟨g, rfl, ?_⟩⟩
    refine (h.cellAt k (by omega)).trans ?_
    unfold encI
    rw [List.getElem?_map, List.getElem?_eq_getElem hk, List.getD_eq_getElem?_getD, List.getElem?_eq_getElem hk]; rfl

/-- .. and it lies behind so many blocks. -/
def IntsF (n : Nat) (w : World) (v : Value) (L : List Int) : Prop := IntsV w v L ∧ (∀ g o s len cap, v = .slice (some ⟨g, o, s⟩) len cap → n ≤ g) ∧ ∀ len cap, v = .slice none len cap → cap = 0
theorem IntsF.grown {n o : Nat} {w w' : World} {v : Value} {L : List Int} (h : IntsF n w v L) (hg : w.grownBy w' (some o)) (ho : o < n) : IntsV w' v L := by
  obtain ⟨⟨ao, cap, rfl, hv⟩, hf⟩ := h
  refine ⟨ao, cap, rfl, fun k hk => ?_⟩
  obtain ⟨g, rfl, hc⟩ := hv k hk
  have := hf.1 g 0 none _ _ rfl
  exact ⟨g, rfl, grown_cell hg hc (by omega)⟩
theorem IntsF.later {n : Nat} {w w' : World} {v : Value} {L : List Int} (h : IntsF n w v L) (hl : Later w w') : IntsF n w' v L := ⟨h.1.later hl, h.2⟩
theorem intsF_of_row {w : World} {base n : Nat} {v : Value} {L : List Int} {E : TypeId} (h : w.ownsRow base E 1 v L.length (encI L)) (hn : n ≤ base) : IntsF n w v L := by
  refine ⟨intsV_of_row h, fun g o s len cap e => ?_, fun len cap e => ?_⟩
  · rcases h.2 with ⟨e2, h0⟩ | ⟨g', cap', cur, e2, hb, _⟩
    · rw [e2] at e; cases e
    · rw [e2] at e; cases e; omega
  · rcases h.2 with ⟨e2, h0⟩ | ⟨g', cap', cur, e2, hb, _⟩
    · rw [e2] at e; cases e; rfl
    · rw [e2] at e; cases e
theorem info_int : (Tryz.prog.info? 3).map (fun i => (i.zero, i.size, i.bytes)) = some (some (.int .i64 0), 1, 8) := by kernel_rfl
def srt (L : List Int) : List Int := L.mergeSort fun x y => decide (x ≤ y)
theorem ownsRow_pos {W : World} {base e : Nat} {v : Value} {k : Nat} {xs : List Value} (h : W.ownsRow base e 1 v k xs) (hk : 0 < k) : ∃ g cap, v = .slice (some ⟨g, 0, none⟩) k cap := by
  rcases h.2 with ⟨_, h0⟩ | ⟨g, cap, cur, hv, _⟩
  · omega
  · exact ⟨g, cap, hv⟩
theorem sort_own {W : World} {base : Nat} {v : Value} {L : List Int} (hrow : W.ownsRow base 3 1 v L.length (encI L)) (hk : 0 < L.length) (hsmall : L.length < 4611686018427387904) :
    Calls Tryz.prog 33 #[v] W fun e w' => e = .returned (.tuple #[]) ∧ w'.ownsRow base 3 1 v (srt L).length (encI (srt L)) ∧ W.grownBy w' v.ownBlock := by
  rcases hrow.2 with ⟨_, h0⟩ | ⟨g, cap, cur, rfl, hg, hb, hc, hm, hz, ht⟩
  · omega
  have hlen : (srt L).length = L.length := List.length_mergeSort _
  refine (slices_Sort_int g 0 cap L W (holds_of_blockI hb (by rw [Nat.mul_one] at ht; exact ht)) (Array.getElem?_eq_some_iff.1 hb).1 hsmall).mono ?_
  rintro e w' ⟨he, n, os, rfl⟩
  refine ⟨he, ?_, grownBy_sortedI _⟩
  have := ownsRow_sortedI (n := n) (os := os) (ss := L) (ts := srt L) hlen hg hb hc hm hz
  rw [hlen]
  exact this

end Go.Proofs.YtackbajbladhhaaGreat
