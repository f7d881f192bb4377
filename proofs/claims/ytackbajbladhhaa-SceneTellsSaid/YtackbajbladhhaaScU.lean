/-
  Chapter 6: the library's sort of ints, by its contract (laid by the kit's tool); lists of ints.
-/
import Derived.Shelf.Sort.Plain
import Derived.Shelf.Slices.In.SortNone
import Derived.Sort.OwnSortedInts
import Derived.Test.YtackbajbladhhaaScT
namespace Go.Proofs.Ytackbajbladhhaa
open Go.RowKit Go.Shelf
set_option linter.unusedVariables false
set_option linter.unusedSimpArgs false
def lays189_ren : Go.Shelf.Ren := ⟨fun | 189 => 40 | 125 => 65 | 257 => 64 | 128 => 92 | 129 => 93 | 294 => 83 | 295 => 84 | 296 => 85 | 297 => 86 | 298 => 87 | 299 => 88 | 216 => 89 | 300 => 90 | 301 => 91 | 328 => 108 | 329 => 109 | 330 => 110 | 331 => 111 | 332 => 112 | 215 => 113 | 343 => 122 | n => n, fun | 28 => 44 | 3 => 3 | 46 => 117 | 0 => 0 | 51 => 82 | 53 => 105 | 4 => 4 | 183 => 139 | 182 => 138 | 131 => 32 | 5 => 5 | 9 => 9 | 218 => 159 | 222 => 163 | 228 => 178 | 229 => 49 | n => n, fun | n => n⟩
theorem lays189 : Go.Proofs.Lays.n189 Try.prog lays189_ren := {
  mixed := by kernel_rfl
  f125 := Try.func65.trans (congrArg some (by kernel_rfl))
  f128 := Try.func92.trans (congrArg some (by kernel_rfl))
  f129 := Try.func93.trans (congrArg some (by kernel_rfl))
  f189 := Try.func40.trans (congrArg some (by kernel_rfl))
  f215 := Try.func113.trans (congrArg some (by kernel_rfl))
  f216 := Try.func89.trans (congrArg some (by kernel_rfl))
  f257 := Try.func64.trans (congrArg some (by kernel_rfl))
  f294 := Try.func83.trans (congrArg some (by kernel_rfl))
  f295 := Try.func84.trans (congrArg some (by kernel_rfl))
  f296 := Try.func85.trans (congrArg some (by kernel_rfl))
  f297 := Try.func86.trans (congrArg some (by kernel_rfl))
  f298 := Try.func87.trans (congrArg some (by kernel_rfl))
  f299 := Try.func88.trans (congrArg some (by kernel_rfl))
  f300 := Try.func90.trans (congrArg some (by kernel_rfl))
  f301 := Try.func91.trans (congrArg some (by kernel_rfl))
  f328 := Try.func108.trans (congrArg some (by kernel_rfl))
  f329 := Try.func109.trans (congrArg some (by kernel_rfl))
  f330 := Try.func110.trans (congrArg some (by kernel_rfl))
  f331 := Try.func111.trans (congrArg some (by kernel_rfl))
  f332 := Try.func112.trans (congrArg some (by kernel_rfl))
  f343 := Try.func122.trans (congrArg some (by kernel_rfl))
  t0 := Try.underlying0
  a0 := Try.isAgg0
  z0 := Try.sizeOf0
  v0 := Try.zeroValue0
  t3 := Try.underlying3
  a3 := Try.isAgg3
  z3 := Try.sizeOf3
  v3 := Try.zeroValue3
  t4 := Try.underlying4
  a4 := Try.isAgg4
  z4 := Try.sizeOf4
  v4 := Try.zeroValue4
  t5 := Try.underlying5
  a5 := Try.isAgg5
  z5 := Try.sizeOf5
  v5 := Try.zeroValue5
  t9 := Try.underlying9
  a9 := Try.isAgg9
  z9 := Try.sizeOf9
  v9 := Try.zeroValue9
  t28 := Try.underlying44
  a28 := Try.isAgg44
  z28 := Try.sizeOf44
  v28 := Try.zeroValue44
  t46 := Try.underlying117
  a46 := Try.isAgg117
  z46 := Try.sizeOf117
  v46 := Try.zeroValue117
  t51 := Try.underlying82
  a51 := Try.isAgg82
  z51 := Try.sizeOf82
  v51 := Try.zeroValue82
  t53 := Try.underlying105
  a53 := Try.isAgg105
  z53 := Try.sizeOf105
  v53 := Try.zeroValue105
  t131 := Try.underlying32
  a131 := Try.isAgg32
  z131 := Try.sizeOf32
  v131 := Try.zeroValue32
  t182 := Try.underlying138
  a182 := Try.isAgg138
  z182 := Try.sizeOf138
  v182 := Try.zeroValue138
  t183 := Try.underlying139
  a183 := Try.isAgg139
  z183 := Try.sizeOf139
  v183 := Try.zeroValue139
  t218 := Try.underlying159
  a218 := Try.isAgg159
  z218 := Try.sizeOf159
  v218 := Try.zeroValue159
  t222 := Try.underlying163
  a222 := Try.isAgg163
  z222 := Try.sizeOf163
  v222 := Try.zeroValue163
  t228 := Try.underlying178
  a228 := Try.isAgg178
  z228 := Try.sizeOf178
  v228 := Try.zeroValue178
  t229 := Try.underlying49
  a229 := Try.isAgg49
  z229 := Try.sizeOf49
  v229 := Try.zeroValue49 }
open Go.Sort Go.RowKit in
theorem slices_Sort_int (blk off cap : Nat) (zs : List Int) (w : World) (hH : Holds (Value.int .i64) w blk off zs.toArray) (hblk : blk < w.heap.size) (hsz : zs.length < 4611686018427387904) :
    Calls Try.prog 40 #[.slice (some ⟨blk, off, none⟩) zs.length cap] w fun e w' =>
      e = .returned (.tuple #[]) ∧ ∃ n os, w' = grow (putRow (Value.int .i64) (Sort.ahead w n) blk off (zs.mergeSort fun x y => decide (x ≤ y)).toArray) os := Any.slices_Sort_int lays189 blk off cap zs w hH hblk hsz
open Go.RowKit Go.Sort in
theorem slices_Sort_int_none (p : Option Addr) (cap : Nat) (w : World) :
    Calls Try.prog 40 #[.slice p 0 cap] w fun e w' => e = .returned (.tuple #[]) ∧ w' = w := Any.slices_Sort_int_none lays189 p cap w

def encI (L : List Int) : List Value := L.map (Value.int .i64)
/-- A slice of ints: what it holds. -/
def IntsV (w : World) (v : Value) (L : List Int) : Prop :=
  ∃ ao cap, v = .slice ao L.length cap ∧ ∀ k, k < L.length → ∃ g, ao = some ⟨g, 0, none⟩ ∧ w.cell? ⟨g, k, none⟩ = some (.int .i64 (L.getD k 0))
theorem IntsV.later {w w' : World} {v : Value} {L : List Int} (h : IntsV w v L) (hl : Later w w') : IntsV w' v L := by
  obtain ⟨ao, cap, rfl, hv⟩ := h
  exact ⟨ao, cap, rfl, fun k hk => by obtain ⟨g, e, hc⟩ := hv k hk; exact ⟨g, e, hl.cell hc⟩⟩
theorem intsV_of_row {w : World} {base : Nat} {v : Value} {L : List Int} {E : TypeId} (h : w.ownsRow base E 1 v L.length (encI L)) : IntsV w v L := by
  rcases h.2 with ⟨rfl, h0⟩ | ⟨g, cap, cur, rfl, _⟩
  · exact ⟨none, 0, by rw [h0], fun k hk => by omega⟩
  · refine ⟨some ⟨g, 0, none⟩, cap, rfl, fun k hk => ⟨g, rfl, ?_⟩⟩
    refine (h.cellAt k (by omega)).trans ?_
    unfold encI
    rw [List.getElem?_map, List.getElem?_eq_getElem hk, List.getD_eq_getElem?_getD, List.getElem?_eq_getElem hk]; rfl

/-- .. and it lies behind so many blocks. -/
def IntsF (n : Nat) (w : World) (v : Value) (L : List Int) : Prop := IntsV w v L ∧ (∀ g o s len cap, v = .slice (some ⟨g, o, s⟩) len cap → n ≤ g) ∧ ∀ len cap, v = .slice none len cap → cap = 0
theorem IntsF.grown {n o : Nat} {w w' : World} {v : Value} {L : List Int} (h : IntsF n w v L) (hg : w.grownBy w' (some o)) (ho : o < n) : IntsV w' v L := by
  obtain ⟨⟨ao, cap, rfl, hv⟩, hf⟩ := h
  refine ⟨ao, cap, rfl, fun k hk => ?_⟩
  obtain ⟨g, rfl, hc⟩ := hv k hk
  have := hf.1 g 0 none _ _ rfl
  exact ⟨g, rfl, grown_cell hg hc (by omega)⟩
theorem IntsF.later {n : Nat} {w w' : World} {v : Value} {L : List Int} (h : IntsF n w v L) (hl : Later w w') : IntsF n w' v L := ⟨h.1.later hl, h.2⟩
theorem intsF_of_row {w : World} {base n : Nat} {v : Value} {L : List Int} {E : TypeId} (h : w.ownsRow base E 1 v L.length (encI L)) (hn : n ≤ base) : IntsF n w v L := by
  refine ⟨intsV_of_row h, fun g o s len cap e => ?_, fun len cap e => ?_⟩
  · rcases h.2 with ⟨e2, h0⟩ | ⟨g', cap', cur, e2, hb, _⟩
    · rw [e2] at e; cases e
    · rw [e2] at e; cases e; omega
  · rcases h.2 with ⟨e2, h0⟩ | ⟨g', cap', cur, e2, hb, _⟩
    · rw [e2] at e; cases e; rfl
    · rw [e2] at e; cases e
theorem info_int : (Try.prog.info? 3).map (fun i => (i.zero, i.size, i.bytes)) = some (some (.int .i64 0), 1, 8) := by kernel_rfl
def srt (L : List Int) : List Int := L.mergeSort fun x y => decide (x ≤ y)
theorem ownsRow_pos {W : World} {base e : Nat} {v : Value} {k : Nat} {xs : List Value} (h : W.ownsRow base e 1 v k xs) (hk : 0 < k) : ∃ g cap, v = .slice (some ⟨g, 0, none⟩) k cap := by
  rcases h.2 with ⟨_, h0⟩ | ⟨g, cap, cur, hv, _⟩
  · omega
  · exact ⟨g, cap, hv⟩
theorem sort_own {W : World} {base : Nat} {v : Value} {L : List Int} (hrow : W.ownsRow base 3 1 v L.length (encI L)) (hk : 0 < L.length) (hsmall : L.length < 4611686018427387904) :
    Calls Try.prog 40 #[v] W fun e w' => e = .returned (.tuple #[]) ∧ w'.ownsRow base 3 1 v (srt L).length (encI (srt L)) ∧ W.grownBy w' v.ownBlock := by
  rcases hrow.2 with ⟨_, h0⟩ | ⟨g, cap, cur, rfl, hg, hb, hc, hm, hz, ht⟩
  · omega
  have hlen : (srt L).length = L.length := List.length_mergeSort _
  refine (slices_Sort_int g 0 cap L W (holds_of_blockI hb (by rw [Nat.mul_one] at ht; exact ht)) (Array.getElem?_eq_some_iff.1 hb).1 hsmall).mono ?_
  rintro e w' ⟨he, n, os, rfl⟩
  refine ⟨he, ?_, grownBy_sortedI _⟩
  have := ownsRow_sortedI (n := n) (os := os) (ss := L) (ts := srt L) hlen hg hb hc hm hz
  rw [hlen]
  exact this

end Go.Proofs.Ytackbajbladhhaa
