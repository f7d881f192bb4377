/-
  Chapter 6: slices of objects; an object's ID.
-/
import Derived.Test.YtackbajbladhhaaScD
namespace Go.Proofs.Ytackbajbladhhaa
open Go.RowKit Go.Shelf
set_option linter.unusedVariables false
set_option linter.unusedSimpArgs false
attribute [local go_sem] Oper.semAt_some

theorem add_plain (b o n : Nat) : (⟨b, o, none⟩ : Addr).add n = ⟨b, o + n, none⟩ := by unfold Addr.add; split <;> simp_all
theorem size_ob (W : World) : (sizeOf 37).run Try.prog W = .ok 19 W := by kernel_rfl
theorem elem_ob : Try.prog.elem 26 = 37 := by kernel_rfl
theorem und_objs : Try.prog.underlying 26 = some (.slice (Try.prog.elem 26)) := by kernel_rfl
/-- The first few objects. -/
theorem slice_objs (g o n cap k : Nat) (hk : k ≤ n) (hn : n ≤ cap) (hc : 0 < cap) (W : World) : (Instr.slice 26 (.slice (some ⟨g, o, none⟩) n cap) none (some (.int .i64 k)) none).run Try.prog W = .ok (.slice (some ⟨g, o, none⟩) k cap) W := by
  rw [run_slice_h W 26 (some ⟨g, o, none⟩) n cap und_objs .i64 (k : Int) (by omega) (by omega), elem_ob, size_ob]
  simp [Result.andThen, sliced, add_plain]
def idIn (L : List SObj) (i : Int) : Bool := (List.range L.length).any fun j => ((L[j]?).map (·.id)).getD 0 == i
set_option maxRecDepth 100000 in
set_option maxHeartbeats 2000000 in
theorem holds4_any (s : Scn) (x : SObj) (k : Nat) (W : World) (hs : s.Ok W) (hk : k < s.os.length) (hlen : s.os.length ≤ 1000000) :
    Calls Try.prog 73 #[s.V, .int .i64 k, x.V, .int .i64 4] W fun e w' => e = .returned (.bool (allIn 1 65535 [x.id] && !idIn (s.os.take k) x.id)) ∧ Later W w' := by
  obtain ⟨X, hX⟩ : ∃ X, X = (W.alloc (.cells s.row.toArray 28)).alloc (.cells x.row.toArray 37) := ⟨_, rfl⟩
  have hl : Later W X := by rw [hX]; exact ((Later.refl W).alloc _).alloc _
  have kS : ScnB X W.heap.size s := by rw [hX]; exact push_one (heap_alloc_new _ _) _
  have kO : ObjB X (W.heap.size + 1) x := by rw [hX]; exact push_new _ _ (by simp)
  obtain ⟨ao, cap, hu⟩ := hs.1.form
  have so := kS.uo
  rw [hu] at so
  rw [List.length_map] at so hu
  have oi := kO.id
  have hs1 := hs.1
  rw [hu] at hs1
  obtain ⟨-, hc, hn⟩ := hs1.cap
  obtain ⟨y, hy⟩ : ∃ y, (s.os.map SObj.row)[k]? = some y := ⟨_, List.getElem?_eq_getElem (by rw [List.length_map]; exact hk)⟩
  obtain ⟨g, o, rfl, -⟩ := hs1.at hy
  have hsl := fun W => slice_objs g o s.os.length cap k (by omega) hc (by omega) W
  have hIn := Lib.hid (fun W => in_any 1 65535 [x.id] _ _ (rowsV_new W [x.id] (by simp)) (by simp))
  have hv1 : RowsV 19 W (.slice (some ⟨g, o, none⟩) k cap) ((s.os.take k).map SObj.row) := by
    rw [List.map_take]
    exact hs1.take (Nat.le_of_lt hk)
  have hSame := Lib.hid (fun V (h : Later X V) => cff_same (W.heap.size + 1) ((s.os.take k).map SObj.row) (.slice (some ⟨g, o, none⟩) k cap) (fun j => (((s.os.take k)[j]?).map (·.id)).getD 0 == x.id) V ((hv1.later hl).later h)
    (by rw [List.length_map, List.length_take]; omega) (by intro r hr; obtain ⟨z, _, rfl⟩ := List.mem_map.1 hr; exact SObj.row_length z)
    (fun j r Z hr hZ => by
      rw [List.getElem?_map] at hr
      obtain ⟨z, hz, rfl⟩ := Option.map_eq_some_iff.1 hr
      have := same1_any z.row z.id x.id (W.heap.size + 1) Z (SObj.row_length z) rfl ((h.trans hZ).cell kO.id)
      rw [hz]
      exact this))
  rw [List.length_map] at hSame
  obtain ⟨b1, hb1⟩ : ∃ b, Hid (allIn 1 65535 [x.id] = b) := ⟨_, rfl⟩
  obtain ⟨b2, hb2⟩ : ∃ b, Hid (idIn (s.os.take k) x.id = b) := ⟨_, rfl⟩
  have hSame2 : Hid (∀ V, Later X V → Calls Try.prog 98 #[.slice (some ⟨g, o, none⟩) k cap, .func (.func 97) #[] #[wp (W.heap.size + 1)]] V fun e w' => e = .returned (.bool b2) ∧ Later V w') := Lib.hid (fun V h => by rw [← hb2.out]; exact hSame.out V h)
  have hIn2 : Hid (∀ W : World, Calls Try.prog 56 #[.int .i64 1, .int .i64 65535, .slice (some ⟨W.heap.size, 0, none⟩) 1 1] (W.alloc (.cells #[.int .i64 x.id] 3)) fun e w' => e = .returned (.bool b1) ∧ Later (W.alloc (.cells #[.int .i64 x.id] 3)) w') := Lib.hid (fun W => by rw [← hb1.out]; exact hIn.out W)
  rw [hb1.out, hb2.out]
  clear hSame hIn hv1 hs hs1 hy hu kO hn
  go_enter Try.func73, Try.ntmps73
  go_upto_region 1 with fail
  rw [← hX]
  clear hX
  go_wp2_with fail
  refine (hIn2.out _).mono ?_
  rintro e w2 ⟨rfl, hl2⟩
  have hlX2 := ((Later.refl X).alloc (.cells #[.int .i64 x.id] 3)).trans hl2
  have so2 := hlX2.cell so
  have hCs := Lib.hid (hSame2.out w2 hlX2)
  cases b1
  · go_wp2_with fail
    go_ret
    exact ⟨ret_bool (by simp), hl.trans hlX2⟩
  · clear hSame2 hIn2 hl2 oi so
    go_wp2_with fail
    refine hCs.out.mono ?_
    rintro e w3 ⟨rfl, hl3⟩
    go_wp2_with fail
    go_ret
    exact ⟨ret_bool (by simp), (hl.trans hlX2).trans hl3⟩
end Go.Proofs.Ytackbajbladhhaa
