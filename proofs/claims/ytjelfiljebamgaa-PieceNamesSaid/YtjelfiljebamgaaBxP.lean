/-
  Chapter 21's examples: the walk.
-/
import Derived.Test.YtjelfiljebamgaaBxO
namespace Go.Proofs.Ytjelfiljebamgaa
open Go.RowKit Go.Shelf Go.Maps
set_option linter.unusedVariables false
set_option linter.unusedSimpArgs false
attribute [local go_sem] Oper.semAt_some

theorem chunks_one (n : Nat) (h : 1 ≤ n) : (chunks (List.replicate n (0 : Int)) 1).length = n := by
  have h1 := chunks_of (L := List.replicate n (0 : Int)) (s := 1) (Nat.le_refl 1)
  rw [List.length_replicate] at h1
  omega
theorem newbytes4 (w : World) (a b c d : Int) (h : Byt [a, b, c, d]) : BytV (w.alloc (.cells #[.int .u8 a, .int .u8 b, .int .u8 c, .int .u8 d] 5 (4, 5))) (.slice (some ⟨w.heap.size, 0, none⟩) 4 4) [a, b, c, d] := by
  refine ⟨h, _, _, rfl, ⟨Nat.le_refl _, fun e => by cases e⟩, fun k hk => ⟨_, 0, rfl, ?_⟩⟩
  have hk5 : k < 4 := hk
  rw [Nat.zero_add, cell_of_row _ _ _ _ _ _ (heap_alloc_new w _)]
  rcases (show k = 0 ∨ k = 1 ∨ k = 2 ∨ k = 3 by omega) with rfl | rfl | rfl | rfl <;> rfl
theorem newbytes (w : World) (a b c d e : Int) (h : Byt [a, b, c, d, e]) : BytV (w.alloc (.cells #[.int .u8 a, .int .u8 b, .int .u8 c, .int .u8 d, .int .u8 e] 5 (5, 6))) (.slice (some ⟨w.heap.size, 0, none⟩) 5 5) [a, b, c, d, e] := by
  refine ⟨h, _, _, rfl, ⟨Nat.le_refl _, fun e => by cases e⟩, fun k hk => ⟨_, 0, rfl, ?_⟩⟩
  have hk5 : k < 5 := hk
  rw [Nat.zero_add, cell_of_row _ _ _ _ _ _ (heap_alloc_new w _)]
  rcases (show k = 0 ∨ k = 1 ∨ k = 2 ∨ k = 3 ∨ k = 4 by omega) with rfl | rfl | rfl | rfl | rfl <;> rfl
set_option maxRecDepth 100000 in
set_option maxHeartbeats 2000000 in
theorem names_any (W : World) : Calls Try.prog 8 #[] W fun e w' => e = .returned (.bool true) ∧ Later W w' := by
  have hcv := fun (w : World) (C : Array Value) (n c : Nat) => Lib.run_convert_bytes_const (P := Try.prog) w 23 5 C n c Try.underlying23 Try.underlying5
  go_enter Try.func8, Try.ntmps8
  go_wp2_with fail
  refine (alive_any _).mono ?_
  rintro e w1 ⟨rfl, h1⟩
  go_wp2_with fail
  refine (three_any _).mono ?_
  rintro e w2 ⟨v, vs, rfl, hr, hp, h2⟩
  obtain ⟨g, cap, rfl⟩ := ownsRow_succ hr
  obtain ⟨u0, e0, b0⟩ := pcs_at hp threeB (k := 0) rfl
  obtain ⟨u1, e1, b1⟩ := pcs_at hp threeB (k := 1) rfl
  obtain ⟨u2, e2, b2⟩ := pcs_at hp threeB (k := 2) rfl
  have c0 := (hr.cellAt 0 (by omega)).trans e0
  have c1 := (hr.cellAt 1 (by omega)).trans e1
  have c2 := (hr.cellAt 2 (by omega)).trans e2
  have hlW := h1.trans h2
  clear hp hr e0 e1 e2 h1 h2
  go_wp2_with fail
  refine (cut_any 0 9 (.slice none 0 0) [] w2 (bytV_nil w2) (by decide) ⟨by decide, by decide, by decide, by decide⟩).mono ?_
  rintro e w3 ⟨(⟨h4, va, vsa, rfl, hra, hpa⟩ | ⟨h4, rfl⟩), h3⟩
  rotate_left
  · exact absurd (by decide) h4
  have hra : w3.ownsRow w2.heap.size 23 1 va 1 vsa := hra
  obtain ⟨ga, capa, rfl⟩ := ownsRow_succ hra
  have hla : 0 < vsa.length := by rw [hpa.1]; decide
  obtain ⟨ba, -⟩ := bytV_of_row (L := [0, 0, 0, 0]) (by intro x hx; simp at hx; omega) (hpa.2 0 _ [0, 0, 0, 0] (List.getElem?_eq_getElem hla) rfl)
  have ca := (hra.cellAt 0 (by omega)).trans (List.getElem?_eq_getElem hla)
  obtain ⟨ua, hua⟩ : ∃ u, u = vsa[0] := ⟨_, rfl⟩
  rw [← hua] at ba ca
  clear hua hla hra hpa h4
  replace c0 := h3.cell c0
  replace c1 := h3.cell c1
  replace c2 := h3.cell c2
  have i0 := Lib.hid (b0.lt.mono (Q := (· < w3.heap.size)) (fun k hk => Nat.lt_of_lt_of_le hk h3.size))
  have i1 := Lib.hid (b1.lt.mono (Q := (· < w3.heap.size)) (fun k hk => Nat.lt_of_lt_of_le hk h3.size))
  have i2 := Lib.hid (b2.lt.mono (Q := (· < w3.heap.size)) (fun k hk => Nat.lt_of_lt_of_le hk h3.size))
  have ia := Lib.hid ba.lt
  replace b0 := Lib.hid (b0.later h3)
  replace b1 := Lib.hid (b1.later h3)
  replace b2 := Lib.hid (b2.later h3)
  replace ba := Lib.hid ba
  have hW := Lib.hid (hlW.trans h3)
  have hWn := hW.out.size
  have hg : g < w3.heap.size := cell_lt c0
  have hga : ga < w3.heap.size := cell_lt ca
  clear h3 hlW
  go_wp2_with fail
  refine (new_st 1 w3 ⟨by decide, by decide⟩).mono ?_
  rintro e w4 ⟨x, rfl, hs, h4⟩
  obtain ⟨n3, hn3⟩ : ∃ n, Hid (w3.heap.size = n) := ⟨_, Lib.hid rfl⟩
  obtain ⟨Q, hQ⟩ : ∃ Q, Q = fun k => k < w3.heap.size := ⟨_, rfl⟩
  rw [← hQ] at hs
  have hq : ∀ k, k < n3 → Q k := fun k hk => by rw [hQ, hn3.out]; exact hk
  rw [hn3.out] at hg hga hWn i0 i1 i2 ia
  clear hQ hn3
  replace c0 := h4.cell c0
  replace c1 := h4.cell c1
  replace c2 := h4.cell c2
  replace b0 := Lib.hid (b0.out.later h4)
  replace b1 := Lib.hid (b1.out.later h4)
  replace b2 := Lib.hid (b2.out.later h4)
  replace ca := h4.cell ca
  replace ba := Lib.hid (ba.out.later h4)
  replace hW := Lib.hid (hW.out.trans h4)
  clear h4
  go_wp2_with fail
  refine (put_st hs b2.out (by decide) rdA.1 rdA.2 cnt_none put1).mono ?_
  rintro e w5 ⟨vw5, rfl, hn, hh, hrn⟩
  replace c0 := Keep.cell hh c0 (fun h => h (hq g hg))
  replace c1 := Keep.cell hh c1 (fun h => h (hq g hg))
  replace c2 := Keep.cell hh c2 (fun h => h (hq g hg))
  replace b0 := Lib.hid (hh.bytV b0.out (i0.out.mono hq))
  replace b1 := Lib.hid (hh.bytV b1.out (i1.out.mono hq))
  replace b2 := Lib.hid (hh.bytV b2.out (i2.out.mono hq))
  replace ca := Keep.cell hh ca (fun h => h (hq ga hga))
  replace ba := Lib.hid (hh.bytV ba.out (ia.out.mono hq))
  replace hs := hn.mono (Q' := Q) (fun k hk => Or.inl hk)
  replace hW := Lib.hid (hh.below hW.out (fun k hk => hq k (Nat.lt_of_lt_of_le hk hWn)))
  clear hn hh hrn
  go_wp2_with fail
  refine (missing_st 5 (by decide) hs).mono ?_
  rintro e w6 ⟨vm, rfl, hrm, h6⟩
  rw [miss1] at hrm
  have nm := numV_of hrm
  replace c0 := h6.cell c0
  replace c1 := h6.cell c1
  replace c2 := h6.cell c2
  replace b0 := Lib.hid (b0.out.later h6)
  replace b1 := Lib.hid (b1.out.later h6)
  replace b2 := Lib.hid (b2.out.later h6)
  replace ca := h6.cell ca
  replace ba := Lib.hid (ba.out.later h6)
  replace hW := Lib.hid (hW.out.trans h6)
  have hsm := hs.later h6
  have hmQ : ∀ gm, vm.ownBlock = some gm → (w5.heap.size ≤ gm ∧ gm < w6.heap.size) := fun gm h => by
    rcases hrm.2 with ⟨rfl, _⟩ | ⟨g', c', cur, rfl, hb, hb2, _⟩
    · cases h
    · obtain rfl : g' = gm := by simpa [Value.ownBlock] using h
      exact ⟨hb, (Array.getElem?_eq_some_iff.1 hb2).1⟩
  obtain ⟨Q2, hQ2⟩ : ∃ Q2, Q2 = fun k => Q k ∨ (w5.heap.size ≤ k ∧ k < w6.heap.size) := ⟨_, rfl⟩
  rw [← hQ2] at hsm
  have hq2 : ∀ k, k < n3 → Q2 k := fun k hk => by rw [hQ2]; exact .inl (hq k hk)
  have hm2 : ∀ gm, vm.ownBlock = some gm → Q2 gm := fun gm h => by rw [hQ2]; exact .inr (hmQ gm h)
  clear hQ2 hmQ nm hs hq h6
  obtain ⟨Q, hQe⟩ : ∃ q, q = Q2 := ⟨_, rfl⟩
  rw [← hQe] at hq2 hm2 hsm
  have hq := hq2
  have hs := hsm
  clear hQe Q2 hq2 hsm
  go_wp2_with fail
  refine (put_st hs b0.out (by decide) rdB.1 rdB.2 (cnt_one mA) put2).mono ?_
  rintro e w7 ⟨vw7, rfl, hn, hh, hrn⟩
  replace c0 := Keep.cell hh c0 (fun h => h (hq g hg))
  replace c1 := Keep.cell hh c1 (fun h => h (hq g hg))
  replace c2 := Keep.cell hh c2 (fun h => h (hq g hg))
  replace b0 := Lib.hid (hh.bytV b0.out (i0.out.mono hq))
  replace b1 := Lib.hid (hh.bytV b1.out (i1.out.mono hq))
  replace b2 := Lib.hid (hh.bytV b2.out (i2.out.mono hq))
  replace ca := Keep.cell hh ca (fun h => h (hq ga hga))
  replace ba := Lib.hid (hh.bytV ba.out (ia.out.mono hq))
  replace hs := hn.mono (Q' := Q) (fun k hk => Or.inl hk)
  replace hW := Lib.hid (hh.below hW.out (fun k hk => hq k (Nat.lt_of_lt_of_le hk hWn)))
  replace hrm := hh.row hrm hm2
  clear hn hh hrn
  go_wp2_with fail
  refine (put_st hs b0.out (by decide) rdB.1 rdB.2 (cnt_one mB) put3).mono ?_
  rintro e w8 ⟨vw8, rfl, hn, hh, hrn⟩
  replace c0 := Keep.cell hh c0 (fun h => h (hq g hg))
  replace c1 := Keep.cell hh c1 (fun h => h (hq g hg))
  replace c2 := Keep.cell hh c2 (fun h => h (hq g hg))
  replace b0 := Lib.hid (hh.bytV b0.out (i0.out.mono hq))
  replace b1 := Lib.hid (hh.bytV b1.out (i1.out.mono hq))
  replace b2 := Lib.hid (hh.bytV b2.out (i2.out.mono hq))
  replace ca := Keep.cell hh ca (fun h => h (hq ga hga))
  replace ba := Lib.hid (hh.bytV ba.out (ia.out.mono hq))
  replace hs := hn.mono (Q' := Q) (fun k hk => Or.inl hk)
  replace hW := Lib.hid (hh.below hW.out (fun k hk => hq k (Nat.lt_of_lt_of_le hk hWn)))
  replace hrm := hh.row hrm hm2
  clear hn hh hrn
  go_wp2_with fail
  have hbn := newbytes w8 5 1 0 1 97 (by intro y hy; simp at hy; omega)
  have hlY : Later w8 (w8.alloc (.cells #[.int .u8 5, .int .u8 1, .int .u8 0, .int .u8 1, .int .u8 97] 5 (5, 6))) := (Later.refl _).alloc _
  obtain ⟨Y, hY⟩ : ∃ Y, Y = w8.alloc (.cells #[.int .u8 5, .int .u8 1, .int .u8 0, .int .u8 1, .int .u8 97] 5 (5, 6)) := ⟨_, rfl⟩
  rw [← hY] at hbn hlY ⊢
  clear hY
  replace c0 := hlY.cell c0
  replace c1 := hlY.cell c1
  replace c2 := hlY.cell c2
  replace b0 := Lib.hid (b0.out.later hlY)
  replace b1 := Lib.hid (b1.out.later hlY)
  replace b2 := Lib.hid (b2.out.later hlY)
  replace ca := hlY.cell ca
  replace ba := Lib.hid (ba.out.later hlY)
  replace hW := Lib.hid (hW.out.trans hlY)
  replace hs := (hs.later hlY).mono (Q' := Q) (fun k hk => Or.inl hk)
  replace hrm := row_later hrm hlY
  refine (put_st hs hbn (by decide) rdC.1 rdC.2 (cnt_one mB) put4).mono ?_
  rintro e w9 ⟨vw9, rfl, hn, hh, hrn⟩
  replace c0 := Keep.cell hh c0 (fun h => h (hq g hg))
  replace c1 := Keep.cell hh c1 (fun h => h (hq g hg))
  replace c2 := Keep.cell hh c2 (fun h => h (hq g hg))
  replace b0 := Lib.hid (hh.bytV b0.out (i0.out.mono hq))
  replace b1 := Lib.hid (hh.bytV b1.out (i1.out.mono hq))
  replace b2 := Lib.hid (hh.bytV b2.out (i2.out.mono hq))
  replace ca := Keep.cell hh ca (fun h => h (hq ga hga))
  replace ba := Lib.hid (hh.bytV ba.out (ia.out.mono hq))
  replace hs := hn.mono (Q' := Q) (fun k hk => Or.inl hk)
  replace hW := Lib.hid (hh.below hW.out (fun k hk => hq k (Nat.lt_of_lt_of_le hk hWn)))
  replace hrm := hh.row hrm hm2
  clear hn hh hrn hlY hbn
  go_wp2_with fail
  have hbn := newbytes w9 5 2 0 1 97 (by intro y hy; simp at hy; omega)
  have hlY : Later w9 (w9.alloc (.cells #[.int .u8 5, .int .u8 2, .int .u8 0, .int .u8 1, .int .u8 97] 5 (5, 6))) := (Later.refl _).alloc _
  obtain ⟨Y, hY⟩ : ∃ Y, Y = w9.alloc (.cells #[.int .u8 5, .int .u8 2, .int .u8 0, .int .u8 1, .int .u8 97] 5 (5, 6)) := ⟨_, rfl⟩
  rw [← hY] at hbn hlY ⊢
  clear hY
  replace c0 := hlY.cell c0
  replace c1 := hlY.cell c1
  replace c2 := hlY.cell c2
  replace b0 := Lib.hid (b0.out.later hlY)
  replace b1 := Lib.hid (b1.out.later hlY)
  replace b2 := Lib.hid (b2.out.later hlY)
  replace ca := hlY.cell ca
  replace ba := Lib.hid (ba.out.later hlY)
  replace hW := Lib.hid (hW.out.trans hlY)
  replace hs := (hs.later hlY).mono (Q' := Q) (fun k hk => Or.inl hk)
  replace hrm := row_later hrm hlY
  refine (put_st hs hbn (by decide) rdD.1 rdD.2 (cnt_one mB) put5).mono ?_
  rintro e w10 ⟨vw10, rfl, hn, hh, hrn⟩
  replace c0 := Keep.cell hh c0 (fun h => h (hq g hg))
  replace c1 := Keep.cell hh c1 (fun h => h (hq g hg))
  replace c2 := Keep.cell hh c2 (fun h => h (hq g hg))
  replace b0 := Lib.hid (hh.bytV b0.out (i0.out.mono hq))
  replace b1 := Lib.hid (hh.bytV b1.out (i1.out.mono hq))
  replace b2 := Lib.hid (hh.bytV b2.out (i2.out.mono hq))
  replace ca := Keep.cell hh ca (fun h => h (hq ga hga))
  replace ba := Lib.hid (hh.bytV ba.out (ia.out.mono hq))
  replace hs := hn.mono (Q' := Q) (fun k hk => Or.inl hk)
  replace hW := Lib.hid (hh.below hW.out (fun k hk => hq k (Nat.lt_of_lt_of_le hk hWn)))
  replace hrm := hh.row hrm hm2
  clear hn hh hrn hlY hbn
  go_wp2_with fail
  have hbn := newbytes w10 6 2 0 1 97 (by intro y hy; simp at hy; omega)
  have hlY : Later w10 (w10.alloc (.cells #[.int .u8 6, .int .u8 2, .int .u8 0, .int .u8 1, .int .u8 97] 5 (5, 6))) := (Later.refl _).alloc _
  obtain ⟨Y, hY⟩ : ∃ Y, Y = w10.alloc (.cells #[.int .u8 6, .int .u8 2, .int .u8 0, .int .u8 1, .int .u8 97] 5 (5, 6)) := ⟨_, rfl⟩
  rw [← hY] at hbn hlY ⊢
  clear hY
  replace c0 := hlY.cell c0
  replace c1 := hlY.cell c1
  replace c2 := hlY.cell c2
  replace b0 := Lib.hid (b0.out.later hlY)
  replace b1 := Lib.hid (b1.out.later hlY)
  replace b2 := Lib.hid (b2.out.later hlY)
  replace ca := hlY.cell ca
  replace ba := Lib.hid (ba.out.later hlY)
  replace hW := Lib.hid (hW.out.trans hlY)
  replace hs := (hs.later hlY).mono (Q' := Q) (fun k hk => Or.inl hk)
  replace hrm := row_later hrm hlY
  refine (put_st hs hbn (by decide) rdE.1 rdE.2 (cnt_one mB) put6).mono ?_
  rintro e w11 ⟨vw11, rfl, hn, hh, hrn⟩
  replace c0 := Keep.cell hh c0 (fun h => h (hq g hg))
  replace c1 := Keep.cell hh c1 (fun h => h (hq g hg))
  replace c2 := Keep.cell hh c2 (fun h => h (hq g hg))
  replace b0 := Lib.hid (hh.bytV b0.out (i0.out.mono hq))
  replace b1 := Lib.hid (hh.bytV b1.out (i1.out.mono hq))
  replace b2 := Lib.hid (hh.bytV b2.out (i2.out.mono hq))
  replace ca := Keep.cell hh ca (fun h => h (hq ga hga))
  replace ba := Lib.hid (hh.bytV ba.out (ia.out.mono hq))
  replace hs := hn.mono (Q' := Q) (fun k hk => Or.inl hk)
  replace hW := Lib.hid (hh.below hW.out (fun k hk => hq k (Nat.lt_of_lt_of_le hk hWn)))
  replace hrm := hh.row hrm hm2
  clear hn hh hrn hlY hbn
  go_wp2_with fail
  refine (one_held hs).mono ?_
  rintro e w12 ⟨rfl, h12⟩
  replace c0 := h12.cell c0
  replace c1 := h12.cell c1
  replace c2 := h12.cell c2
  replace b0 := Lib.hid (b0.out.later h12)
  replace b1 := Lib.hid (b1.out.later h12)
  replace b2 := Lib.hid (b2.out.later h12)
  replace ca := h12.cell ca
  replace ba := Lib.hid (ba.out.later h12)
  replace hW := Lib.hid (hW.out.trans h12)
  replace hs := (hs.later h12).mono (Q' := Q) (fun k hk => Or.inl hk)
  replace hrm := row_later hrm h12
  go_wp2_with fail
  refine (put_st hs b1.out (by decide) rdF.1 rdF.2 (cnt_one mB) put7).mono ?_
  rintro e w13 ⟨vw13, rfl, hn, hh, hrn⟩
  replace c0 := Keep.cell hh c0 (fun h => h (hq g hg))
  replace c1 := Keep.cell hh c1 (fun h => h (hq g hg))
  replace c2 := Keep.cell hh c2 (fun h => h (hq g hg))
  replace b0 := Lib.hid (hh.bytV b0.out (i0.out.mono hq))
  replace b1 := Lib.hid (hh.bytV b1.out (i1.out.mono hq))
  replace b2 := Lib.hid (hh.bytV b2.out (i2.out.mono hq))
  replace ca := Keep.cell hh ca (fun h => h (hq ga hga))
  replace ba := Lib.hid (hh.bytV ba.out (ia.out.mono hq))
  replace hs := hn.mono (Q' := Q) (fun k hk => Or.inl hk)
  replace hW := Lib.hid (hh.below hW.out (fun k hk => hq k (Nat.lt_of_lt_of_le hk hWn)))
  replace hrm := hh.row hrm hm2
  have bS := Lib.hid (bytV_of_row (L := [97, 98, 99, 100, 101]) (by intro y hy; simp at hy; omega) hrn).1
  have sa : (convert 23 9 ua).run Try.prog w13 = .ok (.string { data := #[0, 0, 0, 0] }) w13 := bytV_string ba.out
  obtain ⟨mS, aS, qS, rfl⟩ := bytV_sl bS.out
  obtain ⟨ma, aa, qa, rfl⟩ := bytV_sl ba.out
  have nm := Lib.hid (numV_of hrm)
  obtain ⟨am, cm, rfl⟩ := own_form hrm
  clear hn hh hrn hrm
  go_wp2_with fail
  refine (ints21_same _ _ [0, 1] _ (nm.out.later ((Later.refl _).alloc _)) (numV_new w13 [0, 1] 3 2) (by decide)).mono ?_
  rintro e w14 ⟨rfl, h14⟩
  have h1314 : Later w13 w14 := ((Later.refl _).alloc _).trans h14
  have sS : (convert 23 9 (.slice aS mS qS)).run Try.prog w14 = .ok (.string { data := #[97, 98, 99, 100, 101] }) w14 := bytV_string (bS.out.later h1314)
  clear c1 c2 b1 b2 ca ba sa nm bS
  replace c0 := h1314.cell c0
  replace b0 := Lib.hid (b0.out.later h1314)
  replace hs := (hs.later h1314).mono (Q' := Q) (fun k hk => Or.inl hk)
  replace hW := Lib.hid (hW.out.trans h1314)
  clear h1314 h14
  go_wp2_with fail
  refine (open_st hs (fun _ => rfl)).mono ?_
  rintro e w15 ⟨rfl, h15⟩
  replace c0 := h15.cell c0
  replace b0 := Lib.hid (b0.out.later h15)
  replace hW := Lib.hid (hW.out.trans h15)
  clear hs h15 sS
  obtain ⟨Z5, mk5, bz5⟩ : ∃ Z : Array Value, (∀ w, (Instr.makeSlice 23 (.int .i64 5) (.int .i64 5)).run Try.prog w = .ok (.slice (some ⟨w.heap.size, 0, none⟩) 5 5) (w.alloc (.cells Z 5))) ∧ ∀ w : World, BytV (w.alloc (.cells Z 5)) (.slice (some ⟨w.heap.size, 0, none⟩) 5 5) (List.replicate 5 0) := make_zero 5 (by decide)
  obtain ⟨Z4, mk4, bz4⟩ : ∃ Z : Array Value, (∀ w, (Instr.makeSlice 23 (.int .i64 4097) (.int .i64 4097)).run Try.prog w = .ok (.slice (some ⟨w.heap.size, 0, none⟩) 4097 4097) (w.alloc (.cells Z 5))) ∧ ∀ w : World, BytV (w.alloc (.cells Z 5)) (.slice (some ⟨w.heap.size, 0, none⟩) 4097 4097) (List.replicate 4097 0) := make_zero 4097 (by decide)
  obtain ⟨Z3, mk3, bz3⟩ : ∃ Z : Array Value, (∀ w, (Instr.makeSlice 23 (.int .i64 4096) (.int .i64 4096)).run Try.prog w = .ok (.slice (some ⟨w.heap.size, 0, none⟩) 4096 4096) (w.alloc (.cells Z 5))) ∧ ∀ w : World, BytV (w.alloc (.cells Z 5)) (.slice (some ⟨w.heap.size, 0, none⟩) 4096 4096) (List.replicate 4096 0) := make_zero 4096 (by decide)
  obtain ⟨Z2, mk2, bz2⟩ : ∃ Z : Array Value, (∀ w, (Instr.makeSlice 23 (.int .i64 131073) (.int .i64 131073)).run Try.prog w = .ok (.slice (some ⟨w.heap.size, 0, none⟩) 131073 131073) (w.alloc (.cells Z 5))) ∧ ∀ w : World, BytV (w.alloc (.cells Z 5)) (.slice (some ⟨w.heap.size, 0, none⟩) 131073 131073) (List.replicate 131073 0) := make_zero 131073 (by decide)
  obtain ⟨Z1, mk1, bz1⟩ : ∃ Z : Array Value, (∀ w, (Instr.makeSlice 23 (.int .i64 881) (.int .i64 881)).run Try.prog w = .ok (.slice (some ⟨w.heap.size, 0, none⟩) 881 881) (w.alloc (.cells Z 5))) ∧ ∀ w : World, BytV (w.alloc (.cells Z 5)) (.slice (some ⟨w.heap.size, 0, none⟩) 881 881) (List.replicate 881 0) := make_zero 881 (by decide)
  clear b0 hq hg hga i0 i1 i2 ia hm2
  go_wp2_with fail
  refine (read_no _ _ _ (newbytes4 w15 5 2 3 0 (by intro y hy; simp at hy; omega)) (by decide) rdBad).mono ?_
  rintro e w16 ⟨rfl, h16⟩
  have h156 := ((Later.refl w15).alloc _).trans h16
  replace c0 := h156.cell c0
  replace hW := Lib.hid (hW.out.trans h156)
  clear h156 h16
  obtain ⟨X, hX⟩ : ∃ X, X = w16.alloc (.cells #[.int .u64 0, .int .i64 0, .int .i64 0, .slice none 0 0] 25) := ⟨_, rfl⟩
  have hlX : Later w16 X := by rw [hX]; exact (Later.refl _).alloc _
  replace c0 := hlX.cell c0
  replace hW := Lib.hid (hW.out.trans hlX)
  go_upto_region 17 with fail
  rw [← hX]
  clear hX hlX
  go_wp2_with fail
  refine (cut_bad 1 0 _ _ _ (bz5 X) (by rw [List.length_replicate]; unfold CutOk; decide)).mono ?_
  rintro e w17 ⟨rfl, hc⟩
  have hcc := ((Later.refl X).alloc _).trans hc
  replace c0 := hcc.cell c0
  replace hW := Lib.hid (hW.out.trans hcc)
  clear hc hcc
  go_wp2_with fail
  refine (cut_bad 1 881 _ _ _ (bz5 w17) (by rw [List.length_replicate]; unfold CutOk; decide)).mono ?_
  rintro e w18 ⟨rfl, hc⟩
  have hcc := ((Later.refl w17).alloc _).trans hc
  replace c0 := hcc.cell c0
  replace hW := Lib.hid (hW.out.trans hcc)
  clear hc hcc
  go_wp2_with fail
  refine (cut_bad 4611686018427387904 1 _ _ _ (bytV_nil w18) (by unfold CutOk; simp)).mono ?_
  rintro e w19 ⟨rfl, h19⟩
  replace c0 := h19.cell c0
  replace hW := Lib.hid (hW.out.trans h19)
  clear h19
  go_wp2_with fail
  refine (cut_any 1 1 _ _ _ (bz4 w19) (by decide) (by unfold CutOk; simp)).mono ?_
  rintro e w20 ⟨(⟨h4, _⟩ | ⟨h4, rfl⟩), hc⟩
  · rw [chunks_one _ (by decide)] at h4
    exact absurd h4 (by decide)
  have hcc := ((Later.refl w19).alloc (.cells Z4 5)).trans hc
  replace c0 := hcc.cell c0
  replace hW := Lib.hid (hW.out.trans hcc)
  clear hc hcc h4
  go_wp2_with fail
  refine (cut_any 1 1 _ _ _ (bz3 w20) (by decide) (by unfold CutOk; simp)).mono ?_
  rintro e w21 ⟨(⟨h4, vc, vsc, rfl, hrc, -⟩ | ⟨h4, rfl⟩), hc⟩
  rotate_left
  · rw [chunks_one _ (by decide)] at h4
    exact absurd (by decide) h4
  rw [chunks_one _ (by decide)] at hrc
  obtain ⟨ac, cc, rfl⟩ := own_form hrc
  have hcc := ((Later.refl w20).alloc (.cells Z3 5)).trans hc
  replace c0 := hcc.cell c0
  replace hW := Lib.hid (hW.out.trans hcc)
  clear hc hcc h4 hrc
  go_wp2_with fail
  refine (cut_bad 1 880 _ _ _ (bz2 w21) (by rw [List.length_replicate]; unfold CutOk; decide)).mono ?_
  rintro e w22 ⟨rfl, hc⟩
  have hcc := ((Later.refl w21).alloc _).trans hc
  replace c0 := hcc.cell c0
  replace hW := Lib.hid (hW.out.trans hcc)
  clear hc hcc
  go_wp2_with fail
  refine (write_no 0 0 0 _ _ _ (bytV_nil w22) (by unfold May; simp)).mono ?_
  rintro e w23 ⟨rfl, hc⟩
  replace c0 := hc.cell c0
  replace hW := Lib.hid (hW.out.trans hc)
  clear hc
  go_wp2_with fail
  refine (write_no 0 0 1 _ _ _ (bz1 w23) (by rw [List.length_replicate]; unfold May; decide)).mono ?_
  rintro e w24 ⟨rfl, hc⟩
  have hcc := ((Later.refl w23).alloc (.cells Z1 5)).trans hc
  replace c0 := hcc.cell c0
  replace hW := Lib.hid (hW.out.trans hcc)
  clear hc hcc
  go_wp2_with fail
  refine (new_no 0 w24 (by decide)).mono ?_
  rintro e w25 ⟨rfl, hc⟩
  replace c0 := hc.cell c0
  replace hW := Lib.hid (hW.out.trans hc)
  clear hc
  go_wp2_with fail
  refine (new_no 65 w25 (by decide)).mono ?_
  rintro e w26 ⟨rfl, hc⟩
  replace c0 := hc.cell c0
  replace hW := Lib.hid (hW.out.trans hc)
  clear hc mk1 mk2 mk3 mk4 mk5 bz1 bz2 bz3 bz4 bz5
  obtain ⟨Y, hY⟩ : ∃ Y, Y = w26.alloc (.cells #[.int .i64 0, .map none] 78) := ⟨_, rfl⟩
  have hlY : Later w26 Y := by rw [hY]; exact (Later.refl _).alloc _
  have z0 : Y.cell? ⟨w26.heap.size, 0, none⟩ = some (.int .i64 0) := by rw [hY]; simp
  replace c0 := hlY.cell c0
  replace hW := Lib.hid (hW.out.trans hlY)
  go_upto_region 30 with fail
  rw [← hY]
  clear hY hlY
  obtain ⟨z, hz⟩ : ∃ z, Hid (w26.heap.size = z) := ⟨_, Lib.hid rfl⟩
  rw [hz.out] at z0 ⊢
  go_wp2_with fail
  refine (put_none u0 Y).mono ?_
  rintro e wy ⟨rfl, hwy⟩
  obtain rfl : Y = wy := hwy.symm
  go_wp2_with fail
  refine (drop_zero z 0 Y z0).mono ?_
  rintro e wy ⟨rfl, hwy⟩
  obtain rfl : Y = wy := hwy.symm
  go_wp2_with fail
  refine (open_none Y).mono ?_
  rintro e wy ⟨rfl, hwy⟩
  obtain rfl : Y = wy := hwy.symm
  go_wp2_with fail
  refine (missing_zero z 0 Y z0).mono ?_
  rintro e wy ⟨rfl, hwy⟩
  obtain rfl : Y = wy := hwy.symm
  go_wp2_with fail
  refine (held_none Y).mono ?_
  rintro e wy ⟨rfl, hwy⟩
  obtain rfl : Y = wy := hwy.symm
  go_wp2_with fail
  refine (copy_zero z Y z0).mono ?_
  rintro e wy ⟨rfl, hwy⟩
  obtain rfl : Y = wy := hwy.symm
  go_wp2_with fail
  go_ret
  exact ⟨rfl, hW.out⟩
end Go.Proofs.Ytjelfiljebamgaa
