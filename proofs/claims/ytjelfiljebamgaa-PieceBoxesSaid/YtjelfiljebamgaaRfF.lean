/-
  Chapter 21's document: Put of a piece.
-/
import Derived.Test.YtjelfiljebamgaaRfD1
import Derived.Deep.DeepCutAuto
namespace Go.Proofs.Ytjelfiljebamgaa
open Go.RowKit Go.Shelf Go.Maps
set_option linter.unusedVariables false
set_option linter.unusedSimpArgs false
attribute [local go_sem] Oper.semAt_some
attribute [-go_sem] Builtin.append_

def clashF (p : Pc) (q : Pc) : Bool := q.of != p.of || (q.pl == p.pl && q.d != p.d)
theorem ofL_pcs (P : List Pv) (i : Nat) : ofL (pcs P) i = pcs (ofP P i) := by
  unfold ofL pcs ofP
  rw [List.filter_map]
  rfl
theorem dclash_F (P : List Pv) (p : Pc) : dclash (pcs P) p = (pcs (ofP P p.id)).any (clashF p) := by unfold dclash; rw [ofL_pcs]; rfl
theorem dthere_F (P : List Pv) (p : Pc) : dthere (pcs P) p = (pcs (ofP P p.id)).any (fun q => q.pl == p.pl) := by unfold dthere; rw [ofL_pcs]
theorem any_take {F : List Pv} {k : Nat} {q : Pv} (f : Pc → Bool) (h : F[k]? = some q) : (pcs (F.take (k + 1))).any f = ((pcs (F.take k)).any f || f q.1) := by
  rw [pcs_take h, List.any_append]; simp
theorem any_of_take {F : List Pv} {k : Nat} {f : Pc → Bool} (h : (pcs (F.take k)).any f = true) : (pcs F).any f = true := by
  rw [List.any_eq_true] at h ⊢
  obtain ⟨q, hq, e⟩ := h
  unfold pcs at hq ⊢
  obtain ⟨z, hz, rfl⟩ := List.mem_map.1 hq
  exact ⟨z.1, List.mem_map_of_mem (List.mem_of_mem_take hz), e⟩
/-- No room. -/
def fullR (P : List Pv) (r : Int) (p : Pc) : Prop := (ofP P p.id = [] ∧ r ≤ ((dopen (pcs P)).length : Int)) ∨ 131072 < sumL (pcs (ofP P p.id)) + p.d.length
theorem fullR_same (P : List Pv) (r : Int) (p : Pc) : fullR P r p ↔ ((ofL (pcs P) p.id = [] ∧ r ≤ ((dopen (pcs P)).length : Int)) ∨ 131072 < sumL (ofL (pcs P) p.id) + p.d.length) := by
  unfold fullR
  rw [ofL_pcs]
  have : pcs (ofP P p.id) = [] ↔ ofP P p.id = [] := List.map_eq_nil_iff
  rw [this]
theorem pcs_gone (P : List Pv) (i : Nat) : pcs (goneP P i) = (pcs P).filter fun q => !(q.id == i) := by
  unfold pcs goneP
  rw [List.filter_map]
  rfl
theorem pcs_snoc (P : List Pv) (q : Pv) : pcs (P ++ [q]) = pcs P ++ [q.1] := by unfold pcs; rw [List.map_append]; rfl
set_option maxRecDepth 100000 in
set_option maxHeartbeats 2000000 in
theorem refput_yes (u : Value) (b : List Int) (y : Nat) (r : Int) (P : List Pv) (Q : Nat → Prop) (W : World) (h : DB W y r P Q) (hn9 : P.length ≤ 999999) (hd : ∀ q ∈ P, q.1.d.length ≤ 1000) (hu : BytV W u b) (hb : b.length ≤ 1000000) (hok : RdOk b) (hQ : ∀ k, Q k → k < W.heap.size) :
    Calls Try.prog 88 #[wp y, u] W (RefPost W y r P Q (pcOf b)) := by
  have hn : P.length ≤ 1000000 := by omega
  have HR := Lib.hid (read21_yes u b W hu hb hok)
  have hbD := Lib.hid (rd4_byt hu.1)
  obtain ⟨ao, cap, rfl⟩ := bytV_form hu
  obtain ⟨p, hp⟩ : ∃ p, Hid (pcOf b = p) := ⟨_, Lib.hid rfl⟩
  have hp1 : (rd1 b).1 = p.id := by rw [← hp.out]; rfl
  have hp2 : (rd3 b).1 = p.pl := by rw [← hp.out]; rfl
  have hp3 : (((rd2 b).1 : Nat) : Int) + 1 = (p.of : Int) := by rw [← hp.out]; rfl
  have hp4 : (rd4 b).1 = p.d := by rw [← hp.out]; rfl
  rw [hp1, hp2, hp3, hp4] at HR
  rw [hp4] at hbD
  have hpd : p.d.length ≤ 880 := by rw [← hp4]; exact hok.2.2.2.2.2.2
  have hpo : p.of ≤ 4096 := by have := hok.2.2.2.1; omega
  replace hQ := Lib.hid hQ
  rw [hp.out]
  have hdb := Lib.hid h
  replace hd := Lib.hid hd
  clear hu hok hb hp1 hp2 hp3 hp4 h
  go_enter Try.func88, Try.ntmps88
  go_wp2_with fail
  refine HR.out.mono ?_
  rintro e w1 ⟨uD, rfl, hrD, hl1⟩
  have hbDV := (bytV_of_row hbD.out hrD).1
  have hrDl := World.ownsRow.lt hrD
  obtain ⟨aD, qD, rfl⟩ := own_form hrD
  obtain ⟨wz, hwz⟩ : ∃ w, w = w1.alloc (.cells #[.int .u64 (p.id : Nat), .int .i64 (p.pl : Nat), .int .i64 (p.of : Nat), .slice aD p.d.length qD] 25) := ⟨_, rfl⟩
  have hlz : Later w1 wz := by rw [hwz]; exact (Later.refl _).alloc _
  have hzz : Hid (wz.heap[w1.heap.size]? = some (.cells #[.int .u64 (p.id : Nat), .int .i64 (p.pl : Nat), .int .i64 (p.of : Nat), .slice aD p.d.length qD] 25 (0, 0))) := Lib.hid (by rw [hwz]; exact heap_alloc_new _ _)
  obtain ⟨z, hz⟩ : ∃ z, Hid (w1.heap.size = z) := ⟨_, Lib.hid rfl⟩
  have hbDz := Lib.hid (hbDV.later hlz)
  have hinD : Hid (In (.slice aD p.d.length qD) (fun k => W.heap.size ≤ k ∧ k < z)) := Lib.hid (fun g o s len cap e _ => by have := hrDl g (by rw [e]; rfl); rw [hz.out] at this; exact this)
  have hWz : Hid (W.heap.size ≤ z ∧ z < wz.heap.size) := Lib.hid ⟨by rw [← hz.out]; exact hl1.size, (Array.getElem?_eq_some_iff.1 (hz.out ▸ hzz.out)).1⟩
  clear hrDl
  have hlW := Lib.hid (hl1.trans hlz)
  have hdbz := Lib.hid (hdb.out.later hlW.out)
  clear hbDV hrD
  go_upto_region 2 with fail
  rw [← hwz, hz.out]
  rw [hz.out] at hzz
  clear hwz hlz
  obtain ⟨v0, base, hbx, hP, -, -, -, hdat⟩ := hdbz.out
  have hy : wz.cell? ⟨y, 1, none⟩ = some v0 := by rw [cell_of_row _ _ _ _ _ _ hbx]; rfl
  have hofc := Lib.hid (of_any y p.id v0 P base wz hy hP hn (fun q hq => bytV_one (hdat q hq).1))
  have hdath : Hid (∀ q ∈ ofP P p.id, BytV wz q.2 q.1.d) := Lib.hid (fun q hq => (hdat q (List.mem_filter.1 hq).1).1)
  have hFd : Hid (∀ q ∈ ofP P p.id, q.1.d.length ≤ 1000) := Lib.hid (fun q hq => hd.out q (List.mem_filter.1 hq).1)
  have hFn : (ofP P p.id).length ≤ 1000000 := Nat.le_trans (List.length_filter_le _ _) hn
  have hcl := Lib.hid (dclash_F P p)
  have hth := Lib.hid (dthere_F P p)
  obtain ⟨F, hF⟩ : ∃ F, Hid (ofP P p.id = F) := ⟨_, Lib.hid rfl⟩
  rw [hF.out] at hofc hdath hFd hFn hcl hth
  have cz0 : wz.cell? ⟨z, 0, none⟩ = some (.int .u64 (p.id : Nat)) := by rw [cell_of_row _ _ _ _ _ _ hzz.out]; rfl
  clear hbx hP hy hdat
  go_wp2_with fail
  clear cz0
  refine hofc.out.mono ?_
  rintro e w2 ⟨uF, rfl, hrF, hl2⟩
  obtain ⟨aF, qF, rfl⟩ := hrF.form
  obtain ⟨m, hm⟩ : ∃ m, Hid (F.length = m) := ⟨_, Lib.hid rfl⟩
  rw [hm.out] at hrF hFn ⊢
  replace hrF := Lib.hid hrF
  replace hl2 := Lib.hid hl2
  clear hofc
  have hsum : Hid (∀ k, k ≤ m → sumL (pcs (F.take k)) ≤ 1000000000) := Lib.hid (fun k hk => by
    have h1 := sumL_le (pcs (F.take k)) 1000 (fun p hp => by
      obtain ⟨q, hq, rfl⟩ := List.mem_map.1 hp
      exact hFd.out q (List.mem_of_mem_take hq))
    have h2 : (pcs (F.take k)).length ≤ k := by unfold pcs; rw [List.length_map, List.length_take]; omega
    have h3 : 1000 * (pcs (F.take k)).length ≤ 1000 * 1000000 := Nat.mul_le_mul_left _ (by omega)
    omega)
  go_wp2_with fail
  go_loopg [10, 11] (m + 1) (fun gg s t wr => ∃ k c : Nat, gg = m + 1 - k ∧ k ≤ m ∧ s = .int .i64 c ∧ t = .int .i64 k ∧ Hid (sumL (pcs (F.take k)) = c) ∧ Hid ((pcs (F.take k)).any (clashF p) = false) ∧ Hid (Later w2 wr))
  case atStart => exact ⟨0, 0, by omega, Nat.zero_le _, rfl, rfl, Lib.hid rfl, Lib.hid rfl, Lib.hid (Later.refl _)⟩
  case round =>
    obtain ⟨k, c, rfl, hkm, rfl, rfl, hc, hno, hlw⟩ := hrel
    by_cases hk : k < m
    · have hkk : (k : Int) < (m : Int) := by omega
      obtain ⟨q, hq⟩ : ∃ q, F[k]? = some q := ⟨F[k]'(by rw [hm.out]; exact hk), List.getElem?_eq_getElem _⟩
      obtain ⟨g, rfl, c0, c1, c2, c3⟩ := PsV.cell (hrF.out.later hlw.out) hq
      have hqb := (hdath.out q (List.mem_of_getElem? hq)).later (hl2.out.trans hlw.out)
      have hs1 := hsum.out (k + 1) hk
      have hs0 := hsum.out k (by omega)
      rw [pcs_take hq, sumL_snoc, hc.out] at hs1
      have hnx : Hid (sumL (pcs (F.take (k + 1))) = c + q.1.d.length) := Lib.hid (by rw [pcs_take hq, sumL_snoc, hc.out])
      have han := Lib.hid (any_take (clashF p) hq)
      rw [hno.out, Bool.false_or] at han
      obtain ⟨au, cu, e3⟩ := bytV_form hqb
      rw [e3] at c3 hqb
      have hzw := (hl2.out.trans hlw.out).obj hzz.out
      have cz1 : wr.cell? ⟨z, 1, none⟩ = some (.int .i64 (p.pl : Nat)) := by rw [cell_of_row _ _ _ _ _ _ hzw]; rfl
      have cz2 : wr.cell? ⟨z, 2, none⟩ = some (.int .i64 (p.of : Nat)) := by rw [cell_of_row _ _ _ _ _ _ hzw]; rfl
      have cz3 : wr.cell? ⟨z, 3, none⟩ = some (.slice aD p.d.length qD) := by rw [cell_of_row _ _ _ _ _ _ hzw]; rfl
      have hqbh := Lib.hid hqb
      have hqh := Lib.hid hq
      clear c0 hq e3 hqb hzw
      go_upto_region 10 with fail
      by_cases hof : q.1.of = p.of
      · have hof1 : ((q.1.of : Int) == (p.of : Int)) = true := by simp [hof]
        by_cases hpl : q.1.pl = p.pl
        · have hpl1 : ((q.1.pl : Int) == (p.pl : Int)) = true := by simp [hpl]
          have sq : ∀ n, (convert 23 9 (.slice au q.1.d.length cu)).run Try.prog (wr.drewN n) = .ok (.string (strOfNums q.1.d)) (wr.drewN n) := fun n => bytV_string (hqbh.out.later ((Later.refl _).drewN n))
          have sp : ∀ n, (convert 23 9 (.slice aD p.d.length qD)).run Try.prog (wr.drewN n) = .ok (.string (strOfNums p.d)) (wr.drewN n) := fun n => bytV_string (hbDz.out.later ((hl2.out.trans hlw.out).drewN n))
          by_cases hdd : q.1.d = p.d
          · have hcf : Hid (clashF p q.1 = false) := Lib.hid (by unfold clashF; simp [hof, hpl, hdd])
            obtain ⟨S, hS⟩ : ∃ S, Hid (strOfNums p.d = S) := ⟨_, Lib.hid rfl⟩
            rw [show strOfNums q.1.d = S by rw [hdd]; exact hS.out] at sq
            rw [hS.out] at sp
            clear hdd
            go_quiet (fail)
            go_wp2_with fail
            go_roundg (m - k)
            case measure => omega
            case rel => exact ⟨k + 1, c + q.1.d.length, by omega, by omega, by go_num, by go_num, hnx, Lib.hid (by rw [han.out]; exact hcf.out), Lib.hid (hlw.out.drewN _)⟩
          · have hcf : Hid (clashF p q.1 = true) := Lib.hid (by unfold clashF; simp [hof, hpl, hdd])
            have hne : strOfNums q.1.d ≠ strOfNums p.d := fun e => hdd ((str_eq hqbh.out.1 hbDz.out.1).1 e)
            obtain ⟨S, hS⟩ : ∃ S, Hid (strOfNums p.d = S) := ⟨_, Lib.hid rfl⟩
            obtain ⟨S', hS'⟩ : ∃ S, Hid (strOfNums q.1.d = S) := ⟨_, Lib.hid rfl⟩
            rw [hS.out] at sp hne
            rw [hS'.out] at sq hne
            have hne1 : (S'.toList == S.toList) = false := by
              rw [beq_eq_false_iff_ne]
              intro e
              exact hne (ByteArray.ext (Array.ext' (by simpa [ByteArray.toList_eq] using e)))
            clear hdd
            go_quiet (fail)
            go_wp2_with fail
            go_ret3
            exact RefPost.same hdb.out ((hlW.out.trans (hl2.out.trans hlw.out)).drewN _) (rput_clash (by rw [hcl.out]; exact any_of_take (k := k + 1) (by rw [han.out]; exact hcf.out)))
        · have hpl1 : ((q.1.pl : Int) == (p.pl : Int)) = false := by simp; omega
          have hcf : Hid (clashF p q.1 = false) := Lib.hid (by unfold clashF; simp [hof, hpl])
          go_quiet (fail)
          go_wp2_with fail
          go_roundg (m - k)
          case measure => omega
          case rel => exact ⟨k + 1, c + q.1.d.length, by omega, by omega, by go_num, by go_num, hnx, Lib.hid (by rw [han.out]; exact hcf.out), Lib.hid (hlw.out.drewN _)⟩
      · have hof1 : ((q.1.of : Int) == (p.of : Int)) = false := by simp; omega
        have hof2 : ¬ (q.1.of : Int) = (p.of : Int) := by omega
        have hof3 : ((q.1.of : Int) != (p.of : Int)) = true := by simp; omega
        have hcf : Hid (clashF p q.1 = true) := Lib.hid (by unfold clashF; simp [hof])
        go_quiet (fail)
        go_wp2_with fail
        go_ret3
        exact RefPost.same hdb.out ((hlW.out.trans (hl2.out.trans hlw.out)).drewN _) (rput_clash (by rw [hcl.out]; exact any_of_take (k := k + 1) (by rw [han.out]; exact hcf.out)))
    · obtain rfl : m = k := by omega
      have hkk : ¬ (m : Int) < (m : Int) := by omega
      have hclf : Hid (dclash (pcs P) p = false) := Lib.hid (by
        rw [hcl.out]
        have := hno.out
        rw [List.take_of_length_le (by rw [hm.out]; exact Nat.le_refl _)] at this
        exact this)
      go_wp2_with fail
      rename World => wv
      go_loopg [12] (m + 1) (fun gg t wr => ∃ k : Nat, gg = m + 1 - k ∧ k ≤ m ∧ t = .int .i64 k ∧ Hid ((pcs (F.take k)).any (fun q => q.pl == p.pl) = false) ∧ Hid (Later wv wr))
      case atStart => exact ⟨0, by omega, Nat.zero_le _, rfl, Lib.hid rfl, Lib.hid (Later.refl _)⟩
      case round =>
        obtain ⟨k, rfl, hkm, rfl, hno2, hlw2⟩ := hrel
        by_cases hk : k < m
        · have hkk : (k : Int) < (m : Int) := by omega
          obtain ⟨q, hq⟩ : ∃ q, F[k]? = some q := ⟨F[k]'(by rw [hm.out]; exact hk), List.getElem?_eq_getElem _⟩
          obtain ⟨g, rfl, -, c1, -, -⟩ := PsV.cell (hrF.out.later (hlw.out.trans hlw2.out)) hq
          have han := Lib.hid (any_take (fun q => q.pl == p.pl) hq)
          rw [hno2.out, Bool.false_or] at han
          have hzw := ((hl2.out.trans hlw.out).trans hlw2.out).obj hzz.out
          have cz1 : wr.cell? ⟨z, 1, none⟩ = some (.int .i64 (p.pl : Nat)) := by rw [cell_of_row _ _ _ _ _ _ hzw]; rfl
          clear hq hzw
          by_cases hpl : q.1.pl = p.pl
          · have hpl1 : ((q.1.pl : Int) == (p.pl : Int)) = true := by simp [hpl]
            have hthr : Hid (dthere (pcs P) p = true) := Lib.hid (by rw [hth.out]; exact any_of_take (k := k + 1) (by rw [han.out]; simp [hpl]))
            go_wp2_with fail
            go_quiet (fail)
            go_wp2_with fail
            go_ret3
            exact RefPost.same hdb.out (((hlW.out.trans hl2.out).trans (hlw.out.trans hlw2.out)).drewN _) (rput_there hclf.out hthr.out)
          · have hpl1 : ((q.1.pl : Int) == (p.pl : Int)) = false := by simp; omega
            have hnx2 : Hid ((pcs (F.take (k + 1))).any (fun q => q.pl == p.pl) = false) := Lib.hid (by rw [han.out]; simp [hpl])
            go_wp2_with fail
            go_quiet (fail)
            go_wp2_with fail
            go_roundg (m - k)
            case measure => omega
            case rel => exact ⟨k + 1, by omega, by omega, by go_num, hnx2, Lib.hid (hlw2.out.drewN _)⟩
        · obtain rfl : m = k := by omega
          have hkk : ¬ (m : Int) < (m : Int) := by omega
          have hthf : Hid (dthere (pcs P) p = false) := Lib.hid (by
            rw [hth.out]
            have := hno2.out
            rw [List.take_of_length_le (by rw [hm.out]; exact Nat.le_refl _)] at this
            exact this)
          have hcF : Hid (sumL (pcs F) = c) := Lib.hid (by
            have := hc.out
            rw [List.take_of_length_le (by rw [hm.out]; exact Nat.le_refl _)] at this
            exact this)
          have hlx := Lib.hid ((hl2.out.trans hlw.out).trans hlw2.out)
          have hop := Lib.hid (open_ref y r P Q wr (hdbz.out.later hlx.out) hn)
          have hcm := hsum.out m (Nat.le_refl _)
          rw [hc.out] at hcm
          have hrF5 := Lib.hid (hrF.out.later (hlw.out.trans hlw2.out))
          clear hno2 hno hc hsum hlw hlw2 hrF
          go_wp2_with fail
          refine hop.out.mono ?_
          rintro e w5 ⟨u5, rfl, hr5, hl5⟩
          obtain ⟨a5, q5, rfl⟩ := own_form hr5
          obtain ⟨v5, base5, hbx5, -, -, -, -, -⟩ := (hdbz.out.later hlx.out).later hl5
          have cy0 : w5.cell? ⟨y, 0, none⟩ = some (.int .i64 r) := by rw [cell_of_row _ _ _ _ _ _ hbx5]; rfl
          have hzw5 := (hlx.out.trans hl5).obj hzz.out
          have cz3 : w5.cell? ⟨z, 3, none⟩ = some (.slice aD p.d.length qD) := by rw [cell_of_row _ _ _ _ _ _ hzw5]; rfl
          obtain ⟨nO, hnO⟩ : ∃ n, Hid ((dopen (pcs P)).length = n) := ⟨_, Lib.hid rfl⟩
          rw [hnO.out] at hr5 ⊢
          have hl5' := Lib.hid ((hlW.out.trans hlx.out).trans hl5)
          replace hr5 := Lib.hid hr5
          replace hzw5 := Lib.hid hzw5
          replace hbx5 := Lib.hid hbx5
          have hcF2 : sumL (pcs (ofP P p.id)) = c := by rw [hF.out]; exact hcF.out
          replace hcF2 := Lib.hid hcF2
          by_cases hroom : m = 0 ∧ r ≤ (nO : Int)
          · obtain ⟨hm0, hro⟩ := hroom
            have hfull : Hid (fullR P r p) := Lib.hid (.inl ⟨by rw [hF.out]; exact List.eq_nil_of_length_eq_zero (by rw [hm.out]; exact hm0), by rw [hnO.out]; exact hro⟩)
            have hm1 : ((m : Int) == 0) = true := by simp; omega
            go_wp2_with fail
            go_ret3
            exact RefPost.same hdb.out hl5'.out (rput_full hclf.out hthf.out ((fullR_same P r p).1 hfull.out))
          · by_cases hbig : 131072 < c + p.d.length
            · have hfull : Hid (fullR P r p) := Lib.hid (.inr (by rw [hcF2.out]; exact hbig))
              have hbig1 : (131072 : Int) < (c : Int) + (p.d.length : Int) := by omega
              by_cases hm0 : m = 0
              · have hm1 : ((m : Int) == 0) = true := by simp; omega
                have hro : ¬ r ≤ (nO : Int) := fun h => hroom ⟨hm0, h⟩
                go_wp2_with fail
                go_ret3
                exact RefPost.same hdb.out hl5'.out (rput_full hclf.out hthf.out ((fullR_same P r p).1 hfull.out))
              · have hm1 : ((m : Int) == 0) = false := by simp; omega
                go_wp2_with fail
                go_ret3
                exact RefPost.same hdb.out hl5'.out (rput_full hclf.out hthf.out ((fullR_same P r p).1 hfull.out))
            · have hbig1 : ¬ (131072 : Int) < (c : Int) + (p.d.length : Int) := by omega
              have hnfull : Hid (¬ fullR P r p) := Lib.hid (fun h => by
                rcases h with ⟨h1, h2⟩ | h
                · rw [hF.out] at h1
                  rw [hnO.out] at h2
                  exact hroom ⟨by rw [← hm.out, h1]; rfl, h2⟩
                · rw [hcF2.out] at h; exact hbig h)
              go_upto_region 18 with fail
              go_cut [108] (fun s108 wx => s108 = .bool false ∧ wx = w5)
              case first =>
                by_cases hm0 : m = 0
                · have hm1 : ((m : Int) == 0) = true := by simp; omega
                  have hro : ¬ r ≤ (nO : Int) := fun h => hroom ⟨hm0, h⟩
                  replace hm0 := Lib.hid hm0
                  go_wp2_with fail
                  go_meet
                  case rel => exact ⟨by simp; omega, rfl⟩
                · have hm1 : ((m : Int) == 0) = false := by simp; omega
                  go_wp2_with fail
                  go_meet
                  case rel => exact ⟨by simp; omega, rfl⟩
              case rest =>
                obtain ⟨rfl, rfl⟩ := hcut
                obtain ⟨v0, base, hbx, hP, hyb, hQy, hQo, hdat⟩ := hdb.out
                have hyl : y < W.heap.size := (Array.getElem?_eq_some_iff.1 hbx).1
                have hlz := hl5'.out
                obtain ⟨ao, cp, hv0⟩ := hP.form
                subst hv0
                obtain ⟨X, hX⟩ : ∃ X, X = (wc.alloc (.cells #[.int .u64 (p.id : Nat), .int .i64 (p.pl : Nat), .int .i64 (p.of : Nat), .slice aD p.d.length qD] 25)).drew := ⟨_, rfl⟩
                have hcX : Later wc X := by rw [hX]; exact ((Later.refl wc).alloc _).drew
                have hbX : X.heap[wc.heap.size]? = some (.cells (prow (p, .slice aD p.d.length qD)).toArray 25 (0, 0)) := by rw [hX]; exact heap_alloc_new wc _
                have hWX := hlz.trans hcX
                have hPy : PsV W (y + 1) (.slice ao P.length cp) P := row_base hP (by omega)
                obtain ⟨g1, c1, w6, hap, hP6, hg6, hlie, hgl⟩ := run_append_pc X (y + 1) _ P (hPy.later hWX) (p, .slice aD p.d.length qD) rfl wc.heap.size hbX hn (by have := hWX.size; omega)
                have hyw := hlz.obj hbx
                have hlD : Later wc wc.drew := (Later.refl wc).drew
                have cy1 : wc.drew.cell? ⟨y, 1, none⟩ = some (.slice ao P.length cp) := hlD.cell (by rw [cell_of_row _ _ _ _ _ _ hyw]; rfl)
                have cy1' : X.cell? ⟨y, 1, none⟩ = some (.slice ao P.length cp) := hcX.cell (by rw [cell_of_row _ _ _ _ _ _ hyw]; rfl)
                have zd := hlD.obj hzw5.out
                have zx := hcX.obj hzw5.out
                have zd0 : wc.drew.cell? ⟨z, 0, none⟩ = some (.int .u64 (p.id : Nat)) := by rw [cell_of_row _ _ _ _ _ _ zd]; rfl
                have zd1 : wc.drew.cell? ⟨z, 1, none⟩ = some (.int .i64 (p.pl : Nat)) := by rw [cell_of_row _ _ _ _ _ _ zd]; rfl
                have zd2 : wc.drew.cell? ⟨z, 2, none⟩ = some (.int .i64 (p.of : Nat)) := by rw [cell_of_row _ _ _ _ _ _ zd]; rfl
                have zd3 : wc.drew.cell? ⟨z, 3, none⟩ = some (.slice aD p.d.length qD) := by rw [cell_of_row _ _ _ _ _ _ zd]; rfl
                have hyX : X.heap[y]? = some (.cells #[.int .i64 r, .slice ao P.length cp] 121 (0, 0)) := hcX.obj hyw
                have hyg : ∀ k, (Value.slice ao P.length cp).ownBlock = some k → y + 1 ≤ k ∧ k < W.heap.size := World.ownsRow.lt hPy
                have hy6 : w6.heap[y]? = some (.cells #[.int .i64 r, .slice ao P.length cp] 121 (0, 0)) := (hg6.block y (by have := hWX.size; omega) (fun e => by have := hyg y e.symm; omega)).trans hyX
                have cy6 : w6.cell? ⟨y, 1, none⟩ = some (.slice ao P.length cp) := by rw [cell_of_row _ _ _ _ _ _ hy6]; rfl
                have fy6 := frozen_row hy6 1
                go_upto_region 20 with fail
                rw [hX] at hap cy1'
                go_region
                obtain ⟨w7, hw7⟩ : ∃ w, w = w6.setCell ⟨y, 1, none⟩ (.slice (some ⟨g1, 0, none⟩) (P.length + 1) c1) := ⟨_, rfl⟩
                obtain ⟨hdb7, hkp7⟩ := DB.push (N := fun k => W.heap.size ≤ k ∧ k < z) hbx hPy (Nat.lt_succ_self y) hQy hQo hdat hWX hP6 hg6 hlie hgl (q := (p, .slice aD p.d.length qD)) (hbDz.out.later ((hlx.out.trans hl5).trans hcX)) hinD.out (fun k hk => ⟨hk.1, by have h1 := (Array.getElem?_eq_some_iff.1 zx).1; omega⟩)
                rw [← hw7] at hdb7 hkp7
                rw [← hw7]
                have hQX : ∀ k, W.heap.size ≤ k → ¬ Q k := fun k hk hq => by have := hQ.out k hq; omega
                have hrFX := (hrF5.out.later hl5).later hcX
                have hFl : ∀ k, (Value.slice aF m qF).ownBlock = some k → wz.heap.size ≤ k ∧ k < wc.heap.size := World.ownsRow.lt (hrF5.out.later hl5)
                have hcs : wc.heap.size < X.heap.size := (Array.getElem?_eq_some_iff.1 hbX).1
                have hF7 : PsV w7 wz.heap.size (.slice aF m qF) F := hrFX.at_ (fun k hk => hkp7.block k (by have := hFl k hk; omega) (hQX k (by have := hFl k hk; have := hWz.out; omega)))
                have z7 := Lib.hid (hkp7.at_ zx (hQX z hWz.out.1))
                have hX7 := hkp7.size
                have hzc := (hlx.out.trans hl5).size
                have hl8 : Later w7 (w7.alloc (.cells #[.int .u64 (p.id : Nat), .int .i64 (p.pl : Nat), .int .i64 (p.of : Nat), .slice aD p.d.length qD] 25)) := (Later.refl _).alloc _
                obtain ⟨g2, c2, w9, hap2, hF9, hg9, hlie2, hgl2⟩ := run_append_pc (w7.alloc (.cells #[.int .u64 (p.id : Nat), .int .i64 (p.pl : Nat), .int .i64 (p.of : Nat), .slice aD p.d.length qD] 25)) wz.heap.size _ F (hF7.later hl8) (p, .slice aD p.d.length qD) rfl w7.heap.size (heap_alloc_new _ _) (by rw [hm.out]; exact hFn) (by have := hl8.size; omega)
                rw [hm.out] at hap2 hF9
                have hs9 : X.heap.size < w9.heap.size := by have h1 := hg9.size; rw [World.size_alloc] at h1; omega
                have hA9 : Keep (fun k => (Value.slice aF m qF).ownBlock = some k) w7 w9 := (Keep.of_later hl8).grown hg9 (fun k hk => .inl hk)
                have hdb9 := Lib.hid (hdb7.keep hA9 (fun k hk e => by
                  have h1 := hFl k e
                  have h2 := hWz.out
                  rcases hk with hk | hk | hk
                  · have := hQ.out k hk; omega
                  · have := hk.2; omega
                  · omega))
                have hK9 : Hid (Keep (fun k => Q k ∨ W.heap.size ≤ k) W w9) := Lib.hid (((Keep.of_later hWX).trans (hkp7.mono (fun k _ hk => .inl hk))).trans (hA9.mono (fun k _ e => .inr (by have := hFl k e; have := hWz.out; omega))))
                have z9 := hA9.at_ z7.out (fun e => by have := hFl z e; have := hWz.out; omega)
                have z70 : w7.cell? ⟨z, 0, none⟩ = some (.int .u64 (p.id : Nat)) := by rw [cell_of_row _ _ _ _ _ _ z7.out]; rfl
                have z71 : w7.cell? ⟨z, 1, none⟩ = some (.int .i64 (p.pl : Nat)) := by rw [cell_of_row _ _ _ _ _ _ z7.out]; rfl
                have z72 : w7.cell? ⟨z, 2, none⟩ = some (.int .i64 (p.of : Nat)) := by rw [cell_of_row _ _ _ _ _ _ z7.out]; rfl
                have z73 : w7.cell? ⟨z, 3, none⟩ = some (.slice aD p.d.length qD) := by rw [cell_of_row _ _ _ _ _ _ z7.out]; rfl
                have z90 : w9.cell? ⟨z, 0, none⟩ = some (.int .u64 (p.id : Nat)) := by rw [cell_of_row _ _ _ _ _ _ z9]; rfl
                have z92 : w9.cell? ⟨z, 2, none⟩ = some (.int .i64 (p.of : Nat)) := by rw [cell_of_row _ _ _ _ _ _ z9]; rfl
                have hF9h := Lib.hid hF9
                have z9h := Lib.hid z9
                have hnf : ¬ ((ofL (pcs P) p.id = [] ∧ r ≤ ((dopen (pcs P)).length : Int)) ∨ 131072 < sumL (ofL (pcs P) p.id) + p.d.length) := fun h => hnfull.out ((fullR_same P r p).2 h)
                replace hnf := Lib.hid hnf
                have hofl : Hid (ofL (pcs P) p.id = pcs F) := Lib.hid (by rw [ofL_pcs, hF.out])
                have hofn : Hid ((ofL (pcs P) p.id).length = m) := Lib.hid (by rw [hofl.out]; unfold pcs; rw [List.length_map, hm.out])
                clear hdb7 hkp7 hF7 hl8 hF9 hg9 hA9 hlie hlie2 hgl hgl2 hap cy1 cy1' zd zx zd0 zd1 zd2 zd3 hyX hy6 cy6 fy6 hw7 hP6 hg6 hrFX hX hbX hPy hP hbx hdat hQo hyg
                by_cases hopen : m + 1 < p.of
                · have hop1 : (m : Int) + 1 < (p.of : Int) := by omega
                  go_wp2_with fail
                  go_ret3
                  refine ⟨_, [], false, 0, P ++ [((p, .slice aD p.d.length qD) : Pv)], by rw [rput_open hclf.out hthf.out hnf.out (by rw [hofn.out]; exact hopen), pcs_snoc], rfl, World.ownsRow_nil _ _ _ _, hdb9.out.mono (fun k hk => ?_), hK9.out.mono (fun k hk h => h.elim (fun h => h) (fun h => by omega))⟩
                  have hzX := hWX.size
                  rcases hk with hk | hk | hk
                  · exact .inl hk
                  · exact .inr ⟨hk.1, by have := (Array.getElem?_eq_some_iff.1 z9h.out).1; omega⟩
                  · exact .inr ⟨by omega, by omega⟩
                · have hop1 : ¬ (m : Int) + 1 < (p.of : Int) := by omega
                  have hgo := Lib.hid (gone_any y p.id r _ _ w9 hdb9.out (by rw [List.length_append, List.length_singleton]; omega))
                  go_wp2_with fail
                  refine hgo.out.mono ?_
                  rintro e w10 ⟨rfl, hd10⟩
                  obtain ⟨v9, b9, -, -, -, -, -, hdat9⟩ := hdb9.out
                  have hF10 : Hid (PsV w10 wz.heap.size (.slice (some ⟨g2, 0, none⟩) (m + 1) c2) (F ++ [((p, .slice aD p.d.length qD) : Pv)])) := Lib.hid (hF9h.out.at_ (fun k hk => by
                    have h1 := World.ownsRow.lt hF9h.out k hk
                    have h2 := hWz.out
                    exact hd10.keep.block k h1.2 (by omega)))
                  have hsub : ∀ q ∈ F ++ [((p, .slice aD p.d.length qD) : Pv)], q ∈ P ++ [((p, .slice aD p.d.length qD) : Pv)] := fun q hq => by
                    rcases List.mem_append.1 hq with h | h
                    · rw [← hF.out] at h
                      exact List.mem_append.2 (.inl (List.mem_filter.1 h).1)
                    · exact List.mem_append.2 (.inr h)
                  have hdF : Hid (∀ q ∈ F ++ [((p, .slice aD p.d.length qD) : Pv)], BytV w10 q.2 q.1.d) := Lib.hid (fun q hq => by
                    obtain ⟨q1, q2⟩ := hdat9 q (hsub q hq)
                    exact hd10.keep.bytV q1 (q2.mono (fun k hk e => hk.2.1 e)))
                  have hlenF : Hid ((F ++ [((p, .slice aD p.d.length qD) : Pv)]).length = m + 1) := Lib.hid (by rw [List.length_append, hm.out]; rfl)
                  have hsumF : sumL (pcs (F ++ [((p, .slice aD p.d.length qD) : Pv)])) ≤ 131072 := by rw [pcs_snoc, sumL_snoc, hcF.out]; show c + p.d.length ≤ _; omega
                  have hLF : Hid (pcs (F ++ [((p, .slice aD p.d.length qD) : Pv)]) = ofL (pcs P) p.id ++ [p]) := Lib.hid (by rw [pcs_snoc, hofl.out])
                  obtain ⟨F2, hF2⟩ : ∃ l, Hid (F ++ [((p, .slice aD p.d.length qD) : Pv)] = l) := ⟨_, Lib.hid rfl⟩
                  rw [hF2.out] at hF10 hdF hlenF hsumF hLF
                  have hle := Lib.hid (fun n j => Nat.le_trans (dcat_le F2 n j) hsumF)
                  have hz10 := hd10.keep.at_ z9h.out (show ¬ z = y by have := hWz.out; omega)
                  have z102 : w10.cell? ⟨z, 2, none⟩ = some (.int .i64 (p.of : Nat)) := by rw [cell_of_row _ _ _ _ _ _ hz10]; rfl
                  have hend : Hid (PutTo W w10 y r (goneP (P ++ [((p, .slice aD p.d.length qD) : Pv)]) p.id) Q) := Lib.hid ⟨hd10.box.mono (fun k hk => by
                    have hzX := hWX.size
                    have hzz := hd10.keep.size
                    rcases hk with (hk | hk | hk) | hk
                    · exact .inl hk
                    · exact .inr ⟨hk.1, by have := (Array.getElem?_eq_some_iff.1 hz10).1; omega⟩
                    · exact .inr ⟨by omega, by omega⟩
                    · exact .inr ⟨by omega, hk.2⟩), ((hK9.out.trans (hd10.keep.mono (fun k _ e => .inl (e ▸ hQy)))).mono (fun k hk h => h.elim (fun h => h) (fun h => by omega)))⟩
                  have hWB : W.heap.size ≤ w10.heap.size := by have := hWX.size; have := hd10.keep.size; omega
                  replace z102 := Lib.hid z102
                  clear hgo hdat9 hsub hsumF hz10 z70 z71 z72 z73 z90 z92 hd10
                  obtain ⟨B, hB⟩ : ∃ b, Hid (w10.heap.size = b) := ⟨_, Lib.hid rfl⟩
                  rw [hB.out] at hWB
                  go_wp2_with fail
                  go_loopg [14, 15] (p.of + 1) (fun gg u s wr => ∃ n : Nat, gg = p.of + 1 - n ∧ n ≤ p.of ∧ s = .int .i64 n ∧ Hid (wr.ownsRow B 5 1 u (dcat (pcs F2) n).length (encB (dcat (pcs F2) n))) ∧ Hid (Later w10 wr))
                  case atStart => exact ⟨0, by omega, Nat.zero_le _, rfl, Lib.hid (World.ownsRow_nil _ _ _ _), Lib.hid (Later.refl _)⟩
                  case round =>
                    obtain ⟨n, rfl, hno, rfl, hrow, hl⟩ := hrel
                    have cz := hl.out.cell z102.out
                    by_cases hn2 : n < p.of
                    · have hnn : (n : Int) < (p.of : Int) := by omega
                      go_wp2_with fail
                      clear cz
                      go_loopg [14, 16] (m + 2) (fun gg u s wr => ∃ j : Nat, gg = m + 2 - j ∧ j ≤ m + 1 ∧ s = .int .i64 j ∧ Hid (wr.ownsRow B 5 1 u (dcat (pcs F2) n ++ catP (pcs (F2.take j)) n).length (encB (dcat (pcs F2) n ++ catP (pcs (F2.take j)) n))) ∧ Hid (Later w10 wr))
                      case atStart => exact ⟨0, by omega, Nat.zero_le _, rfl, by rw [show catP (pcs (F2.take 0)) n = [] from rfl, List.append_nil]; exact hrow, hl⟩
                      case round =>
                        clear hrow hl
                        obtain ⟨j, rfl, hjm, rfl, hrow, hl⟩ := hrel
                        by_cases hj : j < m + 1
                        · have hjj : (j : Int) < (m : Int) + 1 := by omega
                          obtain ⟨q, hq⟩ : ∃ q, F2[j]? = some q := ⟨F2[j]'(by rw [hlenF.out]; exact hj), List.getElem?_eq_getElem _⟩
                          obtain ⟨g, he, -, k1, -, k3⟩ := PsV.cell (P := F2) (n := m + 1) (hF10.out.later hl.out) hq
                          have hge : g = g2 := by injection he with he; injection he with he; exact he.symm
                          subst hge
                          have hbq := (hdF.out q (List.mem_of_getElem? hq)).later hl.out
                          obtain ⟨au, cu, e3⟩ := bytV_form hbq
                          rw [e3] at k3 hbq
                          by_cases hpl : q.1.pl = n
                          · have hpl1 : ((q.1.pl : Int) == (n : Int)) = true := by simp [hpl]
                            have hcy := Lib.hid (catP_yes hq hpl)
                            have hbd := hle.out n (j + 1)
                            rw [hcy.out, List.length_append] at hbd
                            have hlb : (dcat (pcs F2) n ++ catP (pcs (F2.take j)) n).length + q.1.d.length ≤ 2000000 := by rw [List.length_append]; omega
                            have hBs : B ≤ wr.heap.size := by rw [← hB.out]; exact hl.out.size
                            have hbqh := Lib.hid hbq
                            clear hq he e3 hbq hbd
                            go_wp2_with (at_builtin; refine wpList_append_bytes rfl _ _ rfl B _ _ rfl hrow.out _ rfl q.1.d hbqh.out hlb hBs ?_; intro v5 w11 hr5 hg5 hn5)
                            go_roundg (m + 1 - j)
                            case measure => omega
                            case rel => exact ⟨j + 1, by omega, by omega, by go_num, by rw [hcy.out, ← List.append_assoc]; exact Lib.hid hr5, Lib.hid (later_own hl.out hrow.out (Nat.le_of_eq hB.out) hg5)⟩
                          · have hpl1 : ((q.1.pl : Int) == (n : Int)) = false := by simp; omega
                            have hcn := Lib.hid (catP_no hq hpl)
                            clear hq he e3 hbq
                            go_wp2_with fail
                            go_roundg (m + 1 - j)
                            case measure => omega
                            case rel => exact ⟨j + 1, by omega, by omega, by go_num, by rw [hcn.out]; exact hrow, hl⟩
                        · obtain rfl : m + 1 = j := by omega
                          have hjj : ¬ (((m + 1 : Nat) : Int)) < (m : Int) + 1 := by omega
                          have hds : Hid (dcat (pcs F2) n ++ catP (pcs (F2.take (m + 1))) n = dcat (pcs F2) (n + 1)) := Lib.hid (by rw [dcat_succ, List.take_of_length_le (by rw [hlenF.out]; exact Nat.le_refl _)])
                          go_wp2_with fail
                          go_roundg (p.of - n)
                          case measure => omega
                          case rel => exact ⟨n + 1, by omega, by omega, by go_num, by rw [← hds.out]; exact hrow, hl⟩
                    · obtain rfl : p.of = n := by omega
                      have hnn : ¬ (p.of : Int) < (p.of : Int) := by omega
                      go_wp2_with fail
                      go_ret3
                      exact ⟨_, dcat (pcs F2) p.of, true, 0, goneP (P ++ [((p, .slice aD p.d.length qD) : Pv)]) p.id, by rw [rput_whole hclf.out hthf.out hnf.out (by rw [hofn.out]; exact hopen), ← hLF.out, pcs_gone, pcs_snoc], rfl, row_base hrow.out hWB, (hend.out.box.later hl.out).mono (fun k hk => hk.elim .inl (fun h => .inr ⟨h.1, Nat.lt_of_lt_of_le h.2 hl.out.size⟩)), hend.out.keep.trans (Keep.of_later hl.out)⟩
end Go.Proofs.Ytjelfiljebamgaa
