/-
  Chapter 28: a message's bytes.
-/
import Derived.Test.YtjelfiljebamgaaNdD
namespace Go.Proofs.Ytjelfiljebamgaa
open Go.RowKit Go.Shelf
set_option linter.unusedVariables false
set_option linter.unusedSimpArgs false
attribute [local go_sem] Oper.semAt_some

theorem risen_mem : ∀ {last : Int} {L : List Int}, risen last L = true → ∀ x ∈ L, last < x ∧ x ≤ 63
  | _, [], _, x, hx => by simp at hx
  | last, y :: L, h, x, hx => by
    unfold risen at h
    split at h
    · cases h
    · rename_i hc
      rcases List.mem_cons.1 hx with rfl | hx
      · omega
      · have := risen_mem h x hx; omega
theorem risen_len : ∀ {last : Int} {L : List Int}, risen last L = true → -1 ≤ last → last ≤ 63 → (L.length : Int) ≤ 63 - last
  | _, [], _, _, _ => by simp; omega
  | last, y :: L, h, h1, h2 => by
    unfold risen at h
    split at h
    · cases h
    · rename_i hc
      have := risen_len h (by omega) (by omega)
      rw [List.length_cons]; omega
theorem flat_one (x : Int) : flat [x] = fm x.toNat := by simp [flat]
theorem flat_two (x y : Int) : flat [x, y] = fm x.toNat ++ fm y.toNat := by simp [flat]
theorem flat_le (l : List Int) : (flat l).length ≤ 10 * l.length := by
  induction l with
  | nil => simp [flat]
  | cons y l ih =>
    have h2 : flat (y :: l) = fm y.toNat ++ flat l := by simp [flat]
    have h3 := fm_len y.toNat
    rw [h2, List.length_append, List.length_cons]; omega
theorem flat_byt {l : List Int} (h : ∀ x ∈ l, x < 18446744073709551616) : Byt (flat l) := by
  induction l with
  | nil => intro x hx; simp [flat] at hx
  | cons y l ih =>
    have h2 : flat (y :: l) = fm y.toNat ++ flat l := by simp [flat]
    rw [h2]
    exact (fm_byt (by have := h y (by simp); omega)).append (ih fun x hx => h x (by simp [hx]))
theorem wrM_1 {eN eB : Int} {Ms D : List Int} {fr ro mf mt sf st : Int} : wrM 1 eN eB Ms fr ro mf mt sf st D = fm (1 : Int).toNat ++ (fm eN.toNat ++ (fm eB.toNat ++ (fm Ms.length ++ flat Ms))) := by
  unfold wrM; rw [if_pos rfl]; simp only [List.append_assoc]
theorem wrM_o {k eN eB : Int} {Ms D : List Int} {fr ro mf mt sf st : Int} (h1 : ¬ k = 1) (h4 : ¬ k = 4) (h5 : ¬ k = 5) : wrM k eN eB Ms fr ro mf mt sf st D = fm k.toNat ++ (fm eN.toNat ++ (fm eB.toNat ++ fm fr.toNat)) := by
  unfold wrM; rw [if_neg h1, if_neg h4, if_neg h5]; simp only [List.append_assoc, List.append_nil]
theorem wrM_4 {eN eB : Int} {Ms D : List Int} {fr ro mf mt sf st : Int} : wrM 4 eN eB Ms fr ro mf mt sf st D = fm (4 : Int).toNat ++ (fm eN.toNat ++ (fm eB.toNat ++ (fm fr.toNat ++ (fm ro.toNat ++ (fm mf.toNat ++ (fm mt.toNat ++ (fm sf.toNat ++ (fm st.toNat ++ (fm D.length ++ D))))))))) := by
  unfold wrM; rw [if_neg (by decide), if_pos rfl]; simp only [List.append_assoc]
theorem wrM_5 {eN eB : Int} {Ms D : List Int} {fr ro mf mt sf st : Int} : wrM 5 eN eB Ms fr ro mf mt sf st D = fm (5 : Int).toNat ++ (fm eN.toNat ++ (fm eB.toNat ++ (fm fr.toNat ++ (fm mf.toNat ++ (fm sf.toNat ++ (fm st.toNat ++ (fm D.length ++ D))))))) := by
  unfold wrM; rw [if_neg (by decide), if_neg (by decide), if_pos rfl]; simp only [List.append_assoc]
theorem wrM_ok {k eN eB fr ro mf mt sf st : Int} {Ms D : List Int} (h : MayM k eB fr ro mf mt sf st Ms.length D.length (risen (-1) Ms).toNat) (hN : 0 ≤ eN ∧ eN ≤ 4294967295) (hD : Byt D) : Byt (wrM k eN eB Ms fr ro mf mt sf st D) ∧ (wrM k eN eB Ms fr ro mf mt sf st D).length ≤ 71000 := by
  obtain ⟨hB1, hB2, hF1, hF2, hD1, ha1, ha2, hb1, hb2, hr1, hr2, hs1, hs2, hf1, hf2, hk⟩ := h
  have e1 := fm_len k.toNat
  have e2 := fm_len eN.toNat
  have e3 := fm_len eB.toNat
  have e4 := fm_len fr.toNat
  have e5 := fm_len ro.toNat
  have e6 := fm_len mf.toNat
  have e7 := fm_len mt.toNat
  have e8 := fm_len sf.toNat
  have e9 := fm_len st.toNat
  have e10 := fm_len D.length
  have c1 : ∀ n : Nat, n < 18446744073709551616 → Byt (fm n) := fun n hn => fm_byt hn
  rcases hk with ⟨rfl, hr, _⟩ | ⟨hk, _⟩ | ⟨rfl, _⟩ | ⟨rfl, _⟩
  · have hRt : risen (-1) Ms = true := by
      cases hh : risen (-1) Ms with
      | true => rfl
      | false => rw [hh] at hr; cases hr
    have hmem := risen_mem hRt
    have hlen := risen_len hRt (by omega) (by omega)
    have hfl := flat_le Ms
    have e11 := fm_len Ms.length
    rw [wrM_1]
    exact ⟨(c1 _ (by omega)).append ((c1 _ (by omega)).append ((c1 _ (by omega)).append ((c1 _ (by omega)).append (flat_byt fun x hx => by have := hmem x hx; omega)))), by simp only [List.length_append]; omega⟩
  · rw [wrM_o (by omega) (by omega) (by omega)]
    exact ⟨(c1 _ (by omega)).append ((c1 _ (by omega)).append ((c1 _ (by omega)).append (c1 _ (by omega)))), by simp only [List.length_append]; omega⟩
  · rw [wrM_4]
    exact ⟨(c1 _ (by omega)).append ((c1 _ (by omega)).append ((c1 _ (by omega)).append ((c1 _ (by omega)).append ((c1 _ (by omega)).append ((c1 _ (by omega)).append ((c1 _ (by omega)).append ((c1 _ (by omega)).append ((c1 _ (by omega)).append ((c1 _ (by omega)).append hD))))))))), by simp only [List.length_append]; omega⟩
  · rw [wrM_5]
    exact ⟨(c1 _ (by omega)).append ((c1 _ (by omega)).append ((c1 _ (by omega)).append ((c1 _ (by omega)).append ((c1 _ (by omega)).append ((c1 _ (by omega)).append ((c1 _ (by omega)).append ((c1 _ (by omega)).append hD))))))), by simp only [List.length_append]; omega⟩
section
variable {W w w' : World} {P p q : Nat} {cs : Array Value} {um ud : Value} {Ms D L L' : List Int}
theorem WX.putM (h : WX W P p q cs um ud Ms D L w) (hx : ∀ x ∈ Ms, 0 ≤ x ∧ x ≤ 63) (hL : L.length + 10 * Ms.length ≤ 1000000) :
    Calls Try.prog 70 #[.int .i64 63, um, wp q] w fun e w' => e = .returned (.tuple #[]) ∧ WX W P p q cs um ud Ms D (L ++ flat Ms) w' := by
  obtain ⟨v, hv⟩ := h.wr
  have o1 := h.o1; have o2 := h.o2; have o3 := h.o3
  refine (put_any (p + 1) p q 63 v _ L Ms _ hv h.hb (fun w' hs => cell_of_row w' q 0 _ _ _ (ws_type h.kq (by decide) (by omega) hs)) (fun w' hs => h.vm.stay h.im (fun g hg hl => hs.block g hl (by have hg : g < W.heap.size := hg; omega) (.inl (by have hg : g < W.heap.size := hg; omega)))) hx (by omega) hL).mono ?_
  rintro e w' ⟨rfl, hw, hs⟩
  exact ⟨rfl, h.step hw hs⟩
theorem WX.text (h : WX W P p q cs um ud Ms D L w) (hn : D.length ≤ 70000) (hL : L.length ≤ 900000) :
    Calls Try.prog 45 #[wp p, ud, .int .i64 70000] w fun e w' => e = .returned (.tuple #[]) ∧ WX W P p q cs um ud Ms D (L ++ fm D.length ++ D) w' := by
  obtain ⟨v, hv⟩ := h.wr
  have o1 := h.o1; have o2 := h.o2
  refine (text_any (p + 1) p 70000 v ud L D w hv h.hb h.vd (h.id_.mono (fun g hg => by have hg : g < W.heap.size := hg; omega)) hn (by omega) hL).mono ?_
  rintro e w' ⟨rfl, hw, hs⟩
  exact ⟨rfl, h.step hw hs⟩
theorem WX.bytes (h : WX W P p q cs um ud Ms D L w) (hb : Byt L) (hL : L.length ≤ 1000000) :
    Calls Try.prog 46 #[wp p] w fun e w' => ∃ u, e = .returned (.tuple #[u, .int .i64 0]) ∧ w'.ownsRow W.heap.size 5 1 u L.length (encB L) ∧ Later W w' := by
  obtain ⟨v, hv⟩ := h.wr
  refine (bytes_any (p + 1) p v L w hv hb hL).mono ?_
  rintro e w' ⟨u, rfl, hr, hl⟩
  exact ⟨u, rfl, row_mono hr h.ls.size, h.ls.trans hl⟩
end
set_option maxRecDepth 100000 in
set_option maxHeartbeats 1000000 in
theorem writeM_yes (k eN eB : Int) (um : Value) (fr ro mf mt sf st : Int) (ud : Value) (Ms D : List Int) (W : World) (hm : IntsV W um Ms) (hd : BytV W ud D) (hml : Ms.length ≤ 1000000) (hdl : D.length ≤ 1000000)
    (hN : 0 ≤ eN ∧ eN ≤ 4294967295) (h : MayM k eB fr ro mf mt sf st Ms.length D.length (risen (-1) Ms).toNat) :
    Calls Try.prog 35 #[msV k eN eB um fr ro mf mt sf st ud] W fun e w' => ∃ v, e = .returned (.tuple #[v, .int .i64 0]) ∧ w'.ownsRow W.heap.size 5 1 v (wrM k eN eB Ms fr ro mf mt sf st D).length (encB (wrM k eN eB Ms fr ro mf mt sf st D)) ∧ Later W w' := by
  have hl0 : Later W (W.alloc (.cells (msC k eN eB um fr ro mf mt sf st ud) 88)) := (Later.refl _).alloc _
  have hok := Lib.hid (wrM_ok h hN hd.1)
  have HF := Lib.hid (fineM_any k eN eB um fr ro mf mt sf st ud Ms D _ (hm.later hl0) (hd.later hl0) hml hdl)
  rw [decide_eq_true h] at HF
  obtain ⟨am, cm, hume⟩ := intsV_form hm
  obtain ⟨ad, cd, hude⟩ := bytV_form hd
  obtain ⟨nm, hnm⟩ : ∃ n, Hid (Ms.length = n) := ⟨_, rfl⟩
  obtain ⟨nd, hnd⟩ : ∃ n, Hid (D.length = n) := ⟨_, rfl⟩
  obtain ⟨RR, hRR⟩ : ∃ R, Hid (risen (-1) Ms = R) := ⟨_, rfl⟩
  rw [hnm.out, hnd.out, hRR.out] at h
  rw [hnm.out] at hume hml
  rw [hnd.out] at hude hdl
  obtain ⟨hB1, hB2, hF1, hF2, hD1, ha1, ha2, hb1, hb2, hr1, hr2, hs1, hs2, hf1, hf2, hk⟩ := h
  have hk6 : 1 ≤ k ∧ k ≤ 6 := by omega
  have hall : Hid ((0 ≤ eB ∧ eB ≤ 63) ∧ (0 ≤ fr ∧ fr ≤ 1000) ∧ nd ≤ 70000 ∧ (0 ≤ mf ∧ mf ≤ 63) ∧ (0 ≤ mt ∧ mt ≤ 63) ∧ (0 ≤ ro ∧ ro ≤ 6) ∧ (0 ≤ st ∧ st ≤ 4096) ∧ (0 ≤ sf ∧ sf ≤ 4096) ∧ (1 ≤ k ∧ k ≤ 6) ∧ 0 ≤ eN ∧ eN ≤ 4294967295) := Lib.hid (by omega)
  replace hk := Lib.hid hk
  clear hB1 hB2 hF1 hF2 hD1 ha1 ha2 hb1 hb2 hr1 hr2 hs1 hs2 hf1 hf2 hk6
  have hmW := hm
  have hdW := hd
  clear hm hd
  subst hume hude
  go_enter Try.func35, Try.ntmps35
  go_wp2_with fail
  refine HF.out.mono ?_
  rintro e w1 ⟨rfl, hl1⟩
  have kP1 := (hl1.block W.heap.size (by simp)).trans (heap_alloc_new W (.cells (msC k eN eB (.slice am nm cm) fr ro mf mt sf st (.slice ad nd cd)) 88))
  go_wp2_with fail
  refine (newWriter_any w1).mono ?_
  rintro e w2 ⟨rfl, hw, hs, hl2⟩
  go_upto_region 5 with fail
  obtain ⟨X3, hX3⟩ : ∃ X, X = w2.alloc (.cells #[wp w1.heap.size] 98) := ⟨_, rfl⟩
  have hl3 : Later w2 X3 := by rw [hX3]; exact (Later.refl _).alloc _
  have hPl := (Array.getElem?_eq_some_iff.1 kP1).1
  have hX : WX W W.heap.size w1.heap.size (w1.heap.size + 1) (msC k eN eB (.slice am nm cm) fr ro mf mt sf st (.slice ad nd cd)) (.slice am nm cm) (.slice ad nd cd) Ms D [] X3 :=
    ⟨⟨_, hw.later hl3⟩, ((hl2.trans hl3).block _ hPl).trans kP1, by rw [hX3]; exact push_new w2 _ hs, (hmW.later hl0).later (hl1.trans (hl2.trans hl3)), (hdW.later hl0).later (hl1.trans (hl2.trans hl3)), hmW.lt, hdW.lt, (hl0.trans hl1).trans (hl2.trans hl3), Nat.le_refl _, hPl, rfl, by rw [hX3, ← hs]; simp⟩
  rw [← hX3]
  obtain ⟨P, hP⟩ : ∃ P, Hid (W.heap.size = P) := ⟨_, rfl⟩
  obtain ⟨p, hp⟩ : ∃ p, Hid (w1.heap.size = p) := ⟨_, rfl⟩
  obtain ⟨q, hq⟩ : ∃ q, Hid (p + 1 = q) := ⟨_, rfl⟩
  simp only [hP.out, hp.out, hq.out] at hX ⊢
  clear hX3 hl3 hPl hw hs hl2 kP1 hl1 HF hl0 hmW hdW
  have m0 : X3.cell? ⟨P, 0, none⟩ = some _ := hX.cell 0
  have m1 : X3.cell? ⟨P, 1, none⟩ = some _ := hX.cell 1
  have m2 : X3.cell? ⟨P, 2, none⟩ = some _ := hX.cell 2
  have m3 : X3.cell? ⟨P, 3, none⟩ = some _ := hX.cell 3
  have m4 : X3.cell? ⟨P, 4, none⟩ = some _ := hX.cell 4
  have m5 : X3.cell? ⟨P, 5, none⟩ = some _ := hX.cell 5
  have m6 : X3.cell? ⟨P, 6, none⟩ = some _ := hX.cell 6
  have m7 : X3.cell? ⟨P, 7, none⟩ = some _ := hX.cell 7
  have m8 : X3.cell? ⟨P, 8, none⟩ = some _ := hX.cell 8
  have m9 : X3.cell? ⟨P, 9, none⟩ = some _ := hX.cell 9
  have m10 : X3.cell? ⟨P, 10, none⟩ = some _ := hX.cell 10
  have mq : X3.cell? ⟨q, 0, none⟩ = some (wp p) := hX.cellq
  have e1 := fm_len k.toNat
  have e2 := fm_len eN.toNat
  have e3 := fm_len eB.toNat
  go_wp2_with fail
  refine (hX.put (m := 6) (xs := [k]) (by intro y hy; rw [List.mem_singleton] at hy; have hh := hall.out; omega) (by omega) (by simp only [List.length_append, List.length_nil, List.length_cons] at *; omega) _ rfl _ _ rfl rfl).mono ?_
  rintro e X32 ⟨rfl, hX⟩
  rw [flat_one] at hX
  clear m0 m1 m2 m3 m4 m5 m6 m7 m8 m9 m10 mq
  have m0 : X32.cell? ⟨P, 0, none⟩ = some _ := hX.cell 0
  have m1 : X32.cell? ⟨P, 1, none⟩ = some _ := hX.cell 1
  have m2 : X32.cell? ⟨P, 2, none⟩ = some _ := hX.cell 2
  have m3 : X32.cell? ⟨P, 3, none⟩ = some _ := hX.cell 3
  have m4 : X32.cell? ⟨P, 4, none⟩ = some _ := hX.cell 4
  have m5 : X32.cell? ⟨P, 5, none⟩ = some _ := hX.cell 5
  have m6 : X32.cell? ⟨P, 6, none⟩ = some _ := hX.cell 6
  have m7 : X32.cell? ⟨P, 7, none⟩ = some _ := hX.cell 7
  have m8 : X32.cell? ⟨P, 8, none⟩ = some _ := hX.cell 8
  have m9 : X32.cell? ⟨P, 9, none⟩ = some _ := hX.cell 9
  have m10 : X32.cell? ⟨P, 10, none⟩ = some _ := hX.cell 10
  have mq : X32.cell? ⟨q, 0, none⟩ = some (wp p) := hX.cellq
  have hN1 := hall.out.2.2.2.2.2.2.2.2.2.1
  have hN2 := hall.out.2.2.2.2.2.2.2.2.2.2
  go_wp2_with fail
  refine (hX.put (m := 4294967295) (xs := [eN]) (by intro y hy; rw [List.mem_singleton] at hy; have hh := hall.out; omega) (by omega) (by simp only [List.length_append, List.length_nil, List.length_cons] at *; omega) _ rfl _ _ rfl rfl).mono ?_
  rintro e w32 ⟨rfl, hX⟩
  rw [flat_one] at hX
  clear m0 m1 m2 m3 m4 m5 m6 m7 m8 m9 m10 mq
  have m0 : w32.cell? ⟨P, 0, none⟩ = some _ := hX.cell 0
  have m1 : w32.cell? ⟨P, 1, none⟩ = some _ := hX.cell 1
  have m2 : w32.cell? ⟨P, 2, none⟩ = some _ := hX.cell 2
  have m3 : w32.cell? ⟨P, 3, none⟩ = some _ := hX.cell 3
  have m4 : w32.cell? ⟨P, 4, none⟩ = some _ := hX.cell 4
  have m5 : w32.cell? ⟨P, 5, none⟩ = some _ := hX.cell 5
  have m6 : w32.cell? ⟨P, 6, none⟩ = some _ := hX.cell 6
  have m7 : w32.cell? ⟨P, 7, none⟩ = some _ := hX.cell 7
  have m8 : w32.cell? ⟨P, 8, none⟩ = some _ := hX.cell 8
  have m9 : w32.cell? ⟨P, 9, none⟩ = some _ := hX.cell 9
  have m10 : w32.cell? ⟨P, 10, none⟩ = some _ := hX.cell 10
  have mq : w32.cell? ⟨q, 0, none⟩ = some (wp p) := hX.cellq
  go_wp2_with fail
  refine (hX.put (m := 63) (xs := [eB]) (by intro y hy; rw [List.mem_singleton] at hy; have hh := hall.out; omega) (by omega) (by simp only [List.length_append, List.length_nil, List.length_cons] at *; omega) _ rfl _ _ rfl rfl).mono ?_
  rintro e w42 ⟨rfl, hX⟩
  rw [flat_one] at hX
  clear m0 m1 m2 m3 m4 m5 m6 m7 m8 m9 m10 mq
  have m0 : w42.cell? ⟨P, 0, none⟩ = some _ := hX.cell 0
  have m1 : w42.cell? ⟨P, 1, none⟩ = some _ := hX.cell 1
  have m2 : w42.cell? ⟨P, 2, none⟩ = some _ := hX.cell 2
  have m3 : w42.cell? ⟨P, 3, none⟩ = some _ := hX.cell 3
  have m4 : w42.cell? ⟨P, 4, none⟩ = some _ := hX.cell 4
  have m5 : w42.cell? ⟨P, 5, none⟩ = some _ := hX.cell 5
  have m6 : w42.cell? ⟨P, 6, none⟩ = some _ := hX.cell 6
  have m7 : w42.cell? ⟨P, 7, none⟩ = some _ := hX.cell 7
  have m8 : w42.cell? ⟨P, 8, none⟩ = some _ := hX.cell 8
  have m9 : w42.cell? ⟨P, 9, none⟩ = some _ := hX.cell 9
  have m10 : w42.cell? ⟨P, 10, none⟩ = some _ := hX.cell 10
  have mq : w42.cell? ⟨q, 0, none⟩ = some (wp p) := hX.cellq
  clear hN1 hN2
  rcases hk.out with ⟨rfl, hr1, rfl, h0, rfl, rfl, rfl, rfl, rfl⟩ | ⟨h236, hm0, h0, rfl, rfl, rfl, rfl, rfl⟩ | ⟨rfl, hm0⟩ | ⟨rfl, hm0, rfl, rfl⟩
  · have hRt : risen (-1) Ms = true := by
      rw [hRR.out]; cases RR with
      | true => rfl
      | false => cases hr1
    have hmem := Lib.hid (risen_mem hRt)
    have hlen := risen_len hRt (by omega) (by omega)
    rw [hnm.out] at hlen
    clear hRt hr1 hk
    have hfl := flat_le Ms
    rw [hnm.out] at hfl
    as_aux_lemma =>
      go_wp2_with fail
      refine (hX.put (m := 64) (xs := [(nm : Int)]) (by intro y hy; rw [List.mem_singleton] at hy; have hh := hall.out; omega) (by omega) (by simp only [List.length_append, List.length_nil, List.length_cons] at *; omega) _ rfl _ _ rfl rfl).mono ?_
      rintro e w422 ⟨rfl, hX⟩
      rw [flat_one] at hX
      clear m0 m1 m2 m3 m4 m5 m6 m7 m8 m9 m10 mq
      have m0 : w422.cell? ⟨P, 0, none⟩ = some _ := hX.cell 0
      have m1 : w422.cell? ⟨P, 1, none⟩ = some _ := hX.cell 1
      have m2 : w422.cell? ⟨P, 2, none⟩ = some _ := hX.cell 2
      have m3 : w422.cell? ⟨P, 3, none⟩ = some _ := hX.cell 3
      have m4 : w422.cell? ⟨P, 4, none⟩ = some _ := hX.cell 4
      have m5 : w422.cell? ⟨P, 5, none⟩ = some _ := hX.cell 5
      have m6 : w422.cell? ⟨P, 6, none⟩ = some _ := hX.cell 6
      have m7 : w422.cell? ⟨P, 7, none⟩ = some _ := hX.cell 7
      have m8 : w422.cell? ⟨P, 8, none⟩ = some _ := hX.cell 8
      have m9 : w422.cell? ⟨P, 9, none⟩ = some _ := hX.cell 9
      have m10 : w422.cell? ⟨P, 10, none⟩ = some _ := hX.cell 10
      have mq : w422.cell? ⟨q, 0, none⟩ = some (wp p) := hX.cellq
      go_wp2_with fail
      refine (hX.putM (fun x hx => by have := hmem.out x hx; omega) (by have e4 := fm_len (nm : Int).toNat; have := hnm.out; simp only [List.length_append, List.length_nil, List.length_cons] at *; omega)).mono ?_
      rintro e w7 ⟨rfl, hX⟩
      clear m0 m1 m2 m3 m4 m5 m6 m7 m8 m9 m10 mq
      have m0 : w7.cell? ⟨P, 0, none⟩ = some _ := hX.cell 0
      have m1 : w7.cell? ⟨P, 1, none⟩ = some _ := hX.cell 1
      have m2 : w7.cell? ⟨P, 2, none⟩ = some _ := hX.cell 2
      have m3 : w7.cell? ⟨P, 3, none⟩ = some _ := hX.cell 3
      have m4 : w7.cell? ⟨P, 4, none⟩ = some _ := hX.cell 4
      have m5 : w7.cell? ⟨P, 5, none⟩ = some _ := hX.cell 5
      have m6 : w7.cell? ⟨P, 6, none⟩ = some _ := hX.cell 6
      have m7 : w7.cell? ⟨P, 7, none⟩ = some _ := hX.cell 7
      have m8 : w7.cell? ⟨P, 8, none⟩ = some _ := hX.cell 8
      have m9 : w7.cell? ⟨P, 9, none⟩ = some _ := hX.cell 9
      have m10 : w7.cell? ⟨P, 10, none⟩ = some _ := hX.cell 10
      have mq : w7.cell? ⟨q, 0, none⟩ = some (wp p) := hX.cellq
      rw [show ((nm : Int)).toNat = Ms.length from by rw [hnm.out]; exact Int.toNat_natCast _] at hX
      simp only [List.nil_append, List.append_assoc] at hX
      rw [← wrM_1 (D := D) (fr := 0) (ro := 0) (mf := 0) (mt := 0) (sf := 0) (st := 0)] at hX
      go_wp2_with fail
      refine (hX.bytes hok.out.1 (Nat.le_trans hok.out.2 (by omega))).mono ?_
      rintro e w20 ⟨u, rfl, hr, hl⟩
      go_wp2_with fail
      go_ret2
      exact ⟨u, rfl, hr, hl⟩
  · have hk1 : ¬ k = 1 := by omega
    have hk4 : ¬ k = 4 := by omega
    have hk5 : ¬ k = 5 := by omega
    clear hk
    as_aux_lemma =>
      rcases h236 with rfl | rfl | rfl
      · skip
        go_wp2_with fail
        refine (hX.put (m := 1000) (xs := [fr]) (by intro y hy; rw [List.mem_singleton] at hy; have hh := hall.out; omega) (by omega) (by simp only [List.length_append, List.length_nil, List.length_cons] at *; omega) _ rfl _ _ rfl rfl).mono ?_
        rintro e w422 ⟨rfl, hX⟩
        rw [flat_one] at hX
        clear m0 m1 m2 m3 m4 m5 m6 m7 m8 m9 m10 mq
        have m0 : w422.cell? ⟨P, 0, none⟩ = some _ := hX.cell 0
        have m1 : w422.cell? ⟨P, 1, none⟩ = some _ := hX.cell 1
        have m2 : w422.cell? ⟨P, 2, none⟩ = some _ := hX.cell 2
        have m3 : w422.cell? ⟨P, 3, none⟩ = some _ := hX.cell 3
        have m4 : w422.cell? ⟨P, 4, none⟩ = some _ := hX.cell 4
        have m5 : w422.cell? ⟨P, 5, none⟩ = some _ := hX.cell 5
        have m6 : w422.cell? ⟨P, 6, none⟩ = some _ := hX.cell 6
        have m7 : w422.cell? ⟨P, 7, none⟩ = some _ := hX.cell 7
        have m8 : w422.cell? ⟨P, 8, none⟩ = some _ := hX.cell 8
        have m9 : w422.cell? ⟨P, 9, none⟩ = some _ := hX.cell 9
        have m10 : w422.cell? ⟨P, 10, none⟩ = some _ := hX.cell 10
        have mq : w422.cell? ⟨q, 0, none⟩ = some (wp p) := hX.cellq
        simp only [List.nil_append, List.append_assoc] at hX
        rw [← wrM_o (Ms := Ms) (D := D) (ro := 0) (mf := 0) (mt := 0) (sf := 0) (st := 0) hk1 hk4 hk5] at hX
        go_wp2_with fail
        refine (hX.bytes hok.out.1 (Nat.le_trans hok.out.2 (by omega))).mono ?_
        rintro e w20 ⟨u, rfl, hr, hl⟩
        go_wp2_with fail
        go_ret2
        exact ⟨u, rfl, hr, hl⟩
      · skip
        go_wp2_with fail
        refine (hX.put (m := 1000) (xs := [fr]) (by intro y hy; rw [List.mem_singleton] at hy; have hh := hall.out; omega) (by omega) (by simp only [List.length_append, List.length_nil, List.length_cons] at *; omega) _ rfl _ _ rfl rfl).mono ?_
        rintro e w422 ⟨rfl, hX⟩
        rw [flat_one] at hX
        clear m0 m1 m2 m3 m4 m5 m6 m7 m8 m9 m10 mq
        have m0 : w422.cell? ⟨P, 0, none⟩ = some _ := hX.cell 0
        have m1 : w422.cell? ⟨P, 1, none⟩ = some _ := hX.cell 1
        have m2 : w422.cell? ⟨P, 2, none⟩ = some _ := hX.cell 2
        have m3 : w422.cell? ⟨P, 3, none⟩ = some _ := hX.cell 3
        have m4 : w422.cell? ⟨P, 4, none⟩ = some _ := hX.cell 4
        have m5 : w422.cell? ⟨P, 5, none⟩ = some _ := hX.cell 5
        have m6 : w422.cell? ⟨P, 6, none⟩ = some _ := hX.cell 6
        have m7 : w422.cell? ⟨P, 7, none⟩ = some _ := hX.cell 7
        have m8 : w422.cell? ⟨P, 8, none⟩ = some _ := hX.cell 8
        have m9 : w422.cell? ⟨P, 9, none⟩ = some _ := hX.cell 9
        have m10 : w422.cell? ⟨P, 10, none⟩ = some _ := hX.cell 10
        have mq : w422.cell? ⟨q, 0, none⟩ = some (wp p) := hX.cellq
        simp only [List.nil_append, List.append_assoc] at hX
        rw [← wrM_o (Ms := Ms) (D := D) (ro := 0) (mf := 0) (mt := 0) (sf := 0) (st := 0) hk1 hk4 hk5] at hX
        go_wp2_with fail
        refine (hX.bytes hok.out.1 (Nat.le_trans hok.out.2 (by omega))).mono ?_
        rintro e w20 ⟨u, rfl, hr, hl⟩
        go_wp2_with fail
        go_ret2
        exact ⟨u, rfl, hr, hl⟩
      · skip
        go_wp2_with fail
        refine (hX.put (m := 1000) (xs := [fr]) (by intro y hy; rw [List.mem_singleton] at hy; have hh := hall.out; omega) (by omega) (by simp only [List.length_append, List.length_nil, List.length_cons] at *; omega) _ rfl _ _ rfl rfl).mono ?_
        rintro e w422 ⟨rfl, hX⟩
        rw [flat_one] at hX
        clear m0 m1 m2 m3 m4 m5 m6 m7 m8 m9 m10 mq
        have m0 : w422.cell? ⟨P, 0, none⟩ = some _ := hX.cell 0
        have m1 : w422.cell? ⟨P, 1, none⟩ = some _ := hX.cell 1
        have m2 : w422.cell? ⟨P, 2, none⟩ = some _ := hX.cell 2
        have m3 : w422.cell? ⟨P, 3, none⟩ = some _ := hX.cell 3
        have m4 : w422.cell? ⟨P, 4, none⟩ = some _ := hX.cell 4
        have m5 : w422.cell? ⟨P, 5, none⟩ = some _ := hX.cell 5
        have m6 : w422.cell? ⟨P, 6, none⟩ = some _ := hX.cell 6
        have m7 : w422.cell? ⟨P, 7, none⟩ = some _ := hX.cell 7
        have m8 : w422.cell? ⟨P, 8, none⟩ = some _ := hX.cell 8
        have m9 : w422.cell? ⟨P, 9, none⟩ = some _ := hX.cell 9
        have m10 : w422.cell? ⟨P, 10, none⟩ = some _ := hX.cell 10
        have mq : w422.cell? ⟨q, 0, none⟩ = some (wp p) := hX.cellq
        simp only [List.nil_append, List.append_assoc] at hX
        rw [← wrM_o (Ms := Ms) (D := D) (ro := 0) (mf := 0) (mt := 0) (sf := 0) (st := 0) hk1 hk4 hk5] at hX
        go_wp2_with fail
        refine (hX.bytes hok.out.1 (Nat.le_trans hok.out.2 (by omega))).mono ?_
        rintro e w20 ⟨u, rfl, hr, hl⟩
        go_wp2_with fail
        go_ret2
        exact ⟨u, rfl, hr, hl⟩
  · clear hk
    have e4 := fm_len fr.toNat
    have e5 := fm_len ro.toNat
    have e6 := fm_len mf.toNat
    have e7 := fm_len mt.toNat
    have e8 := fm_len sf.toNat
    have e9 := fm_len st.toNat
    as_aux_lemma =>
      go_wp2_with fail
      refine (hX.put (m := 1000) (xs := [fr]) (by intro y hy; rw [List.mem_singleton] at hy; have hh := hall.out; omega) (by omega) (by simp only [List.length_append, List.length_nil, List.length_cons] at *; omega) _ rfl _ _ rfl rfl).mono ?_
      rintro e w422 ⟨rfl, hX⟩
      rw [flat_one] at hX
      clear m0 m1 m2 m3 m4 m5 m6 m7 m8 m9 m10 mq
      have m0 : w422.cell? ⟨P, 0, none⟩ = some _ := hX.cell 0
      have m1 : w422.cell? ⟨P, 1, none⟩ = some _ := hX.cell 1
      have m2 : w422.cell? ⟨P, 2, none⟩ = some _ := hX.cell 2
      have m3 : w422.cell? ⟨P, 3, none⟩ = some _ := hX.cell 3
      have m4 : w422.cell? ⟨P, 4, none⟩ = some _ := hX.cell 4
      have m5 : w422.cell? ⟨P, 5, none⟩ = some _ := hX.cell 5
      have m6 : w422.cell? ⟨P, 6, none⟩ = some _ := hX.cell 6
      have m7 : w422.cell? ⟨P, 7, none⟩ = some _ := hX.cell 7
      have m8 : w422.cell? ⟨P, 8, none⟩ = some _ := hX.cell 8
      have m9 : w422.cell? ⟨P, 9, none⟩ = some _ := hX.cell 9
      have m10 : w422.cell? ⟨P, 10, none⟩ = some _ := hX.cell 10
      have mq : w422.cell? ⟨q, 0, none⟩ = some (wp p) := hX.cellq
      go_wp2_with fail
      refine (hX.put (m := 6) (xs := [ro]) (by intro y hy; rw [List.mem_singleton] at hy; have hh := hall.out; omega) (by omega) (by simp only [List.length_append, List.length_nil, List.length_cons] at *; omega) _ rfl _ _ rfl rfl).mono ?_
      rintro e w622 ⟨rfl, hX⟩
      rw [flat_one] at hX
      clear m0 m1 m2 m3 m4 m5 m6 m7 m8 m9 m10 mq
      have m0 : w622.cell? ⟨P, 0, none⟩ = some _ := hX.cell 0
      have m1 : w622.cell? ⟨P, 1, none⟩ = some _ := hX.cell 1
      have m2 : w622.cell? ⟨P, 2, none⟩ = some _ := hX.cell 2
      have m3 : w622.cell? ⟨P, 3, none⟩ = some _ := hX.cell 3
      have m4 : w622.cell? ⟨P, 4, none⟩ = some _ := hX.cell 4
      have m5 : w622.cell? ⟨P, 5, none⟩ = some _ := hX.cell 5
      have m6 : w622.cell? ⟨P, 6, none⟩ = some _ := hX.cell 6
      have m7 : w622.cell? ⟨P, 7, none⟩ = some _ := hX.cell 7
      have m8 : w622.cell? ⟨P, 8, none⟩ = some _ := hX.cell 8
      have m9 : w622.cell? ⟨P, 9, none⟩ = some _ := hX.cell 9
      have m10 : w622.cell? ⟨P, 10, none⟩ = some _ := hX.cell 10
      have mq : w622.cell? ⟨q, 0, none⟩ = some (wp p) := hX.cellq
      go_wp2_with fail
      refine (hX.put (m := 63) (xs := [mf, mt]) (by intro y hy; rw [List.mem_cons, List.mem_singleton] at hy; have hh := hall.out; omega) (by omega) (by simp only [List.length_append, List.length_nil, List.length_cons] at *; omega) _ rfl _ _ rfl rfl).mono ?_
      rintro e w8 ⟨rfl, hX⟩
      rw [flat_two] at hX
      clear m0 m1 m2 m3 m4 m5 m6 m7 m8 m9 m10 mq
      have m0 : w8.cell? ⟨P, 0, none⟩ = some _ := hX.cell 0
      have m1 : w8.cell? ⟨P, 1, none⟩ = some _ := hX.cell 1
      have m2 : w8.cell? ⟨P, 2, none⟩ = some _ := hX.cell 2
      have m3 : w8.cell? ⟨P, 3, none⟩ = some _ := hX.cell 3
      have m4 : w8.cell? ⟨P, 4, none⟩ = some _ := hX.cell 4
      have m5 : w8.cell? ⟨P, 5, none⟩ = some _ := hX.cell 5
      have m6 : w8.cell? ⟨P, 6, none⟩ = some _ := hX.cell 6
      have m7 : w8.cell? ⟨P, 7, none⟩ = some _ := hX.cell 7
      have m8 : w8.cell? ⟨P, 8, none⟩ = some _ := hX.cell 8
      have m9 : w8.cell? ⟨P, 9, none⟩ = some _ := hX.cell 9
      have m10 : w8.cell? ⟨P, 10, none⟩ = some _ := hX.cell 10
      have mq : w8.cell? ⟨q, 0, none⟩ = some (wp p) := hX.cellq
      go_wp2_with fail
      refine (hX.put (m := 4096) (xs := [sf, st]) (by intro y hy; rw [List.mem_cons, List.mem_singleton] at hy; have hh := hall.out; omega) (by omega) (by simp only [List.length_append, List.length_nil, List.length_cons] at *; omega) _ rfl _ _ rfl rfl).mono ?_
      rintro e w9 ⟨rfl, hX⟩
      rw [flat_two] at hX
      clear m0 m1 m2 m3 m4 m5 m6 m7 m8 m9 m10 mq
      have m0 : w9.cell? ⟨P, 0, none⟩ = some _ := hX.cell 0
      have m1 : w9.cell? ⟨P, 1, none⟩ = some _ := hX.cell 1
      have m2 : w9.cell? ⟨P, 2, none⟩ = some _ := hX.cell 2
      have m3 : w9.cell? ⟨P, 3, none⟩ = some _ := hX.cell 3
      have m4 : w9.cell? ⟨P, 4, none⟩ = some _ := hX.cell 4
      have m5 : w9.cell? ⟨P, 5, none⟩ = some _ := hX.cell 5
      have m6 : w9.cell? ⟨P, 6, none⟩ = some _ := hX.cell 6
      have m7 : w9.cell? ⟨P, 7, none⟩ = some _ := hX.cell 7
      have m8 : w9.cell? ⟨P, 8, none⟩ = some _ := hX.cell 8
      have m9 : w9.cell? ⟨P, 9, none⟩ = some _ := hX.cell 9
      have m10 : w9.cell? ⟨P, 10, none⟩ = some _ := hX.cell 10
      have mq : w9.cell? ⟨q, 0, none⟩ = some (wp p) := hX.cellq
      go_wp2_with fail
      refine (hX.text (by rw [hnd.out]; exact hall.out.2.2.1) (by simp only [List.length_append, List.length_nil, List.length_cons] at *; omega)).mono ?_
      rintro e w10 ⟨rfl, hX⟩
      clear m0 m1 m2 m3 m4 m5 m6 m7 m8 m9 m10 mq
      have m0 : w10.cell? ⟨P, 0, none⟩ = some _ := hX.cell 0
      have m1 : w10.cell? ⟨P, 1, none⟩ = some _ := hX.cell 1
      have m2 : w10.cell? ⟨P, 2, none⟩ = some _ := hX.cell 2
      have m3 : w10.cell? ⟨P, 3, none⟩ = some _ := hX.cell 3
      have m4 : w10.cell? ⟨P, 4, none⟩ = some _ := hX.cell 4
      have m5 : w10.cell? ⟨P, 5, none⟩ = some _ := hX.cell 5
      have m6 : w10.cell? ⟨P, 6, none⟩ = some _ := hX.cell 6
      have m7 : w10.cell? ⟨P, 7, none⟩ = some _ := hX.cell 7
      have m8 : w10.cell? ⟨P, 8, none⟩ = some _ := hX.cell 8
      have m9 : w10.cell? ⟨P, 9, none⟩ = some _ := hX.cell 9
      have m10 : w10.cell? ⟨P, 10, none⟩ = some _ := hX.cell 10
      have mq : w10.cell? ⟨q, 0, none⟩ = some (wp p) := hX.cellq
      simp only [List.nil_append, List.append_assoc] at hX
      rw [← wrM_4 (Ms := Ms)] at hX
      go_wp2_with fail
      refine (hX.bytes hok.out.1 (Nat.le_trans hok.out.2 (by omega))).mono ?_
      rintro e w20 ⟨u, rfl, hr, hl⟩
      go_wp2_with fail
      go_ret2
      exact ⟨u, rfl, hr, hl⟩
  · clear hk
    have e4 := fm_len fr.toNat
    have e6 := fm_len mf.toNat
    have e8 := fm_len sf.toNat
    have e9 := fm_len st.toNat
    as_aux_lemma =>
      go_wp2_with fail
      refine (hX.put (m := 1000) (xs := [fr]) (by intro y hy; rw [List.mem_singleton] at hy; have hh := hall.out; omega) (by omega) (by simp only [List.length_append, List.length_nil, List.length_cons] at *; omega) _ rfl _ _ rfl rfl).mono ?_
      rintro e w422 ⟨rfl, hX⟩
      rw [flat_one] at hX
      clear m0 m1 m2 m3 m4 m5 m6 m7 m8 m9 m10 mq
      have m0 : w422.cell? ⟨P, 0, none⟩ = some _ := hX.cell 0
      have m1 : w422.cell? ⟨P, 1, none⟩ = some _ := hX.cell 1
      have m2 : w422.cell? ⟨P, 2, none⟩ = some _ := hX.cell 2
      have m3 : w422.cell? ⟨P, 3, none⟩ = some _ := hX.cell 3
      have m4 : w422.cell? ⟨P, 4, none⟩ = some _ := hX.cell 4
      have m5 : w422.cell? ⟨P, 5, none⟩ = some _ := hX.cell 5
      have m6 : w422.cell? ⟨P, 6, none⟩ = some _ := hX.cell 6
      have m7 : w422.cell? ⟨P, 7, none⟩ = some _ := hX.cell 7
      have m8 : w422.cell? ⟨P, 8, none⟩ = some _ := hX.cell 8
      have m9 : w422.cell? ⟨P, 9, none⟩ = some _ := hX.cell 9
      have m10 : w422.cell? ⟨P, 10, none⟩ = some _ := hX.cell 10
      have mq : w422.cell? ⟨q, 0, none⟩ = some (wp p) := hX.cellq
      go_wp2_with fail
      refine (hX.put (m := 63) (xs := [mf]) (by intro y hy; rw [List.mem_singleton] at hy; have hh := hall.out; omega) (by omega) (by simp only [List.length_append, List.length_nil, List.length_cons] at *; omega) _ rfl _ _ rfl rfl).mono ?_
      rintro e w622 ⟨rfl, hX⟩
      rw [flat_one] at hX
      clear m0 m1 m2 m3 m4 m5 m6 m7 m8 m9 m10 mq
      have m0 : w622.cell? ⟨P, 0, none⟩ = some _ := hX.cell 0
      have m1 : w622.cell? ⟨P, 1, none⟩ = some _ := hX.cell 1
      have m2 : w622.cell? ⟨P, 2, none⟩ = some _ := hX.cell 2
      have m3 : w622.cell? ⟨P, 3, none⟩ = some _ := hX.cell 3
      have m4 : w622.cell? ⟨P, 4, none⟩ = some _ := hX.cell 4
      have m5 : w622.cell? ⟨P, 5, none⟩ = some _ := hX.cell 5
      have m6 : w622.cell? ⟨P, 6, none⟩ = some _ := hX.cell 6
      have m7 : w622.cell? ⟨P, 7, none⟩ = some _ := hX.cell 7
      have m8 : w622.cell? ⟨P, 8, none⟩ = some _ := hX.cell 8
      have m9 : w622.cell? ⟨P, 9, none⟩ = some _ := hX.cell 9
      have m10 : w622.cell? ⟨P, 10, none⟩ = some _ := hX.cell 10
      have mq : w622.cell? ⟨q, 0, none⟩ = some (wp p) := hX.cellq
      go_wp2_with fail
      refine (hX.put (m := 4096) (xs := [sf, st]) (by intro y hy; rw [List.mem_cons, List.mem_singleton] at hy; have hh := hall.out; omega) (by omega) (by simp only [List.length_append, List.length_nil, List.length_cons] at *; omega) _ rfl _ _ rfl rfl).mono ?_
      rintro e w8 ⟨rfl, hX⟩
      rw [flat_two] at hX
      clear m0 m1 m2 m3 m4 m5 m6 m7 m8 m9 m10 mq
      have m0 : w8.cell? ⟨P, 0, none⟩ = some _ := hX.cell 0
      have m1 : w8.cell? ⟨P, 1, none⟩ = some _ := hX.cell 1
      have m2 : w8.cell? ⟨P, 2, none⟩ = some _ := hX.cell 2
      have m3 : w8.cell? ⟨P, 3, none⟩ = some _ := hX.cell 3
      have m4 : w8.cell? ⟨P, 4, none⟩ = some _ := hX.cell 4
      have m5 : w8.cell? ⟨P, 5, none⟩ = some _ := hX.cell 5
      have m6 : w8.cell? ⟨P, 6, none⟩ = some _ := hX.cell 6
      have m7 : w8.cell? ⟨P, 7, none⟩ = some _ := hX.cell 7
      have m8 : w8.cell? ⟨P, 8, none⟩ = some _ := hX.cell 8
      have m9 : w8.cell? ⟨P, 9, none⟩ = some _ := hX.cell 9
      have m10 : w8.cell? ⟨P, 10, none⟩ = some _ := hX.cell 10
      have mq : w8.cell? ⟨q, 0, none⟩ = some (wp p) := hX.cellq
      go_wp2_with fail
      refine (hX.text (by rw [hnd.out]; exact hall.out.2.2.1) (by simp only [List.length_append, List.length_nil, List.length_cons] at *; omega)).mono ?_
      rintro e w10 ⟨rfl, hX⟩
      clear m0 m1 m2 m3 m4 m5 m6 m7 m8 m9 m10 mq
      have m0 : w10.cell? ⟨P, 0, none⟩ = some _ := hX.cell 0
      have m1 : w10.cell? ⟨P, 1, none⟩ = some _ := hX.cell 1
      have m2 : w10.cell? ⟨P, 2, none⟩ = some _ := hX.cell 2
      have m3 : w10.cell? ⟨P, 3, none⟩ = some _ := hX.cell 3
      have m4 : w10.cell? ⟨P, 4, none⟩ = some _ := hX.cell 4
      have m5 : w10.cell? ⟨P, 5, none⟩ = some _ := hX.cell 5
      have m6 : w10.cell? ⟨P, 6, none⟩ = some _ := hX.cell 6
      have m7 : w10.cell? ⟨P, 7, none⟩ = some _ := hX.cell 7
      have m8 : w10.cell? ⟨P, 8, none⟩ = some _ := hX.cell 8
      have m9 : w10.cell? ⟨P, 9, none⟩ = some _ := hX.cell 9
      have m10 : w10.cell? ⟨P, 10, none⟩ = some _ := hX.cell 10
      have mq : w10.cell? ⟨q, 0, none⟩ = some (wp p) := hX.cellq
      simp only [List.nil_append, List.append_assoc] at hX
      rw [← wrM_5 (Ms := Ms) (ro := 0) (mt := 0)] at hX
      go_wp2_with fail
      refine (hX.bytes hok.out.1 (Nat.le_trans hok.out.2 (by omega))).mono ?_
      rintro e w20 ⟨u, rfl, hr, hl⟩
      go_wp2_with fail
      go_ret2
      exact ⟨u, rfl, hr, hl⟩
end Go.Proofs.Ytjelfiljebamgaa
