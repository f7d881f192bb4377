/-
  Chapter 23's laws: so many ticks; the chapter's first examples.
-/
import Derived.Test.YtaaohfocegnlkaaBtD
import Derived.Test.YtaaohfocegnlkaaBtG
import Derived.Test.YtaaohfocegnlkaaBtH
namespace Go.Proofs.Ytaaohfocegnlkaa
open Go.RowKit Go.Shelf
set_option linter.unusedVariables false
set_option linter.unusedSimpArgs false
attribute [local go_sem] Oper.semAt_some

def tkN : Nat → (Nat → Int) → Nat → Int
  | 0, g => g
  | n + 1, g => tkN n (tk g)
theorem tkN_succ (n : Nat) (g : Nat → Int) : tkN (n + 1) g = tk (tkN n g) := by
  induction n generalizing g with
  | zero => rfl
  | succ n ih => exact ih (tk g)
theorem tkN_1 (n : Nat) (g : Nat → Int) : tkN n g 1 = g 1 := by
  induction n generalizing g with
  | zero => rfl
  | succ n ih => exact ih (tk g)
theorem tkN_3 (n : Nat) (g : Nat → Int) : tkN n g 3 = g 3 + n := by
  induction n generalizing g with
  | zero => simp [tkN]
  | succ n ih => 
    refine (ih (tk g)).trans ?_
    show g 3 + 1 + n = _
    omega

/-- Who is alive, rising. -/
def alvL (g : Nat → Int) : List Int := ((List.range (g 1).toNat).filter (fun k : Nat => decide ((k : Int) = g 0) || decide (qt g k < g 2))).map (fun k : Nat => (k : Int))
theorem ol_lt (g : Nat → Int) : ∀ N, (ol g N).Pairwise (fun p q => p.1 < q.1)
  | 0 => List.Pairwise.nil
  | N + 1 => by
    unfold ol
    rw [List.pairwise_append]
    refine ⟨ol_lt g N, ?_, ?_⟩
    · split
      · exact List.Pairwise.nil
      · exact List.pairwise_singleton _ _
    · intro p hp q hq
      obtain ⟨k, hk, _, rfl⟩ := (mem_ol g p N).1 hp
      split at hq
      · cases hq
      · rw [List.mem_singleton] at hq; subst hq; show (k : Int) < (N : Int); omega
theorem mem_sel (P : Int → Bool) (g : Nat → Int) (N : Nat) (x : Int) : x ∈ selP P (ol g N) ↔ ∃ k : Nat, k < N ∧ (k : Int) ≠ g 0 ∧ P (qt g k) = true ∧ x = k := by
  unfold selP
  rw [List.mem_map]
  constructor
  · rintro ⟨y, hy, rfl⟩
    rw [List.mem_filter] at hy
    obtain ⟨k, h1, h2, rfl⟩ := (mem_ol g y N).1 hy.1
    exact ⟨k, h1, h2, hy.2, rfl⟩
  · rintro ⟨k, h1, h2, h3, rfl⟩
    exact ⟨((k : Int), qt g k), List.mem_filter.2 ⟨(mem_ol g _ N).2 ⟨k, h1, h2, rfl⟩, h3⟩, rfl⟩
theorem sel_lt (P : Int → Bool) (g : Nat → Int) (N : Nat) : (selP P (ol g N)).Pairwise (· < ·) := by
  unfold selP
  rw [List.pairwise_map]
  exact (ol_lt g N).filter _
theorem eq_of_sorted : ∀ {l m : List Int}, l.Pairwise (· < ·) → m.Pairwise (· < ·) → (∀ a, a ∈ l ↔ a ∈ m) → l = m
  | [], [], _, _, _ => rfl
  | [], b :: m, _, _, h => absurd ((h b).2 (by simp)) (by simp)
  | a :: l, [], _, _, h => absurd ((h a).1 (by simp)) (by simp)
  | a :: l, b :: m, hl, hm, h => by
    rw [List.pairwise_cons] at hl hm
    have hab : a = b := by
      have h1 := (h a).1 (by simp)
      have h2 := (h b).2 (by simp)
      rw [List.mem_cons] at h1 h2
      rcases h1 with h1 | h1
      · exact h1
      rcases h2 with h2 | h2
      · exact h2.symm
      have := hm.1 a h1
      have := hl.1 b h2
      omega
    subst hab
    congr 1
    refine eq_of_sorted hl.2 hm.2 (fun c => ?_)
    have hc := h c
    rw [List.mem_cons, List.mem_cons] at hc
    constructor
    · intro k
      rcases hc.1 (.inr k) with rfl | k2
      · have := hl.1 c k; omega
      · exact k2
    · intro k
      rcases hc.2 (.inr k) with rfl | k2
      · have := hm.1 c k; omega
      · exact k2
theorem srt_lt {L : List Int} (h : L.Nodup) : (srt L).Pairwise (· < ·) := by
  have h1 : (srt L).Pairwise (fun x y => decide (x ≤ y) = true) := List.pairwise_mergeSort (fun a b c hab hbc => by simp at *; omega) (fun a b => by simp; omega) L
  have h2 : (srt L).Nodup := (List.mergeSort_perm L _).nodup_iff.2 h
  refine (h1.and h2).imp (fun {a b} hab => ?_)
  obtain ⟨e1, e2⟩ := hab
  have := of_decide_eq_true e1
  have e3 : a ≠ b := e2
  omega
theorem mem_srt (L : List Int) (x : Int) : x ∈ srt L ↔ x ∈ L := (List.mergeSort_perm L _).mem_iff
theorem alv_eq {g : Nat → Int} (h0 : 0 ≤ g 0 ∧ g 0 < g 1) : srt (alvP g) = alvL g := by
  refine eq_of_sorted (srt_lt ?_) ?_ (fun x => ?_)
  · unfold alvP
    rw [List.nodup_cons]
    refine ⟨fun h => ?_, (sel_lt _ g _).imp (fun {a b} h => by omega)⟩
    obtain ⟨k, _, h2, _, h4⟩ := (mem_sel _ g _ _).1 h
    exact h2 h4.symm
  · unfold alvL
    rw [List.pairwise_map]
    exact (List.pairwise_lt_range.filter _).imp (fun {a b} h => by omega)
  · rw [mem_srt]
    unfold alvP alvL
    rw [List.mem_cons, mem_sel, List.mem_map]
    constructor
    · rintro (rfl | ⟨k, h1, h2, h3, rfl⟩)
      · exact ⟨(g 0).toNat, List.mem_filter.2 ⟨List.mem_range.2 (by omega), by rw [show (((g 0).toNat : Nat) : Int) = g 0 by omega]; simp⟩, by omega⟩
      · exact ⟨k, List.mem_filter.2 ⟨List.mem_range.2 h1, by simp [h3]⟩, rfl⟩
    · rintro ⟨k, hk, rfl⟩
      rw [List.mem_filter, List.mem_range] at hk
      by_cases e : (k : Int) = g 0
      · exact .inl e
      · refine .inr ⟨k, hk.1, e, ?_, rfl⟩
        simpa [e] using hk.2

set_option maxRecDepth 100000 in
set_option maxHeartbeats 1000000 in
theorem ticks_none (b n : Nat) (g : Nat → Int) (W : World) (h : WB W b g) (hg : 1 ≤ g 1 ∧ g 1 ≤ 64) (hn3 : 0 ≤ g 3 ∧ g 3 ≤ 1000) (hn : n ≤ 1000) (he : ∀ i, i < n → tkL (tkN i g) = []) :
    Calls Try.prog 24 #[wp b, .int .i64 n] W fun e w' => e = .returned (.slice none 0 0) ∧ WB w' b (tkN n g) ∧ W.grownBy w' (some b) := by
  have HT := Lib.hid (fun i w (h : WB w b (tkN i g)) => tick_any b (tkN i g) w h)
  have he := Lib.hid he
  go_enter Try.func24, Try.ntmps24
  go_wp2_with fail
  go_loopw [5, 7] (fun o y wr => ∃ i : Nat, i ≤ n ∧ o = .slice none 0 0 ∧ y = .int .i64 i ∧ WB wr b (tkN i g) ∧ W.grownBy wr (some b)) (fun _ y _ => (5000 - intOf y).toNat)
  case atStart => exact ⟨0, by omega, rfl, rfl, h, World.grownBy.refl _ _⟩
  case round =>
    obtain ⟨i, hi, rfl, rfl, hw, hG⟩ := hrel
    obtain ⟨wo, rfl⟩ : ∃ wo : World, wo = wr := ⟨_, rfl⟩
    by_cases hin : i < n
    · have hTi := HT.out i wo hw (by rw [tkN_1]; exact hg) (by rw [tkN_3]; omega)
      rw [he.out i hin] at hTi
      go_wp2_with fail
      refine hTi.mono ?_
      rintro e w1 ⟨v, rfl, ⟨⟨ao, cap, rfl, _⟩, _⟩, hw1, hg1⟩
      rw [← tkN_succ] at hw1
      have hb := grown_but hG hg1 (fun r e => .inl (Option.some.inj e).symm)
      rcases ao with _ | ad
      · go_wp2_with fail
        go_roundw
        case rel => exact ⟨i + 1, by omega, rfl, by go_num, hw1, hb⟩
        case measure => simp [intOf]; omega
      · go_wp2_with fail
        go_roundw
        case rel => exact ⟨i + 1, by omega, rfl, by go_num, hw1, hb⟩
        case measure => simp [intOf]; omega
    · obtain rfl : i = n := by omega
      go_wp2_with fail
      go_ret
      exact ⟨rfl, hw, hG⟩

theorem p0 : ∀ i : Nat, i < 3 → tkL (tkN i (g0 1 3 4)) = [] := by decide +kernel
theorem p1 : tkL (hdG (tkN 3 (g0 1 3 4)) 0) = [2] := by decide +kernel
theorem p2 : alvL (tk (hdG (tkN 3 (g0 1 3 4)) 0)) = [0, 1] := by decide +kernel
theorem p3 : hdB (tkN 3 (g0 1 3 4)) 0 = false := by decide +kernel
theorem p4 : hdE (tkN 3 (g0 1 3 4)) 0 = 0 := by decide +kernel
theorem two_ints {W : World} {g : Nat} {L : List Int} {cap : Nat} (h : ∀ k, k < L.length → W.cell? ⟨g, k, none⟩ = some (.int .i64 (L.getD k 0))) : IntsV W (.slice (some ⟨g, 0, none⟩) L.length cap) L :=
  ⟨_, _, rfl, fun k hk => ⟨g, rfl, h k hk⟩⟩

set_option maxRecDepth 100000 in
set_option maxHeartbeats 1000000 in
theorem alive_any (W : World) : Calls Try.prog 7 #[] W fun e w' => e = .returned (.bool true) ∧ Later W w' := by
  have HN := Lib.hid (fun w => new_ok 1 3 4 w (by decide) (by decide) (by decide) (by decide) (by decide) (by decide))
  obtain ⟨ga, hga⟩ : ∃ g, g0 1 3 4 = g := ⟨_, rfl⟩
  obtain ⟨gb, hgb⟩ : ∃ g, tkN 3 ga = g := ⟨_, rfl⟩
  obtain ⟨gc, hgc⟩ : ∃ g, hdG gb 0 = g := ⟨_, rfl⟩
  obtain ⟨gd, hgd⟩ : ∃ g, tk gc = g := ⟨_, rfl⟩
  have q0 := p0
  have q1 := p1
  have q2 := p2
  have q3 := p3
  have q4 := p4
  have a1 : ga 1 = 3 := by rw [← hga]; rfl
  have a3 : ga 3 = 0 := by rw [← hga]; rfl
  have b1 : gb 1 = 3 := by rw [← hgb, tkN_1, a1]
  have b3 : gb 3 = 3 := by rw [← hgb, tkN_3, a3]; rfl
  have c1 : gc 1 = 3 := by rw [← hgc, ← hgb, ← hga]; decide +kernel
  have c3 : gc 3 = 3 := by rw [← hgc, ← hgb, ← hga]; decide +kernel
  have d0 : gd 0 = 1 := by rw [← hgd, ← hgc, ← hgb, ← hga]; decide +kernel
  have d1 : gd 1 = 3 := by rw [← hgd, ← hgc, ← hgb, ← hga]; decide +kernel
  have d3 : gd 3 = 4 := by rw [← hgd, ← hgc, ← hgb, ← hga]; decide +kernel
  rw [hga] at q0 q1 q2 q3 q4 HN
  rw [hgb] at q1 q2 q3 q4
  rw [hgc] at q1 q2
  rw [hgd] at q2
  have HT := Lib.hid (fun b w (h : WB w b ga) => ticks_none b 3 ga w h (by omega) (by omega) (by omega) q0)
  rw [hgb] at HT
  have HH := Lib.hid (fun b w (h : WB w b gb) => heard_any b gb 0 w h (by omega))
  rw [hgc, q3, q4] at HH
  have HK := Lib.hid (fun b w (h : WB w b gc) => tick_any b gc w h (by omega) (by omega))
  rw [hgd, q1] at HK
  have HA := Lib.hid (fun b w (h : WB w b gd) => alive_nodes b gd w h (by omega))
  rw [alv_eq (by omega), q2] at HA
  have HD := Lib.hid (fun b w (h : WB w b gd) => due_any b gd w h (by omega))
  rw [d3] at HD
  have HI := Lib.hid (fun v u W h1 h2 => ints_any v u [2] [2] W h1 h2 (by decide) (by decide))
  have HJ := Lib.hid (fun v u W h1 h2 => ints_any v u [0, 1] [0, 1] W h1 h2 (by decide) (by decide))
  rw [decide_eq_true rfl] at HI HJ
  clear hga hgb hgc hgd q0 q1 q2 q3 q4 a1 a3 b1 b3 c1 c3 d0 d1 d3
  go_enter Try.func7, Try.ntmps7
  go_wp2_with fail
  refine (HN.out _).mono ?_
  rintro e w1 ⟨b, rfl, hw, hb, hl⟩
  go_wp2_with fail
  refine (HT.out b _ hw).mono ?_
  rintro e w2 ⟨rfl, hw2, hg2⟩
  replace hl := grown_later hl hg2 hb
  go_wp2_with fail
  refine (HH.out b _ hw2).mono ?_
  rintro e w3 ⟨rfl, hw3, hg3⟩
  replace hl := grown_later hl hg3 hb
  go_wp2_with fail
  refine (HK.out b _ hw3).mono ?_
  rintro e w4 ⟨v, rfl, ⟨hv, _⟩, hw4, hg4⟩
  replace hl := grown_later hl hg4 hb
  clear HN HT HH HK hw hw2 hw3 hg2 hg3 hg4
  go_wp2_with fail
  have hw4b := hw4.lt
  refine (HI.out v _ _ (hv.later ((Later.refl _).alloc _)) (two_ints (L := [2]) (cap := 1) (fun k hk => by
    obtain rfl : k = 0 := by simp at hk; omega
    simp))).mono ?_
  rintro e w5 ⟨rfl, hl5⟩
  replace hl5 : Later w4 w5 := ((Later.refl _).alloc _).trans hl5
  replace hw4 : WB w5 b gd := Row.later hw4 hl5
  replace hl := hl.trans hl5
  clear hl5 hv
  go_wp2_with fail
  refine (HA.out b _ hw4).mono ?_
  rintro e w6 ⟨u, rfl, hu, hl6⟩
  replace hw4 : WB w6 b gd := Row.later hw4 hl6
  replace hl := hl.trans hl6
  clear hl6
  go_wp2_with fail
  refine (HJ.out u _ _ (hu.later ((Later.refl _).alloc _)) (two_ints (L := [0, 1]) (cap := 2) (fun k hk => by
    rcases (show k = 0 ∨ k = 1 by simp at hk; omega) with rfl | rfl <;> simp))).mono ?_
  rintro e w7 ⟨rfl, hl7⟩
  replace hl7 : Later w6 w7 := ((Later.refl _).alloc _).trans hl7
  replace hw4 : WB w7 b gd := Row.later hw4 hl7
  replace hl := hl.trans hl7
  clear hl7 hu
  go_wp2_with fail
  refine (HD.out b _ hw4).mono ?_
  rintro e w8 ⟨rfl, hl8⟩
  rw [show ((4 : Int).tmod 2 == 0) = true from by decide]
  go_wp2_with fail
  go_ret
  exact ⟨rfl, hl.trans hl8⟩
end Go.Proofs.Ytaaohfocegnlkaa
