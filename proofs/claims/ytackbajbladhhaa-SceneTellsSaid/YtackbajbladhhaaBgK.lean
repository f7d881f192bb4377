/-
  The document's matrices: an exact sum of four products, by 65536.
-/
import Derived.Test.YtackbajbladhhaaBgH1
namespace Go.Proofs.Ytackbajbladhhaa
open Go.RowKit Go.Shelf
set_option linter.unusedVariables false
set_option linter.unusedSimpArgs false
attribute [local go_sem] Oper.semAt_some
attribute [-simp] Try.sizeOf167 Try.typeInfo167

theorem mul_bd {a b A B : Int} (hA : 0 ≤ A) (ha : -A ≤ a ∧ a ≤ A) (hb : -B ≤ b ∧ b ≤ B) : -(A * B) ≤ a * b ∧ a * b ≤ A * B := by
  have h1 : a.natAbs ≤ A.natAbs := by omega
  have h2 : b.natAbs ≤ B.natAbs := by omega
  have h3 := Nat.mul_le_mul h1 h2
  rw [← Int.natAbs_mul, ← Int.natAbs_mul] at h3
  have h4 : 0 ≤ A * B := Int.mul_nonneg hA (by omega)
  omega
def dotB (a b : Nat → Int) : Bool := decide (-4611686018427387904 ≤ dotQ a b) && decide (dotQ a b ≤ 4611686018427387904)
def psum (a b : Nat → Int) : Nat → Int
  | 0 => 0
  | k + 1 => psum a b k + a k * b k
theorem psum_b {a b : Nat → Int} (ha : Within 4611686018427387904 4 a) (hb : Within 4611686018427387904 4 b) : ∀ k, k ≤ 4 → (psum a b k).natAbs ≤ k * 21267647932558653966460912964485513216
  | 0, _ => by unfold psum; omega
  | k + 1, hk => by
    have ih := psum_b ha hb k (by omega)
    have h1 := ha k (by omega)
    have h2 := hb k (by omega)
    have h3 := mul_bd (A := 4611686018427387904) (B := 4611686018427387904) (by omega) h1 h2
    unfold psum
    omega
set_option maxRecDepth 100000 in
set_option maxHeartbeats 8000000 in
theorem sum3_any (a b : Nat → Int) (W : World) (ha : Within 4611686018427387904 4 a) (hb : Within 4611686018427387904 4 b) :
    Calls Try.prog 95 #[vecV a, vecV b] W fun e w' => e = .returned (.tuple #[.int .i64 (if dotB a b then dotQ a b else 0), .bool (dotB a b)]) ∧ Later W w' := by
  have hbig : 89202980794122492566142873090593446023921664 ≤ bP 20 := by
    have h1 : 2 ^ 144 * 4 ≤ bP 20 := by rw [← bP_9, show bP 20 = bP 9 * bP 11 from bP_add 9 11]; exact Nat.mul_le_mul_left _ (show 4 ≤ bP 11 by rw [show bP 11 = 65536 * bP 10 from by rw [bP_succ, Nat.mul_comm]]; have := bP_pos 10; omega)
    have : (2 : Nat) ^ 144 * 4 = 89202980794122492566142873090593446023921664 := by decide
    omega
  have hb9 : bP 9 = 22300745198530623141535718272648361505980416 := by rw [bP_9]
  have hps := psum_b ha hb
  have hdq : Hid (psum a b 4 / 65536 = dotQ a b) := Lib.hid (by
    show (0 + a 0 * b 0 + a 1 * b 1 + a 2 * b 2 + a 3 * b 3) / 65536 = (a 0 * b 0 + a 1 * b 1 + a 2 * b 2 + a 3 * b 3) / 65536
    rw [Int.zero_add])
  obtain ⟨dv, hdv⟩ : ∃ x, Hid (dotQ a b = x) := ⟨_, rfl⟩
  obtain ⟨rr, hrr⟩ : ∃ x, Hid (dotB a b = x) := ⟨_, rfl⟩
  have hrr2 : Hid (rr = (decide (-4611686018427387904 ≤ dv) && decide (dv ≤ 4611686018427387904))) := Lib.hid (by rw [← hrr.out, ← hdv.out]; rfl)
  rw [hdv.out] at hdq ⊢
  rw [hrr.out]
  clear hdv hrr
  obtain ⟨Z0, hZ0⟩ : ∃ Z, Z = (W.alloc (.cells #[.int .i64 (a 0), .int .i64 (a 1), .int .i64 (a 2), .int .i64 (a 3)] 23)).alloc (.cells #[.int .i64 (b 0), .int .i64 (b 1), .int .i64 (b 2), .int .i64 (b 3)] 23) := ⟨_, rfl⟩
  have hlZ : Later W Z0 := by rw [hZ0]; exact ((Later.refl W).alloc _).alloc _
  have kA : vecB Z0 W.heap.size 23 a := by rw [hZ0]; exact push_one (heap_alloc_new _ _) _
  have kB : vecB Z0 (W.heap.size + 1) 23 b := by rw [hZ0]; exact push_new _ _ (World.size_alloc _ _)
  have hO0 := Lib.hid (fun V => bof_any 0 V (by omega))
  obtain ⟨P, hP⟩ : ∃ n, Hid (W.heap.size = n) := ⟨_, rfl⟩
  obtain ⟨Q, hQ⟩ : ∃ n, Hid (P + 1 = n) := ⟨_, rfl⟩
  have hPQ : P < Q := by have := hQ.out; omega
  have hWP : W.heap.size ≤ P := Nat.le_of_eq hP.out
  obtain ⟨n21, hn21⟩ : ∃ n, Hid ((21 : Nat) = n) := ⟨_, rfl⟩
  have hsz : ∀ w, (sizeOf 167).run Try.prog w = .ok n21 w := fun w => by rw [← hn21.out]; kernel_rfl
  have hnew : Hid (∀ (U : World) (l : List Value), l.length = 21 → l.toArray.all (·.oneCell') = true → (storeCells ⟨U.heap.size, 0, none⟩ l).run Try.prog (U.alloc (.cells #[.bool false, .int .u64 0, .int .u64 0, .int .u64 0, .int .u64 0, .int .u64 0, .int .u64 0, .int .u64 0, .int .u64 0, .int .u64 0, .int .u64 0, .int .u64 0, .int .u64 0, .int .u64 0, .int .u64 0, .int .u64 0, .int .u64 0, .int .u64 0, .int .u64 0, .int .u64 0, .int .u64 0] 167)) = .ok () (U.alloc (.cells l.toArray 167))) := Lib.hid (fun U l h1 h2 => by
    have := store_roww (arr := l.toArray) (heap_alloc_new U (.cells #[.bool false, .int .u64 0, .int .u64 0, .int .u64 0, .int .u64 0, .int .u64 0, .int .u64 0, .int .u64 0, .int .u64 0, .int .u64 0, .int .u64 0, .int .u64 0, .int .u64 0, .int .u64 0, .int .u64 0, .int .u64 0, .int .u64 0, .int .u64 0, .int .u64 0, .int .u64 0, .int .u64 0] 167)) (by rw [List.size_toArray, List.size_toArray, h1]; rfl) h2
    rw [World.setRow_alloc_new] at this
    simpa using this)
  obtain ⟨l0, hl0⟩ : ∃ l, Hid ((bigI 0).toList = l) := ⟨_, rfl⟩
  have a0 : bigI 0 = l0.toArray := by rw [← hl0.out]
  have len0 : l0.length = 21 := by rw [← hl0.out, Array.length_toList]; exact bigV_size _ _
  have sz0 : l0.length = n21 := by rw [len0]; exact hn21.out
  have one0 : l0.toArray.all (·.oneCell') = true := by rw [← a0]; exact bigV_one _ _
  rw [a0] at hO0
  go_enter Try.func95, Try.ntmps95
  go_upto_region 1 with fail
  rw [← hZ0]
  clear hZ0
  rw [hP.out] at kA kB ⊢
  rw [hQ.out] at kB ⊢
  have hQZ : Q < Z0.heap.size := (Array.getElem?_eq_some_iff.1 kB).1
  first | go_step3 | skip
  go_wp2_with fail
  refine (hO0.out _).mono ?_
  rintro e w1 ⟨rfl, h1⟩
  have hst0 := hnew.out w1 l0 len0 one0
  go_upto_region 2 with fail
  obtain ⟨Y, hY⟩ : ∃ Y, Y = w1.alloc (.cells l0.toArray 167) := ⟨_, rfl⟩
  have hlY : Later Z0 Y := by rw [hY]; exact h1.alloc _
  have kS : Y.heap[w1.heap.size]? = some (.cells (bigI (psum a b 0)) 167 (0, 0)) := by rw [hY]; show _ = some (Obj.cells (bigI 0) _ _); rw [a0]; exact heap_alloc_new _ _
  have hQS : Q < w1.heap.size := Nat.lt_of_lt_of_le hQZ h1.size
  rw [← hY]
  clear hY hst0 hO0
  replace kA := hlY.row kA
  replace kB := hlY.row kB
  have hlWY := hlZ.trans hlY
  obtain ⟨S0, hS0⟩ : ∃ n, Hid (w1.heap.size = n) := ⟨_, rfl⟩
  rw [hS0.out] at kS hQS ⊢
  clear hS0 h1 hlY hlZ hQZ a0 len0 sz0 one0 hl0
  go_wp2_with fail
  go_loopw [7] (fun y wr => ∃ i : Nat, i ≤ 4 ∧ y = .int .i64 i ∧ wr.heap[S0]? = some (.cells (bigI (psum a b i)) 167 (0, 0)) ∧ vecB wr P 23 a ∧ vecB wr Q 23 b ∧ Later W wr) (fun y _ => (300 - intOf y).toNat)
  case atStart => exact ⟨0, by omega, rfl, kS, kA, kB, hlWY⟩
  case round =>
    obtain ⟨i, hi, rfl, kSi, kAi, kBi, hli⟩ := hrel
    obtain ⟨wi, rfl⟩ : ∃ wo : World, wo = wr := ⟨_, rfl⟩
    by_cases hi4 : i < 4
    · have hp1 := hps i (by omega)
      have hp2 := hps (i + 1) (by omega)
      have hai := ha i hi4
      have hbi := hb i hi4
      have hpe : psum a b (i + 1) = psum a b i + a i * b i := rfl
      have hmb := mul_bd (A := 4611686018427387904) (B := 4611686018427387904) (by omega) hai hbi
      have cA : wi.cell? ⟨P, i, none⟩ = some (.int .i64 (a i)) := by have := four_of_box kAi i hi4; rwa [Nat.zero_add] at this
      have cB : wi.cell? ⟨Q, i, none⟩ = some (.int .i64 (b i)) := by have := four_of_box kBi i hi4; rwa [Nat.zero_add] at this
      have hOa := Lib.hid (fun V => bof_any (a i) V (by omega))
      have hOb := Lib.hid (fun V => bof_any (b i) V (by omega))
      have hMu := Lib.hid (fun V => bmul_any (a i) (b i) V (by omega) (by omega))
      have hAd := Lib.hid (fun V => badd_any (psum a b i) (a i * b i) V (by omega))
      rw [← hpe] at hAd
      obtain ⟨x, hx⟩ : ∃ x, Hid (a i = x) := ⟨_, rfl⟩
      obtain ⟨y, hy⟩ : ∃ x, Hid (b i = x) := ⟨_, rfl⟩
      rw [hx.out] at cA hOa hMu hAd
      rw [hy.out] at cB hOb hMu hAd
      obtain ⟨bx, hbx⟩ : ∃ l, Hid (bigI x = l) := ⟨_, rfl⟩
      obtain ⟨by', hby⟩ : ∃ l, Hid (bigI y = l) := ⟨_, rfl⟩
      obtain ⟨bm, hbm⟩ : ∃ l, Hid (bigI (x * y) = l) := ⟨_, rfl⟩
      rw [hbx.out] at hOa hMu
      rw [hby.out] at hOb hMu
      rw [hbm.out] at hMu hAd
      have szm : bm.size = n21 := by rw [← hbm.out, ← hn21.out]; exact bigV_size _ _
      have onem : bm.all (·.oneCell') = true := by rw [← hbm.out]; exact bigV_one _ _
      have sz21 : Hid ((#[.bool false, .int .u64 0, .int .u64 0, .int .u64 0, .int .u64 0, .int .u64 0, .int .u64 0, .int .u64 0, .int .u64 0, .int .u64 0, .int .u64 0, .int .u64 0, .int .u64 0, .int .u64 0, .int .u64 0, .int .u64 0, .int .u64 0, .int .u64 0, .int .u64 0, .int .u64 0, .int .u64 0] : Array Value).size = bm.size) := Lib.hid (by rw [szm, ← hn21.out]; rfl)
      have hS : Hid (∀ U, Later wi U → (U.cell? ⟨P, i, none⟩ = some (.int .i64 x) ∧ U.cell? ⟨Q, i, none⟩ = some (.int .i64 y))) := Lib.hid (fun U h => ⟨h.cell cA, h.cell cB⟩)
      have hdZ : Later wi wi.drew := (Later.refl wi).drew
      have hdA : Hid (Later wi ((wi.alloc (.cells #[.bool false, .int .u64 0, .int .u64 0, .int .u64 0, .int .u64 0, .int .u64 0, .int .u64 0, .int .u64 0, .int .u64 0, .int .u64 0, .int .u64 0, .int .u64 0, .int .u64 0, .int .u64 0, .int .u64 0, .int .u64 0, .int .u64 0, .int .u64 0, .int .u64 0, .int .u64 0, .int .u64 0] 167)).drew)) := Lib.hid ((Later.refl wi).alloc _).drew
      have hst : Hid (∀ U : World, (storeCells ⟨U.heap.size, 0, none⟩ bm.toList).run Try.prog (U.alloc (.cells #[.bool false, .int .u64 0, .int .u64 0, .int .u64 0, .int .u64 0, .int .u64 0, .int .u64 0, .int .u64 0, .int .u64 0, .int .u64 0, .int .u64 0, .int .u64 0, .int .u64 0, .int .u64 0, .int .u64 0, .int .u64 0, .int .u64 0, .int .u64 0, .int .u64 0, .int .u64 0, .int .u64 0] 167)) = .ok () ((U.alloc (.cells #[.bool false, .int .u64 0, .int .u64 0, .int .u64 0, .int .u64 0, .int .u64 0, .int .u64 0, .int .u64 0, .int .u64 0, .int .u64 0, .int .u64 0, .int .u64 0, .int .u64 0, .int .u64 0, .int .u64 0, .int .u64 0, .int .u64 0, .int .u64 0, .int .u64 0, .int .u64 0, .int .u64 0] 167)).setRow U.heap.size bm)) := Lib.hid (fun U => store_roww (heap_alloc_new _ _) sz21.out onem)
      have hfin : Hid (∀ (U : World) (g : Nat), Later wi U → wi.heap.size ≤ g → U.heap[g]? = some (.cells #[.bool false, .int .u64 0, .int .u64 0, .int .u64 0, .int .u64 0, .int .u64 0, .int .u64 0, .int .u64 0, .int .u64 0, .int .u64 0, .int .u64 0, .int .u64 0, .int .u64 0, .int .u64 0, .int .u64 0, .int .u64 0, .int .u64 0, .int .u64 0, .int .u64 0, .int .u64 0, .int .u64 0] 167 (0, 0)) → (U.setRow g bm).heap[g]? = some (.cells bm 167 (0, 0)) ∧ Later wi (U.setRow g bm)) := Lib.hid (fun U g h1 h2 h3 => ⟨setRow_heap _ _ _ _ _ _ h3, h1.setRow h2 _⟩)
      have hii : (i : Int) < 4 := by omega
      replace onem := Lib.hid onem
      clear hbx hby hbm hps hp1 hp2 hai hbi hpe hmb
      go_upto_region 5 with fail
      go_cut [8] from 20 to 27 (fun u wx => ∃ g, u = .pointer (some ⟨g, 0, none⟩) ∧ wx.heap[g]? = some (.cells bm 167 (0, 0)) ∧ Later wi wx)
      case first =>
        go_region_held3 (fun U => U.cell? ⟨P, i, none⟩ = some (.int .i64 x) ∧ U.cell? ⟨Q, i, none⟩ = some (.int .i64 y)) ((first | (with_reducible exact hS.out _ hdZ) | (with_reducible exact hS.out _ hdA.out) | (with_reducible exact hS.out _ (hdZ.alloc _)) | (with_reducible exact hS.out _ hKf) | (with_reducible exact hS.out _ hKf1) | (with_reducible exact hS.out _ hKf0) | (with_reducible exact hS.out _ hK3) | (with_reducible exact hS.out _ (hK3.alloc _)) | (with_reducible exact hS.out _ hK2) | (with_reducible exact hS.out _ (hK2.alloc _)) | (with_reducible exact hS.out _ hK1) | (with_reducible exact hS.out _ (hK1.alloc _)))) (first | (go_at_call 114; with_reducible refine (hOa.out _).mono ?_; rintro e V1 ⟨rfl, hLa⟩; (first | (have hK1 : Later wi V1 := hdZ.trans hLa) | (have hK1 : Later wi V1 := (hdZ.alloc _).trans hLa; have kz1 := hLa.row (heap_alloc_new _ _)) | (have hK1 : Later wi V1 := hdA.out.trans hLa; have kz1 := hLa.row (heap_alloc_new wi _)))) | (go_at_call 114; with_reducible refine (hOb.out _).mono ?_; rintro e V2 ⟨rfl, hLb⟩; (first | (have hK2 : Later wi V2 := hK1.trans hLb; (try have kz2 := hLb.row kz1)) | (have hK2 : Later wi V2 := (hK1.alloc _).trans hLb; have kz2 := hLb.row (heap_alloc_new _ _)))) | (go_at_call 115; with_reducible refine (hMu.out _).mono ?_; rintro e V3 ⟨rfl, hLc⟩; (first | (have hK3 : Later wi V3 := hK2.trans hLc; have hst3 := hst.out V3; have hKf : Later wi ((V3.alloc (.cells #[.bool false, .int .u64 0, .int .u64 0, .int .u64 0, .int .u64 0, .int .u64 0, .int .u64 0, .int .u64 0, .int .u64 0, .int .u64 0, .int .u64 0, .int .u64 0, .int .u64 0, .int .u64 0, .int .u64 0, .int .u64 0, .int .u64 0, .int .u64 0, .int .u64 0, .int .u64 0, .int .u64 0] 167)).setRow V3.heap.size bm) := (hK3.alloc _).setRow hK3.size _; have hKf1 : Later wi (V3.setRow V1.heap.size bm) := hK3.setRow hK1.size _; have hKf0 : Later wi (V3.setRow wi.heap.size bm) := hK3.setRow (Nat.le_refl _) _; (try have kz3 := hLc.row kz2); (try have hst4 := store_roww kz3 sz21.out onem.out)) | (have hK3 : Later wi V3 := (hK2.alloc _).trans hLc; have kz3 := hLc.row (heap_alloc_new _ _); have hst4 := store_roww kz3 sz21.out onem.out; have hKf : Later wi (V3.setRow V2.heap.size bm) := hK3.setRow hK2.size _))))
        all_goals
          rename_i JJ KK hj hk hh
          refine hk _ _ (Met.intro (hj _ _ ?_))
          (repeat apply Exists.intro)
          first
            | exact ⟨⟨_, rfl, setRow_heap _ _ _ _ _ _ (heap_alloc_new _ _), hKf⟩, rfl⟩
            | exact ⟨⟨_, rfl, setRow_heap _ _ _ _ _ _ kz3, hKf⟩, rfl⟩
            | exact ⟨⟨_, rfl, setRow_heap _ _ _ _ _ _ kz3, hKf1⟩, rfl⟩
            | exact ⟨⟨_, rfl, setRow_heap _ _ _ _ _ _ kz3, hKf0⟩, rfl⟩
      case rest =>
      obtain ⟨g, rfl, hg, hlg⟩ := hcut
      have kSg := hlg.row kSi
      have hgsz : (Try.prog.info? 167).map (·.size) = some bm.size := by rw [szm, ← hn21.out]; exact info_big
      clear hS hdZ hdA hst hfin cA cB hOa hOb hMu
      replace hsz := Lib.hid hsz
      go_wp2_with (first | refine wpList_load_row rfl _ _ rfl S0 rfl _ _ (0, 0) _ kSg Try.underlying167 rfl (size_big _ _) ?_ | refine wpList_load_row rfl _ _ rfl g rfl _ _ (0, 0) _ hg Try.underlying167 rfl hgsz ?_)
      refine (hAd.out _).mono ?_
      rintro e w5 ⟨rfl, h5⟩
      have kS5 := h5.row kSg
      have hl5 := (hli.trans hlg).trans h5
      have kA5 := (hlg.trans h5).row kAi
      have kB5 := (hlg.trans h5).row kBi
      clear hAd
      go_upto_region 4 with (refine wpList_store_row rfl 167 _ _ rfl S0 (bigI (psum a b (i + 1))) rfl rfl 167 (bigI (psum a b i)) kS5 (size_big _ _) (by rw [show (bigI (psum a b i)).size = 21 from bigV_size _ _, show (bigI (psum a b (i + 1))).size = 21 from bigV_size _ _]) (bigV_one _ _) ?_)
      go_wp2_with fail
      go_roundw
      case rel =>
        exact ⟨i + 1, by omega, by go_num, setRow_heap _ _ _ _ _ _ kS5, (setRow_other _ _ _ _ (by omega)).trans kA5, (setRow_other _ _ _ _ (by omega)).trans kB5, hl5.setRow (by omega) _⟩
      case measure => simp [intOf]; omega
    · obtain rfl : i = 4 := by omega
      have hp4 := hps 4 (by omega)
      obtain ⟨sm, hsm⟩ : ∃ s, Hid (psum a b 4 = s) := ⟨_, rfl⟩
      rw [hsm.out] at kSi hp4
      have hO6 := Lib.hid (fun V => bof_any 65536 V (by omega))
      have hDv := Lib.hid (fun V => bdiv_any sm V (by rw [hb9]; omega))
      have hTo := Lib.hid (fun V => to_any (sm / 65536) V (by omega))
      obtain ⟨q, hq⟩ : ∃ q, Hid (sm / 65536 = q) := ⟨_, rfl⟩
      rw [hq.out] at hDv hTo
      obtain ⟨b6, hb6⟩ : ∃ l, Hid (bigI 65536 = l) := ⟨_, rfl⟩
      obtain ⟨lS, hlS⟩ : ∃ l, Hid ((bigI sm).toList = l) := ⟨_, rfl⟩
      obtain ⟨lq, hlq⟩ : ∃ l, Hid ((bigI q).toList = l) := ⟨_, rfl⟩
      obtain ⟨lr, hlr⟩ : ∃ l, Hid ((bigI (sm % 65536)).toList = l) := ⟨_, rfl⟩
      have lenS : lS.length = 21 := by rw [← hlS.out, Array.length_toList]; exact bigV_size _ _
      have lenq : lq.length = 21 := by rw [← hlq.out, Array.length_toList]; exact bigV_size _ _
      have lenr : lr.length = 21 := by rw [← hlr.out, Array.length_toList]; exact bigV_size _ _
      rw [show bigI sm = lS.toArray by rw [← hlS.out]] at hDv kSi
      have aq : bigI q = lq.toArray := by rw [← hlq.out]
      have oneq : lq.toArray.all (·.oneCell') = true := by rw [← aq]; exact bigV_one _ _
      have oner : lr.toArray.all (·.oneCell') = true := by rw [show lr.toArray = bigI (sm % 65536) by rw [← hlr.out]]; exact bigV_one _ _
      rw [show bigI (sm % 65536) = lr.toArray by rw [← hlr.out], hb6.out, aq] at hDv
      rw [hb6.out] at hO6
      rw [aq] at hTo
      have szq : lq.length = n21 := by rw [lenq]; exact hn21.out
      have szr : lr.length = n21 := by rw [lenr]; exact hn21.out
      have hlc : ∀ w : World, w.rangeAt S0 0 lS → (loadCellsFrom ⟨S0, 0, none⟩ 0 n21 #[]).run Try.prog w = .ok lS.toArray w := fun w => load_list hn21.out lenS w
      have rS : wi.rangeAt S0 0 lS := row_rang kSi
      have hS : Hid (∀ U, Later wi U → U.rangeAt S0 0 lS) := Lib.hid (fun U h => rangeAt_latr rS h)
      have hdZ : Later wi wi.drew := (Later.refl wi).drew
      have hsq : ∀ (U : World) (g : Nat), U.heap[g]? = some (.cells #[.bool false, .int .u64 0, .int .u64 0, .int .u64 0, .int .u64 0, .int .u64 0, .int .u64 0, .int .u64 0, .int .u64 0, .int .u64 0, .int .u64 0, .int .u64 0, .int .u64 0, .int .u64 0, .int .u64 0, .int .u64 0, .int .u64 0, .int .u64 0, .int .u64 0, .int .u64 0, .int .u64 0] 167 (0, 0)) → (storeCells ⟨g, 0, none⟩ lq).run Try.prog U = .ok () (U.setRow g lq.toArray) := fun U g h => store_roww (arr := lq.toArray) h (by rw [List.size_toArray, List.size_toArray, lenq]; rfl) oneq
      have hsr : ∀ (U : World) (g : Nat), U.heap[g]? = some (.cells #[.bool false, .int .u64 0, .int .u64 0, .int .u64 0, .int .u64 0, .int .u64 0, .int .u64 0, .int .u64 0, .int .u64 0, .int .u64 0, .int .u64 0, .int .u64 0, .int .u64 0, .int .u64 0, .int .u64 0, .int .u64 0, .int .u64 0, .int .u64 0, .int .u64 0, .int .u64 0, .int .u64 0] 167 (0, 0)) → (storeCells ⟨g, 0, none⟩ lr).run Try.prog U = .ok () (U.setRow g lr.toArray) := fun U g h => store_roww (arr := lr.toArray) h (by rw [List.size_toArray, List.size_toArray, lenr]; rfl) oner
      clear hlS hlq hlr hb6 rS hps kA kB kS ha hb
      have htwo : Hid (∀ (X : World) (g h : Nat), X.heap[g]? = some (.cells #[.bool false, .int .u64 0, .int .u64 0, .int .u64 0, .int .u64 0, .int .u64 0, .int .u64 0, .int .u64 0, .int .u64 0, .int .u64 0, .int .u64 0, .int .u64 0, .int .u64 0, .int .u64 0, .int .u64 0, .int .u64 0, .int .u64 0, .int .u64 0, .int .u64 0, .int .u64 0, .int .u64 0] 167 (0, 0)) → X.heap[h]? = some (.cells #[.bool false, .int .u64 0, .int .u64 0, .int .u64 0, .int .u64 0, .int .u64 0, .int .u64 0, .int .u64 0, .int .u64 0, .int .u64 0, .int .u64 0, .int .u64 0, .int .u64 0, .int .u64 0, .int .u64 0, .int .u64 0, .int .u64 0, .int .u64 0, .int .u64 0, .int .u64 0, .int .u64 0] 167 (0, 0)) → g ≠ h → (storeCells ⟨g, 0, none⟩ lq).run Try.prog X = .ok () (X.setRow g lq.toArray) ∧ (storeCells ⟨h, 0, none⟩ lr).run Try.prog (X.setRow g lq.toArray) = .ok () ((X.setRow g lq.toArray).setRow h lr.toArray)) := Lib.hid (fun X g h h1 h2 h3 => ⟨hsq X g h1, hsr _ h ((setRow_other _ _ _ _ (fun e => h3 e.symm)).trans h2)⟩)
      have hfin : Hid (∀ (X : World) (g h : Nat), Later wi X → wi.heap.size ≤ g → wi.heap.size ≤ h → X.heap[g]? = some (.cells #[.bool false, .int .u64 0, .int .u64 0, .int .u64 0, .int .u64 0, .int .u64 0, .int .u64 0, .int .u64 0, .int .u64 0, .int .u64 0, .int .u64 0, .int .u64 0, .int .u64 0, .int .u64 0, .int .u64 0, .int .u64 0, .int .u64 0, .int .u64 0, .int .u64 0, .int .u64 0, .int .u64 0] 167 (0, 0)) → g ≠ h → ((X.setRow g lq.toArray).setRow h lr.toArray).heap[g]? = some (.cells lq.toArray 167 (0, 0)) ∧ Later wi ((X.setRow g lq.toArray).setRow h lr.toArray)) := Lib.hid (fun X g h h0 h1 h2 h3 h4 => ⟨(setRow_other _ _ _ _ h4).trans (setRow_heap _ _ _ _ _ _ h3), (h0.setRow h1 _).setRow h2 _⟩)
      have hdA : Hid (Later wi ((wi.alloc (.cells #[.bool false, .int .u64 0, .int .u64 0, .int .u64 0, .int .u64 0, .int .u64 0, .int .u64 0, .int .u64 0, .int .u64 0, .int .u64 0, .int .u64 0, .int .u64 0, .int .u64 0, .int .u64 0, .int .u64 0, .int .u64 0, .int .u64 0, .int .u64 0, .int .u64 0, .int .u64 0, .int .u64 0] 167)).drew)) := Lib.hid ((Later.refl wi).alloc _).drew
      have hdA2 : Hid (Later wi (((wi.alloc (.cells #[.bool false, .int .u64 0, .int .u64 0, .int .u64 0, .int .u64 0, .int .u64 0, .int .u64 0, .int .u64 0, .int .u64 0, .int .u64 0, .int .u64 0, .int .u64 0, .int .u64 0, .int .u64 0, .int .u64 0, .int .u64 0, .int .u64 0, .int .u64 0, .int .u64 0, .int .u64 0, .int .u64 0] 167)).alloc (.cells #[.bool false, .int .u64 0, .int .u64 0, .int .u64 0, .int .u64 0, .int .u64 0, .int .u64 0, .int .u64 0, .int .u64 0, .int .u64 0, .int .u64 0, .int .u64 0, .int .u64 0, .int .u64 0, .int .u64 0, .int .u64 0, .int .u64 0, .int .u64 0, .int .u64 0, .int .u64 0, .int .u64 0] 167)).drew)) := Lib.hid (((Later.refl wi).alloc _).alloc _).drew
      clear hsq hsr lenS lenq lenr
      have hw1 : Hid ((wi.drew.alloc (.cells #[.bool false, .int .u64 0, .int .u64 0, .int .u64 0, .int .u64 0, .int .u64 0, .int .u64 0, .int .u64 0, .int .u64 0, .int .u64 0, .int .u64 0, .int .u64 0, .int .u64 0, .int .u64 0, .int .u64 0, .int .u64 0, .int .u64 0, .int .u64 0, .int .u64 0, .int .u64 0, .int .u64 0] 167)).heap[wi.heap.size]? = some (.cells #[.bool false, .int .u64 0, .int .u64 0, .int .u64 0, .int .u64 0, .int .u64 0, .int .u64 0, .int .u64 0, .int .u64 0, .int .u64 0, .int .u64 0, .int .u64 0, .int .u64 0, .int .u64 0, .int .u64 0, .int .u64 0, .int .u64 0, .int .u64 0, .int .u64 0, .int .u64 0, .int .u64 0] 167 (0, 0))) := Lib.hid (heap_alloc_new wi.drew _)
      have hw3 : Hid ((wi.alloc (.cells #[.bool false, .int .u64 0, .int .u64 0, .int .u64 0, .int .u64 0, .int .u64 0, .int .u64 0, .int .u64 0, .int .u64 0, .int .u64 0, .int .u64 0, .int .u64 0, .int .u64 0, .int .u64 0, .int .u64 0, .int .u64 0, .int .u64 0, .int .u64 0, .int .u64 0, .int .u64 0, .int .u64 0] 167)).drew.heap[wi.heap.size]? = some (.cells #[.bool false, .int .u64 0, .int .u64 0, .int .u64 0, .int .u64 0, .int .u64 0, .int .u64 0, .int .u64 0, .int .u64 0, .int .u64 0, .int .u64 0, .int .u64 0, .int .u64 0, .int .u64 0, .int .u64 0, .int .u64 0, .int .u64 0, .int .u64 0, .int .u64 0, .int .u64 0, .int .u64 0] 167 (0, 0))) := Lib.hid (heap_alloc_new wi _)
      have hw2 : Hid (((wi.drew.alloc (.cells #[.bool false, .int .u64 0, .int .u64 0, .int .u64 0, .int .u64 0, .int .u64 0, .int .u64 0, .int .u64 0, .int .u64 0, .int .u64 0, .int .u64 0, .int .u64 0, .int .u64 0, .int .u64 0, .int .u64 0, .int .u64 0, .int .u64 0, .int .u64 0, .int .u64 0, .int .u64 0, .int .u64 0] 167)).alloc (.cells #[.bool false, .int .u64 0, .int .u64 0, .int .u64 0, .int .u64 0, .int .u64 0, .int .u64 0, .int .u64 0, .int .u64 0, .int .u64 0, .int .u64 0, .int .u64 0, .int .u64 0, .int .u64 0, .int .u64 0, .int .u64 0, .int .u64 0, .int .u64 0, .int .u64 0, .int .u64 0, .int .u64 0] 167)).heap[wi.heap.size]? = some (.cells #[.bool false, .int .u64 0, .int .u64 0, .int .u64 0, .int .u64 0, .int .u64 0, .int .u64 0, .int .u64 0, .int .u64 0, .int .u64 0, .int .u64 0, .int .u64 0, .int .u64 0, .int .u64 0, .int .u64 0, .int .u64 0, .int .u64 0, .int .u64 0, .int .u64 0, .int .u64 0, .int .u64 0] 167 (0, 0)) ∧ ((wi.drew.alloc (.cells #[.bool false, .int .u64 0, .int .u64 0, .int .u64 0, .int .u64 0, .int .u64 0, .int .u64 0, .int .u64 0, .int .u64 0, .int .u64 0, .int .u64 0, .int .u64 0, .int .u64 0, .int .u64 0, .int .u64 0, .int .u64 0, .int .u64 0, .int .u64 0, .int .u64 0, .int .u64 0, .int .u64 0] 167)).alloc (.cells #[.bool false, .int .u64 0, .int .u64 0, .int .u64 0, .int .u64 0, .int .u64 0, .int .u64 0, .int .u64 0, .int .u64 0, .int .u64 0, .int .u64 0, .int .u64 0, .int .u64 0, .int .u64 0, .int .u64 0, .int .u64 0, .int .u64 0, .int .u64 0, .int .u64 0, .int .u64 0, .int .u64 0] 167)).heap[wi.heap.size + 1]? = some (.cells #[.bool false, .int .u64 0, .int .u64 0, .int .u64 0, .int .u64 0, .int .u64 0, .int .u64 0, .int .u64 0, .int .u64 0, .int .u64 0, .int .u64 0, .int .u64 0, .int .u64 0, .int .u64 0, .int .u64 0, .int .u64 0, .int .u64 0, .int .u64 0, .int .u64 0, .int .u64 0, .int .u64 0] 167 (0, 0))) := Lib.hid ⟨push_one hw1.out _, push_new _ _ (World.size_alloc wi.drew _)⟩
      have hw4 : Hid (((wi.alloc (.cells #[.bool false, .int .u64 0, .int .u64 0, .int .u64 0, .int .u64 0, .int .u64 0, .int .u64 0, .int .u64 0, .int .u64 0, .int .u64 0, .int .u64 0, .int .u64 0, .int .u64 0, .int .u64 0, .int .u64 0, .int .u64 0, .int .u64 0, .int .u64 0, .int .u64 0, .int .u64 0, .int .u64 0] 167)).drew.alloc (.cells #[.bool false, .int .u64 0, .int .u64 0, .int .u64 0, .int .u64 0, .int .u64 0, .int .u64 0, .int .u64 0, .int .u64 0, .int .u64 0, .int .u64 0, .int .u64 0, .int .u64 0, .int .u64 0, .int .u64 0, .int .u64 0, .int .u64 0, .int .u64 0, .int .u64 0, .int .u64 0, .int .u64 0] 167)).heap[wi.heap.size]? = some (.cells #[.bool false, .int .u64 0, .int .u64 0, .int .u64 0, .int .u64 0, .int .u64 0, .int .u64 0, .int .u64 0, .int .u64 0, .int .u64 0, .int .u64 0, .int .u64 0, .int .u64 0, .int .u64 0, .int .u64 0, .int .u64 0, .int .u64 0, .int .u64 0, .int .u64 0, .int .u64 0, .int .u64 0] 167 (0, 0)) ∧ ((wi.alloc (.cells #[.bool false, .int .u64 0, .int .u64 0, .int .u64 0, .int .u64 0, .int .u64 0, .int .u64 0, .int .u64 0, .int .u64 0, .int .u64 0, .int .u64 0, .int .u64 0, .int .u64 0, .int .u64 0, .int .u64 0, .int .u64 0, .int .u64 0, .int .u64 0, .int .u64 0, .int .u64 0, .int .u64 0] 167)).drew.alloc (.cells #[.bool false, .int .u64 0, .int .u64 0, .int .u64 0, .int .u64 0, .int .u64 0, .int .u64 0, .int .u64 0, .int .u64 0, .int .u64 0, .int .u64 0, .int .u64 0, .int .u64 0, .int .u64 0, .int .u64 0, .int .u64 0, .int .u64 0, .int .u64 0, .int .u64 0, .int .u64 0, .int .u64 0] 167)).heap[wi.heap.size + 1]? = some (.cells #[.bool false, .int .u64 0, .int .u64 0, .int .u64 0, .int .u64 0, .int .u64 0, .int .u64 0, .int .u64 0, .int .u64 0, .int .u64 0, .int .u64 0, .int .u64 0, .int .u64 0, .int .u64 0, .int .u64 0, .int .u64 0, .int .u64 0, .int .u64 0, .int .u64 0, .int .u64 0, .int .u64 0] 167 (0, 0))) := Lib.hid ⟨push_one hw3.out _, push_new _ _ (World.size_alloc wi _)⟩
      have hw5 : Hid (((wi.alloc (.cells #[.bool false, .int .u64 0, .int .u64 0, .int .u64 0, .int .u64 0, .int .u64 0, .int .u64 0, .int .u64 0, .int .u64 0, .int .u64 0, .int .u64 0, .int .u64 0, .int .u64 0, .int .u64 0, .int .u64 0, .int .u64 0, .int .u64 0, .int .u64 0, .int .u64 0, .int .u64 0, .int .u64 0] 167)).alloc (.cells #[.bool false, .int .u64 0, .int .u64 0, .int .u64 0, .int .u64 0, .int .u64 0, .int .u64 0, .int .u64 0, .int .u64 0, .int .u64 0, .int .u64 0, .int .u64 0, .int .u64 0, .int .u64 0, .int .u64 0, .int .u64 0, .int .u64 0, .int .u64 0, .int .u64 0, .int .u64 0, .int .u64 0] 167)).drew.heap[wi.heap.size]? = some (.cells #[.bool false, .int .u64 0, .int .u64 0, .int .u64 0, .int .u64 0, .int .u64 0, .int .u64 0, .int .u64 0, .int .u64 0, .int .u64 0, .int .u64 0, .int .u64 0, .int .u64 0, .int .u64 0, .int .u64 0, .int .u64 0, .int .u64 0, .int .u64 0, .int .u64 0, .int .u64 0, .int .u64 0] 167 (0, 0)) ∧ ((wi.alloc (.cells #[.bool false, .int .u64 0, .int .u64 0, .int .u64 0, .int .u64 0, .int .u64 0, .int .u64 0, .int .u64 0, .int .u64 0, .int .u64 0, .int .u64 0, .int .u64 0, .int .u64 0, .int .u64 0, .int .u64 0, .int .u64 0, .int .u64 0, .int .u64 0, .int .u64 0, .int .u64 0, .int .u64 0] 167)).alloc (.cells #[.bool false, .int .u64 0, .int .u64 0, .int .u64 0, .int .u64 0, .int .u64 0, .int .u64 0, .int .u64 0, .int .u64 0, .int .u64 0, .int .u64 0, .int .u64 0, .int .u64 0, .int .u64 0, .int .u64 0, .int .u64 0, .int .u64 0, .int .u64 0, .int .u64 0, .int .u64 0, .int .u64 0] 167)).drew.heap[wi.heap.size + 1]? = some (.cells #[.bool false, .int .u64 0, .int .u64 0, .int .u64 0, .int .u64 0, .int .u64 0, .int .u64 0, .int .u64 0, .int .u64 0, .int .u64 0, .int .u64 0, .int .u64 0, .int .u64 0, .int .u64 0, .int .u64 0, .int .u64 0, .int .u64 0, .int .u64 0, .int .u64 0, .int .u64 0, .int .u64 0] 167 (0, 0))) := Lib.hid ⟨push_one (heap_alloc_new wi _) _, push_new _ _ (World.size_alloc wi _)⟩
      go_upto_region 7 with fail
      go_cut [9, 10, 11] from 31 to 37 (fun u9 u10 u11 wx => (∃ g, u9 = .pointer (some ⟨g, 0, none⟩) ∧ wx.heap[g]? = some (.cells lq.toArray 167 (0, 0))) ∧ u11 = .int .i64 0 ∧ Later wi wx)
      case first =>
        go_region_held3 (fun U => U.rangeAt S0 0 lS) ((first | exact hS.out _ (by first | exact hdZ | exact hdZ.alloc _ | exact (hdZ.alloc _).alloc _ | exact hdA.out | exact hdA.out.alloc _ | exact hdA2.out) | exact hS.out _ (by first | exact hK1 | exact hK1.alloc _ | exact (hK1.alloc _).alloc _) | exact hS.out _ (by first | exact hK2 | exact hK2.alloc _ | exact (hK2.alloc _).alloc _) | exact hS.out _ (Later.setRow (by first | exact hK2 | exact hK2.alloc _ | exact (hK2.alloc _).alloc _) (by omega) _) | exact hS.out _ (Later.setRow (Later.setRow (by first | exact hK2 | exact hK2.alloc _ | exact (hK2.alloc _).alloc _) (by omega) _) (by omega) _))) (first | (go_at_call 114; with_reducible refine (hO6.out _).mono ?_; rintro e V1 ⟨rfl, hLa⟩; have hK1 : Later wi V1 := Later.trans (by first | exact hdZ | exact hdZ.alloc _ | exact (hdZ.alloc _).alloc _ | exact hdA.out | exact hdA.out.alloc _ | exact hdA2.out) hLa; have s1 := hK1.size; (try have kz0 : V1.heap[wi.heap.size]? = some (.cells #[.bool false, .int .u64 0, .int .u64 0, .int .u64 0, .int .u64 0, .int .u64 0, .int .u64 0, .int .u64 0, .int .u64 0, .int .u64 0, .int .u64 0, .int .u64 0, .int .u64 0, .int .u64 0, .int .u64 0, .int .u64 0, .int .u64 0, .int .u64 0, .int .u64 0, .int .u64 0, .int .u64 0] 167 (0, 0)) := hLa.row (by first | exact hw1.out | exact hw3.out | exact hw2.out.1 | exact hw4.out.1 | exact hw5.out.1)); (try have kz1 : V1.heap[wi.heap.size + 1]? = some (.cells #[.bool false, .int .u64 0, .int .u64 0, .int .u64 0, .int .u64 0, .int .u64 0, .int .u64 0, .int .u64 0, .int .u64 0, .int .u64 0, .int .u64 0, .int .u64 0, .int .u64 0, .int .u64 0, .int .u64 0, .int .u64 0, .int .u64 0, .int .u64 0, .int .u64 0, .int .u64 0, .int .u64 0] 167 (0, 0)) := hLa.row (by first | exact hw2.out.2 | exact hw4.out.2 | exact hw5.out.2)); (try have n0 := (Array.getElem?_eq_some_iff.1 kz0).1); (try have n4 := (Array.getElem?_eq_some_iff.1 kz1).1)) | (go_at_call 117; with_reducible refine (hDv.out _).mono ?_; rintro e V2 ⟨rfl, hLb⟩; have hK2 : Later wi V2 := Later.trans (by first | exact hK1 | exact hK1.alloc _ | exact (hK1.alloc _).alloc _) hLb; have s2 := hK2.size; have s3 : V1.heap.size ≤ V2.heap.size := (Later.trans (by first | exact Later.refl _ | exact (Later.refl _).alloc _ | exact ((Later.refl _).alloc _).alloc _) hLb).size; (try have kzz0 : V2.heap[wi.heap.size]? = some (.cells #[.bool false, .int .u64 0, .int .u64 0, .int .u64 0, .int .u64 0, .int .u64 0, .int .u64 0, .int .u64 0, .int .u64 0, .int .u64 0, .int .u64 0, .int .u64 0, .int .u64 0, .int .u64 0, .int .u64 0, .int .u64 0, .int .u64 0, .int .u64 0, .int .u64 0, .int .u64 0, .int .u64 0] 167 (0, 0)) := hLb.row (by first | exact kz0 | exact push_one kz0 _)); (try have kzz1 : V2.heap[wi.heap.size + 1]? = some (.cells #[.bool false, .int .u64 0, .int .u64 0, .int .u64 0, .int .u64 0, .int .u64 0, .int .u64 0, .int .u64 0, .int .u64 0, .int .u64 0, .int .u64 0, .int .u64 0, .int .u64 0, .int .u64 0, .int .u64 0, .int .u64 0, .int .u64 0, .int .u64 0, .int .u64 0, .int .u64 0, .int .u64 0] 167 (0, 0)) := hLb.row (by exact kz1)); (try have kzv : V2.heap[V1.heap.size]? = some (.cells #[.bool false, .int .u64 0, .int .u64 0, .int .u64 0, .int .u64 0, .int .u64 0, .int .u64 0, .int .u64 0, .int .u64 0, .int .u64 0, .int .u64 0, .int .u64 0, .int .u64 0, .int .u64 0, .int .u64 0, .int .u64 0, .int .u64 0, .int .u64 0, .int .u64 0, .int .u64 0, .int .u64 0] 167 (0, 0)) := hLb.row (by first | exact heap_alloc_new _ _ | exact push_one (heap_alloc_new _ _) _)); (try have kzw : V2.heap[V1.heap.size + 1]? = some (.cells #[.bool false, .int .u64 0, .int .u64 0, .int .u64 0, .int .u64 0, .int .u64 0, .int .u64 0, .int .u64 0, .int .u64 0, .int .u64 0, .int .u64 0, .int .u64 0, .int .u64 0, .int .u64 0, .int .u64 0, .int .u64 0, .int .u64 0, .int .u64 0, .int .u64 0, .int .u64 0, .int .u64 0] 167 (0, 0)) := hLb.row (by exact push_new _ _ (World.size_alloc _ _))); (try have n1 := (Array.getElem?_eq_some_iff.1 kzv).1); (try have n2 := (Array.getElem?_eq_some_iff.1 kzz0).1); (try (have ep0 := htwo.out ((V2.alloc (.cells #[.bool false, .int .u64 0, .int .u64 0, .int .u64 0, .int .u64 0, .int .u64 0, .int .u64 0, .int .u64 0, .int .u64 0, .int .u64 0, .int .u64 0, .int .u64 0, .int .u64 0, .int .u64 0, .int .u64 0, .int .u64 0, .int .u64 0, .int .u64 0, .int .u64 0, .int .u64 0, .int .u64 0] 167)).alloc (.cells #[.bool false, .int .u64 0, .int .u64 0, .int .u64 0, .int .u64 0, .int .u64 0, .int .u64 0, .int .u64 0, .int .u64 0, .int .u64 0, .int .u64 0, .int .u64 0, .int .u64 0, .int .u64 0, .int .u64 0, .int .u64 0, .int .u64 0, .int .u64 0, .int .u64 0, .int .u64 0, .int .u64 0] 167)) (V2.heap.size) (V2.heap.size + 1) (push_one (heap_alloc_new _ _) _) (push_new _ _ (World.size_alloc _ _)) (by omega); have ea0 := ep0.1; have eb0 := ep0.2; clear ep0)); (try (have eq0 := htwo.out ((V2.alloc (.cells #[.bool false, .int .u64 0, .int .u64 0, .int .u64 0, .int .u64 0, .int .u64 0, .int .u64 0, .int .u64 0, .int .u64 0, .int .u64 0, .int .u64 0, .int .u64 0, .int .u64 0, .int .u64 0, .int .u64 0, .int .u64 0, .int .u64 0, .int .u64 0, .int .u64 0, .int .u64 0, .int .u64 0] 167)).alloc (.cells #[.bool false, .int .u64 0, .int .u64 0, .int .u64 0, .int .u64 0, .int .u64 0, .int .u64 0, .int .u64 0, .int .u64 0, .int .u64 0, .int .u64 0, .int .u64 0, .int .u64 0, .int .u64 0, .int .u64 0, .int .u64 0, .int .u64 0, .int .u64 0, .int .u64 0, .int .u64 0, .int .u64 0] 167)) (V2.heap.size + 1) (V2.heap.size) (push_new _ _ (World.size_alloc _ _)) (push_one (heap_alloc_new _ _) _) (by omega); have ec0 := eq0.1; have ed0 := eq0.2; clear eq0)); (try (have ep1 := htwo.out (V2.alloc (.cells #[.bool false, .int .u64 0, .int .u64 0, .int .u64 0, .int .u64 0, .int .u64 0, .int .u64 0, .int .u64 0, .int .u64 0, .int .u64 0, .int .u64 0, .int .u64 0, .int .u64 0, .int .u64 0, .int .u64 0, .int .u64 0, .int .u64 0, .int .u64 0, .int .u64 0, .int .u64 0, .int .u64 0] 167)) (wi.heap.size) (V2.heap.size) (push_one kzz0 _) (heap_alloc_new _ _) (by omega); have ea1 := ep1.1; have eb1 := ep1.2; clear ep1)); (try (have eq1 := htwo.out (V2.alloc (.cells #[.bool false, .int .u64 0, .int .u64 0, .int .u64 0, .int .u64 0, .int .u64 0, .int .u64 0, .int .u64 0, .int .u64 0, .int .u64 0, .int .u64 0, .int .u64 0, .int .u64 0, .int .u64 0, .int .u64 0, .int .u64 0, .int .u64 0, .int .u64 0, .int .u64 0, .int .u64 0, .int .u64 0] 167)) (V2.heap.size) (wi.heap.size) (heap_alloc_new _ _) (push_one kzz0 _) (by omega); have ec1 := eq1.1; have ed1 := eq1.2; clear eq1)); (try (have ep2 := htwo.out (V2.alloc (.cells #[.bool false, .int .u64 0, .int .u64 0, .int .u64 0, .int .u64 0, .int .u64 0, .int .u64 0, .int .u64 0, .int .u64 0, .int .u64 0, .int .u64 0, .int .u64 0, .int .u64 0, .int .u64 0, .int .u64 0, .int .u64 0, .int .u64 0, .int .u64 0, .int .u64 0, .int .u64 0, .int .u64 0] 167)) (V1.heap.size) (V2.heap.size) (push_one kzv _) (heap_alloc_new _ _) (by omega); have ea2 := ep2.1; have eb2 := ep2.2; clear ep2)); (try (have eq2 := htwo.out (V2.alloc (.cells #[.bool false, .int .u64 0, .int .u64 0, .int .u64 0, .int .u64 0, .int .u64 0, .int .u64 0, .int .u64 0, .int .u64 0, .int .u64 0, .int .u64 0, .int .u64 0, .int .u64 0, .int .u64 0, .int .u64 0, .int .u64 0, .int .u64 0, .int .u64 0, .int .u64 0, .int .u64 0, .int .u64 0] 167)) (V2.heap.size) (V1.heap.size) (heap_alloc_new _ _) (push_one kzv _) (by omega); have ec2 := eq2.1; have ed2 := eq2.2; clear eq2)); (try (have ep3 := htwo.out V2 (wi.heap.size) (wi.heap.size + 1) kzz0 kzz1 (by omega); have ea3 := ep3.1; have eb3 := ep3.2; clear ep3)); (try (have eq3 := htwo.out V2 (wi.heap.size + 1) (wi.heap.size) kzz1 kzz0 (by omega); have ec3 := eq3.1; have ed3 := eq3.2; clear eq3)); (try (have ep4 := htwo.out V2 (wi.heap.size) (V1.heap.size) kzz0 kzv (by omega); have ea4 := ep4.1; have eb4 := ep4.2; clear ep4)); (try (have eq4 := htwo.out V2 (V1.heap.size) (wi.heap.size) kzv kzz0 (by omega); have ec4 := eq4.1; have ed4 := eq4.2; clear eq4)); (try (have ep5 := htwo.out V2 (V1.heap.size) (V1.heap.size + 1) kzv kzw (by omega); have ea5 := ep5.1; have eb5 := ep5.2; clear ep5)); (try (have eq5 := htwo.out V2 (V1.heap.size + 1) (V1.heap.size) kzw kzv (by omega); have ec5 := eq5.1; have ed5 := eq5.2; clear eq5))))
        all_goals
          rename_i JJ KK hj hk hh
          refine hk _ _ (Met.intro (hj _ _ ?_))
          (repeat apply Exists.intro)
          refine ⟨⟨⟨_, rfl, ?_⟩, rfl, ?_⟩, rfl⟩
          · refine (hfin.out _ _ _ ?_ ?_ ?_ ?_ ?_).1
            all_goals first | exact (by first | exact hK2 | exact hK2.alloc _ | exact (hK2.alloc _).alloc _) | omega | assumption | exact heap_alloc_new _ _ | exact push_one (heap_alloc_new _ _) _ | exact push_new _ _ (World.size_alloc _ _) | exact push_one (by assumption) _
          · exact Later.setRow (Later.setRow (by first | exact hK2 | exact hK2.alloc _ | exact (hK2.alloc _).alloc _) (by omega) _) (by omega) _
      case rest =>
      obtain ⟨⟨g, rfl, hg⟩, rfl, hlg⟩ := hcut
      have hgsz : (Try.prog.info? 167).map (·.size) = some lq.toArray.size := by rw [List.size_toArray, szq, ← hn21.out]; exact info_big
      have hqd : q = dv := by rw [← hq.out, ← hsm.out]; exact hdq.out
      have hqb : InW q := by unfold InW; have := hq.out; omega
      clear hS htwo hfin hdA hdA2 hdZ hO6 hDv hw1 hw2 hw3 hw4 hw5
      have hval := wd_val hqb
      have hLb := loW_b q
      have hHb := hiW_b q
      unfold wdV at hTo
      obtain ⟨H, hH⟩ : ∃ n, Hid (hiW q = n) := ⟨_, rfl⟩
      obtain ⟨L, hL⟩ : ∃ n, Hid (loW q = n) := ⟨_, rfl⟩
      rw [hH.out] at hval hHb hTo
      rw [hL.out] at hval hLb hTo
      subst hqd
      replace hsz := Lib.hid hsz
      go_wp2_with (refine wpList_load_row rfl _ _ rfl g rfl _ _ (0, 0) _ hg Try.underlying167 rfl hgsz ?_)
      refine (hTo.out _).mono ?_
      rintro e w5 ⟨rfl, h5⟩
      have hl5 := (hli.trans hlg).trans h5
      clear hTo hg hgsz
      replace hval := Lib.hid hval
      have hcv : (0 = H ∨ H = -1) → rr = true → Hid (wrap64 L = q) := fun hc hr => Lib.hid (by
        have h1 := hval.out
        have h0 := hrr2.out
        rw [hr] at h0
        have h0' := h0.symm
        rw [Bool.and_eq_true, decide_eq_true_eq, decide_eq_true_eq] at h0'
        simp only [wrap64]
        omega)
      have hcase : (rr = false ∧ H ≠ 0 ∧ H ≠ -1) ∨ (rr = false ∧ H = 0 ∧ L > 4611686018427387904) ∨ (rr = true ∧ H = 0 ∧ L ≤ 4611686018427387904) ∨ (rr = false ∧ H = -1 ∧ L < 13835058055282163712) ∨ (rr = true ∧ H = -1 ∧ 13835058055282163712 ≤ L) := by
        have h1 := hval.out
        have h0 := hrr2.out
        by_cases d1 : -4611686018427387904 ≤ q
        · by_cases d2 : q ≤ 4611686018427387904
          · rw [decide_eq_true d1, decide_eq_true d2] at h0
            have : rr = true := h0
            by_cases e : H = 0
            · exact Or.inr (Or.inr (Or.inl ⟨this, e, by omega⟩))
            · exact Or.inr (Or.inr (Or.inr (Or.inr ⟨this, by omega, by omega⟩)))
          · rw [decide_eq_false d2, Bool.and_false] at h0
            by_cases e : H = 0
            · exact Or.inr (Or.inl ⟨h0, e, by omega⟩)
            · exact Or.inl ⟨h0, e, by omega⟩
        · rw [decide_eq_false d1, Bool.false_and] at h0
          by_cases e : H = -1
          · exact Or.inr (Or.inr (Or.inr (Or.inl ⟨h0, e, by omega⟩)))
          · exact Or.inl ⟨h0, by omega, e⟩
      clear hrr2 hval hqb
      rcases hcase with ⟨rfl, hne0, hne1⟩ | ⟨rfl, rfl, hLL⟩ | ⟨rfl, rfl, hLL⟩ | ⟨rfl, rfl, hLL⟩ | ⟨rfl, rfl, hLL⟩
      · have e0 : (H != 0) = true := by simpa using hne0
        have e1 : (H != -1) = true := by simpa using hne1
        clear hcv hne0 hne1
        go_wp2_with fail
        refine bodyPost_ret (v := .tuple #[.int .i64 0, .bool false]) ?_ rfl ⟨rfl, hl5.alloc _⟩
        simp only [results]; go_simp
      · clear hcv
        have hL1 : 4611686018427387904 < L := hLL
        go_wp2_with fail
        refine bodyPost_ret (v := .tuple #[.int .i64 0, .bool false]) ?_ rfl ⟨rfl, hl5.alloc _⟩
        simp only [results]; go_simp
      · replace hcv := hcv (by omega) rfl
        have hL1 : ¬ 4611686018427387904 < L := by omega
        go_wp2_with fail
        rw [show L = q by have := hcv.out; simp only [wrap64] at this; omega]
        refine bodyPost_ret (v := .tuple #[.int .i64 q, .bool true]) ?_ rfl ⟨rfl, hl5.alloc _⟩
        simp only [results]; go_simp
      · clear hcv
        go_wp2_with fail
        refine bodyPost_ret (v := .tuple #[.int .i64 0, .bool false]) ?_ rfl ⟨rfl, hl5.alloc _⟩
        simp only [results]; go_simp
      · replace hcv := hcv (by omega) rfl
        have hL1 : ¬ L < 13835058055282163712 := by omega
        go_wp2_with fail
        rw [hcv.out]
        refine bodyPost_ret (v := .tuple #[.int .i64 q, .bool true]) ?_ rfl ⟨rfl, hl5.alloc _⟩
        simp only [results]; go_simp
end Go.Proofs.Ytackbajbladhhaa
