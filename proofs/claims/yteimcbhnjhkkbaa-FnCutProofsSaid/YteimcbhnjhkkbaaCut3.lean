/- The narrowest cut. -/
import Derived.Test.YteimcbhnjhkkbaaCut2
namespace Go.Proofs.Yteimcbhnjhkkbaa
set_option linter.unusedSimpArgs false
set_option linter.unusedVariables false
open Go.RowKit

theorem idQ {Q : Ending → World → Prop} : ∀ e w', Q e w' → Q e w' := fun _ _ h => h

def ncL (p : Int) (ts : List T3) (x y : Int) : Nat → Int → Int → Int
  | 0, _, b => b
  | m + 1, s, b => ncL p ts x y m (s + 1) (if isCutM p ts s x y && (decide (b < 0) || decide (cutM p ts s < cutM p ts b)) then s else b)
def narrowM (p : Int) (ts : List T3) (x y : Int) : Int := if twoM p ts x y then ncL p ts x y ((2 : Int) ^ p.toNat).toNat 0 (-1) else -1

theorem twoM_parts {p : Int} {ts : List T3} {x y : Int} (h : twoM p ts x y = true) : (2 ≤ p ∧ p ≤ 8) ∧ (ts.length ≤ 20 ∧ ∀ t ∈ ts, pipeOk p t = true) ∧ (0 ≤ x ∧ x ≤ p - 1) ∧ (0 ≤ y ∧ y ≤ p - 1) ∧ x ≠ y := by
  simp only [twoM, Bool.and_eq_true] at h
  have h1 := netOk_parts h.1.1.1
  have h2 := inB_iff.1 h.1.1.2
  have h3 := inB_iff.1 h.1.2
  exact ⟨⟨h1.1, h1.2.1⟩, h1.2.2, h2, h3, by simpa using h.2⟩

set_option maxRecDepth 100000 in
set_option maxHeartbeats 4000000 in
theorem implNarrowestCut_any (p x y : Int) (a : Option Addr) (cap : Nat) (ts : List T3) (w : World) (hc : Rd3 w a ts) (hn : ts.length ≤ 1048576) :
    Calls Try.prog 12 #[.agg #[.int .i64 p, .slice a ts.length cap], .int .i64 x, .int .i64 y] w fun e w' => Rets w (.int .i64 (narrowM p ts x y)) e w' := by
  have HT := hide (fun W (hb : Below w.heap.size w W) => twoPlaces_any p a cap ts x y W (hc.below hb) hn)
  cases hk : twoM p ts x y with
  | false =>
    have HM := hide (show narrowM p ts x y = -1 by simp [narrowM, hk])
    rw [hk] at HT
    clear hk
    go_enter Try.func12, Try.ntmps12
    go_wp2_with fail
    (with_reducible refine (HT.out _ (belA (Below.refl _ _))).mono ?_)
    rintro e w2 ⟨rfl, hb⟩
    have b0 := belT (belA (Below.refl w.heap.size w)) hb
    go_wp2
    go_ret
    exact ⟨ret_int HM.out.symm, b0⟩
  | true =>
    have hp := (twoM_parts hk).1
    obtain ⟨q1, q2⟩ := pow_bd (show 0 ≤ p by omega) hp.2
    have HM := hide (show narrowM p ts x y = ncL p ts x y ((2 : Int) ^ p.toNat).toNat 0 (-1) by simp [narrowM, hk])
    rw [hk] at HT
    clear hk
    go_enter Try.func12, Try.ntmps12
    go_wp2_with fail
    (with_reducible refine (HT.out _ (belA (Below.refl _ _))).mono ?_)
    rintro e w2 ⟨rfl, hb⟩
    have b0 := belT (belA (Below.refl w.heap.size w)) hb
    have hbk := heap_grow (blk_new w #[.int .i64 p, .slice a ts.length cap] 26) hb
    go_wp2
    go_loopw [7, 8] (fun q i wr => ∃ (k : Nat) (b : Int), (k : Int) ≤ 2 ^ p.toNat ∧ i = .int .i64 k ∧ q = .int .i64 b ∧ b < 256 ∧ -1 ≤ b ∧ wr.heap[w.heap.size]? = some (.cells #[.int .i64 p, .slice a ts.length cap] 26 (0, 0)) ∧ ncL p ts x y ((2 : Int) ^ p.toNat).toNat 0 (-1) = ncL p ts x y (((2 : Int) ^ p.toNat).toNat - k) k b ∧ Below w.heap.size w wr) (fun _ i _ => 256 - (intOf i).toNat)
    case atStart => exact ⟨0, -1, by simp; omega, rfl, rfl, by omega, by omega, hbk, rfl, b0⟩
    case round =>
      obtain ⟨k, b, hk, rfl, rfl, hb256, hb1, hbk', hr, hbel⟩ := hrel
      have HR := hide hr
      clear hr hbk
      have c0 := cell_of_block hbk' 0
      have c1 := cell_of_block hbk' 1
      simp at c0 c1
      have hbl := (Array.getElem?_eq_some_iff.1 hbk').1
      have hcr := hc.below hbel
      by_cases hlt : (k : Int) < 2 ^ p.toNat
      · have HS := hide (show ncL p ts x y (((2 : Int) ^ p.toNat).toNat - k) k b = ncL p ts x y (((2 : Int) ^ p.toNat).toNat - (k + 1)) ((k : Int) + 1) (if isCutM p ts k x y && (decide (b < 0) || decide (cutM p ts k < cutM p ts b)) then k else b) by
          rw [show ((2 : Int) ^ p.toNat).toNat - k = (((2 : Int) ^ p.toNat).toNat - (k + 1)) + 1 by omega]; rfl)
        have H1 := hide (fun W (h : Rd3 W a ts) => implIsCut_any p k x y a cap ts W h hn)
        have H2 := hide (fun W (h : Rd3 W a ts) => implCutWidth_any p k a cap ts W h hn)
        have H3 := hide (fun W (h : Rd3 W a ts) => implCutWidth_any p b a cap ts W h hn)
        generalize isCutM p ts k x y = I at *
        generalize cutM p ts k = C at *
        generalize cutM p ts b = D at *
        cases I
        · go_wp2
          (refine wp_region_g [0, 1, 2, 3, 4, 5, 6, 7, 8, 9, 10, 11, 12, 13, 14, 15, 16, 17] [] (by kernel_rfl) (by kernel_rfl) ?_; simp only [pick, List.map_cons, List.map_nil, Array.getD_eq_getD_getElem?, List.getElem?_toArray, List.getElem?_cons_zero, List.getElem?_cons_succ, Option.getD_some]; (iterate 18 (refine wpG_step (fun K hK => ?_); go_simp; first | (refine hK _ ?_; clear hK K) | (apply Exists.intro; refine ⟨fun _ => ?_, hK _ ?_⟩; ((first | (go_at_call 15; exact H1.out _ (hcr.below (below_grew _ _))) | (go_at_call 14; first | ((with_reducible refine (H2.out _ (hcr.below (below_grew _ _))).mono ?_); exact idQ) | ((with_reducible refine (H3.out _ (hcr.below (below_grew _ _))).mono ?_); exact idQ)))); clear hK K))); refine wpG_nil ?_)
          (refine wpT_end ?_; intro w3 hbr _; obtain ⟨hcb, hfb⟩ := bcell hbr; have hzr := hbr.size; (try simp at hzr); (try (refine ltk (a := w.heap.size) (b := w3.heap.size) ?_ ?_; (focus omega); intro _ _)); (try (refine ltk (a := w.heap.size + 1) (b := w3.heap.size) ?_ ?_; (focus omega); intro _ _)); (try (refine ltk (a := w.heap.size + 2) (b := w3.heap.size) ?_ ?_; (focus omega); intro _ _)); (try (refine ltk (a := w.heap.size + 3) (b := w3.heap.size) ?_ ?_; (focus omega); intro _ _)))
          have hbk3 := heap_grow hbk' hbr
          clear hcb hfb
          go_wp2
          go_roundw
          case rel => exact ⟨k + 1, b, by omega, by go_num, rfl, hb256, hb1, hbk3, by rw [HR.out, HS.out]; simp, (by repeat first | exact Below.refl _ _ | assumption | (refine belA ?_) | (refine belD ?_) | (refine belN ?_) | (refine belS ?_ (by simp <;> omega)) | (refine belT ?_ (by assumption)))⟩
          case measure => simp [intOf]; omega
        · by_cases hbn : b < 0
          · have hbd : decide (b < 0) = true := by simpa using hbn
            go_wp2
            (refine wp_region_g [0, 1, 2, 3, 4, 5, 6, 7, 8, 9, 10, 11, 12, 13, 14, 15, 16, 17] [] (by kernel_rfl) (by kernel_rfl) ?_; simp only [pick, List.map_cons, List.map_nil, Array.getD_eq_getD_getElem?, List.getElem?_toArray, List.getElem?_cons_zero, List.getElem?_cons_succ, Option.getD_some]; (iterate 18 (refine wpG_step (fun K hK => ?_); go_simp; first | (refine hK _ ?_; clear hK K) | (apply Exists.intro; refine ⟨fun _ => ?_, hK _ ?_⟩; ((first | (go_at_call 15; exact H1.out _ (hcr.below (below_grew _ _))) | (go_at_call 14; first | ((with_reducible refine (H2.out _ (hcr.below (below_grew _ _))).mono ?_); exact idQ) | ((with_reducible refine (H3.out _ (hcr.below (below_grew _ _))).mono ?_); exact idQ)))); clear hK K))); refine wpG_nil ?_)
            (refine wpT_end ?_; intro w3 hbr _; obtain ⟨hcb, hfb⟩ := bcell hbr; have hzr := hbr.size; (try simp at hzr); (try (refine ltk (a := w.heap.size) (b := w3.heap.size) ?_ ?_; (focus omega); intro _ _)); (try (refine ltk (a := w.heap.size + 1) (b := w3.heap.size) ?_ ?_; (focus omega); intro _ _)); (try (refine ltk (a := w.heap.size + 2) (b := w3.heap.size) ?_ ?_; (focus omega); intro _ _)); (try (refine ltk (a := w.heap.size + 3) (b := w3.heap.size) ?_ ?_; (focus omega); intro _ _)))
            have hbk3 := heap_grow hbk' hbr
            clear hcb hfb
            go_wp2
            go_roundw
            case rel => exact ⟨k + 1, k, by omega, by go_num, rfl, by omega, by omega, hbk3, by rw [HR.out, HS.out, decide_eq_true (show b < 0 by omega)]; simp, (by repeat first | exact Below.refl _ _ | assumption | (refine belA ?_) | (refine belD ?_) | (refine belN ?_) | (refine belS ?_ (by simp <;> omega)) | (refine belT ?_ (by assumption)))⟩
            case measure => simp [intOf]; omega
          · have hbd : decide (b < 0) = false := by simpa using hbn
            by_cases hCD : C < D
            · have hcd : decide (C < D) = true := by simpa using hCD
              go_wp2
              (refine wp_region_g [0, 1, 2, 3, 4, 5, 6, 7, 8, 9, 10, 11, 12, 13, 14, 15, 16, 17] [] (by kernel_rfl) (by kernel_rfl) ?_; simp only [pick, List.map_cons, List.map_nil, Array.getD_eq_getD_getElem?, List.getElem?_toArray, List.getElem?_cons_zero, List.getElem?_cons_succ, Option.getD_some]; (iterate 18 (refine wpG_step (fun K hK => ?_); go_simp; first | (refine hK _ ?_; clear hK K) | (apply Exists.intro; refine ⟨fun _ => ?_, hK _ ?_⟩; ((first | (go_at_call 15; exact H1.out _ (hcr.below (below_grew _ _))) | (go_at_call 14; first | ((with_reducible refine (H2.out _ (hcr.below (below_grew _ _))).mono ?_); exact idQ) | ((with_reducible refine (H3.out _ (hcr.below (below_grew _ _))).mono ?_); exact idQ)))); clear hK K))); refine wpG_nil ?_)
              (refine wpT_end ?_; intro w3 hbr _; obtain ⟨hcb, hfb⟩ := bcell hbr; have hzr := hbr.size; (try simp at hzr); (try (refine ltk (a := w.heap.size) (b := w3.heap.size) ?_ ?_; (focus omega); intro _ _)); (try (refine ltk (a := w.heap.size + 1) (b := w3.heap.size) ?_ ?_; (focus omega); intro _ _)); (try (refine ltk (a := w.heap.size + 2) (b := w3.heap.size) ?_ ?_; (focus omega); intro _ _)); (try (refine ltk (a := w.heap.size + 3) (b := w3.heap.size) ?_ ?_; (focus omega); intro _ _)))
              have hbk3 := heap_grow hbk' hbr
              clear hcb hfb
              go_wp2
              go_roundw
              case rel => exact ⟨k + 1, k, by omega, by go_num, rfl, by omega, by omega, hbk3, by rw [HR.out, HS.out, decide_eq_true (show C < D by omega)]; simp, (by repeat first | exact Below.refl _ _ | assumption | (refine belA ?_) | (refine belD ?_) | (refine belN ?_) | (refine belS ?_ (by simp <;> omega)) | (refine belT ?_ (by assumption)))⟩
              case measure => simp [intOf]; omega
            · have hcd : decide (C < D) = false := by simpa using hCD
              go_wp2
              (refine wp_region_g [0, 1, 2, 3, 4, 5, 6, 7, 8, 9, 10, 11, 12, 13, 14, 15, 16, 17] [] (by kernel_rfl) (by kernel_rfl) ?_; simp only [pick, List.map_cons, List.map_nil, Array.getD_eq_getD_getElem?, List.getElem?_toArray, List.getElem?_cons_zero, List.getElem?_cons_succ, Option.getD_some]; (iterate 18 (refine wpG_step (fun K hK => ?_); go_simp; first | (refine hK _ ?_; clear hK K) | (apply Exists.intro; refine ⟨fun _ => ?_, hK _ ?_⟩; ((first | (go_at_call 15; exact H1.out _ (hcr.below (below_grew _ _))) | (go_at_call 14; first | ((with_reducible refine (H2.out _ (hcr.below (below_grew _ _))).mono ?_); exact idQ) | ((with_reducible refine (H3.out _ (hcr.below (below_grew _ _))).mono ?_); exact idQ)))); clear hK K))); refine wpG_nil ?_)
              (refine wpT_end ?_; intro w3 hbr _; obtain ⟨hcb, hfb⟩ := bcell hbr; have hzr := hbr.size; (try simp at hzr); (try (refine ltk (a := w.heap.size) (b := w3.heap.size) ?_ ?_; (focus omega); intro _ _)); (try (refine ltk (a := w.heap.size + 1) (b := w3.heap.size) ?_ ?_; (focus omega); intro _ _)); (try (refine ltk (a := w.heap.size + 2) (b := w3.heap.size) ?_ ?_; (focus omega); intro _ _)); (try (refine ltk (a := w.heap.size + 3) (b := w3.heap.size) ?_ ?_; (focus omega); intro _ _)))
              have hbk3 := heap_grow hbk' hbr
              clear hcb hfb
              go_wp2
              go_roundw
              case rel => exact ⟨k + 1, b, by omega, by go_num, rfl, hb256, hb1, hbk3, by rw [HR.out, HS.out, decide_eq_false (show ¬ C < D by omega), decide_eq_false (show ¬ b < 0 by omega)]; simp, (by repeat first | exact Below.refl _ _ | assumption | (refine belA ?_) | (refine belD ?_) | (refine belN ?_) | (refine belS ?_ (by simp <;> omega)) | (refine belT ?_ (by assumption)))⟩
              case measure => simp [intOf]; omega
      · go_wp2
        go_ret
        exact ⟨ret_int (by rw [HM.out, HR.out, show ((2 : Int) ^ p.toNat).toNat - k = 0 by omega]; rfl), hbel⟩


end Go.Proofs.Yteimcbhnjhkkbaa
