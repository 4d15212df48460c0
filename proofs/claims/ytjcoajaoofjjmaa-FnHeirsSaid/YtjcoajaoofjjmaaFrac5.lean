/- The contract of the reference's AddFractions. -/
import Derived.Test.YtjcoajaoofjjmaaFrac4
import Derived.Test.YtjcoajaoofjjmaaReg2
namespace Go.Proofs.Ytjcoajaoofjjmaa
set_option linter.unusedSimpArgs false
set_option linter.unusedVariables false
open Go.RowKit

theorem gcd_div (t b : Int) (hb : 0 < b) : Int.gcd (t / (Int.gcd t b : Int)) (b / (Int.gcd t b : Int)) = 1 := by
  have hg := gcd_pos t b hb
  exact Int.gcd_ediv_gcd_ediv_gcd (by omega)

theorem redM_mk (t b : Int) (ht : 0 ≤ t) (hb : 0 < b) (hb' : b ≤ 100000000) : redM t b = mkM (t / (Int.gcd t b : Int)) (b / (Int.gcd t b : Int)) := by
  have hg := gcd_pos t b hb
  have h1 := gcd_div t b hb
  have hq : 1 ≤ b / (Int.gcd t b : Int) := by
    have : (Int.gcd t b : Int) ≤ b := gcd_le t b hb
    have := Int.ediv_pos_of_pos_of_dvd hb (by omega) (Int.gcd_dvd_right (a := t) (b := b))
    omega
  have hq' : b / (Int.gcd t b : Int) ≤ b := Int.ediv_le_self _ (by omega)
  have ht' : 0 ≤ t / (Int.gcd t b : Int) := Int.ediv_nonneg ht (by omega)
  unfold redM
  generalize (Int.gcd t b : Int) = g at *
  generalize t / g = x at *
  generalize b / g = y at *
  unfold mkM redM
  rw [h1]
  simp only [Int.natCast_one, Int.ediv_one]
  by_cases hx : x ≤ 100000000
  · have e1 : inB x 0 100000000 = true := inB_iff.2 (by omega)
    have e2 : inB y 1 100000000 = true := inB_iff.2 (by omega)
    simp [e1, e2]
  · have e1 : inB x 0 100000000 = false := inB_not.2 (by omega)
    have e2 : frOk x y = false := by
      rw [← Bool.not_eq_true, frOk_iff]; omega
    simp [e1, e2]

set_option maxHeartbeats 2000000 in
theorem specAddFractions_any (a b c d : Int) (w : World) :
    Calls Try.prog 53 #[.agg #[.int .i64 a, .int .i64 b], .agg #[.int .i64 c, .int .i64 d]] w fun e w' => Rets w (frV (addM a b c d)) e w' := by
  by_cases hin : frOk a b = true ∧ frOk c d = true
  · obtain ⟨h1, h2⟩ := hin
    obtain ⟨q0, q1, q2, q3, q4⟩ := fr_bounds h1 h2
    have hR : addM a b c d = redM (a * d + c * b) (b * d) := by simp [addM, h1, h2]
    rw [redM_mk _ _ (by omega) (by omega) (by omega)] at hR
    have hg := gcd_pos (a * d + c * b) (b * d) (by omega)
    have hg' := gcd_le (a * d + c * b) (b * d) (by omega)
    have HR := hide hR
    have HC := hide (fun W => l11Gcd_any (a * d + c * b) (b * d) W (by omega) (by omega) (by omega) (by omega))
    clear hR
    generalize (Int.gcd (a * d + c * b) (b * d) : Int) = g at *
    go_enter Try.func53, Try.ntmps53
    go_wp2_with (first
      | (go_at_call 67; refine (specFractionOk_any _ _ _).mono ?_; rintro e w2 ⟨rfl, hb2⟩; obtain ⟨hc2, hf2⟩ := bcell hb2; have hz2 := hb2.size; (try simp at hz2); (try (refine ltk (a := w.heap.size) (b := w2.heap.size) ?_ ?_; (focus omega); intro _ _)); (try (refine ltk (a := w.heap.size + 1) (b := w2.heap.size) ?_ ?_; (focus omega); intro _ _)); (try (refine ltk (a := w.heap.size + 2) (b := w2.heap.size) ?_ ?_; (focus omega); intro _ _)); (try (refine ltk (a := w.heap.size + 3) (b := w2.heap.size) ?_ ?_; (focus omega); intro _ _)))
      | (go_at_call 60; refine (HC.out _).mono ?_; rintro e w2 ⟨rfl, hb2⟩; obtain ⟨hc2, hf2⟩ := bcell hb2; have hz2 := hb2.size; (try simp at hz2); (try (refine ltk (a := w.heap.size) (b := w2.heap.size) ?_ ?_; (focus omega); intro _ _)); (try (refine ltk (a := w.heap.size + 1) (b := w2.heap.size) ?_ ?_; (focus omega); intro _ _)); (try (refine ltk (a := w.heap.size + 2) (b := w2.heap.size) ?_ ?_; (focus omega); intro _ _)); (try (refine ltk (a := w.heap.size + 3) (b := w2.heap.size) ?_ ?_; (focus omega); intro _ _))))
    have hne : ¬ g = 0 := by omega
    have e1 := IntWalk.i64_quo (a * d + c * b) g (by omega)
    have e2 := IntWalk.i64_quo (b * d) g (by omega)
    (refine wp_region_g [0, 1, 2, 3, 4, 5, 6, 7, 8, 9] [10, 11, 12] (by kernel_rfl) (by kernel_rfl) ?_; simp only [pick, List.map_cons, List.map_nil, Array.getD_eq_getD_getElem?, List.getElem?_toArray, List.getElem?_cons_zero, List.getElem?_cons_succ, Option.getD_some]; (iterate 10 (refine wpG_step (fun K hK => ?_); go_simp; first | (refine hK _ ?_; clear hK K) | (apply Exists.intro; refine ⟨fun _ => ?_, hK _ ?_⟩; ((go_at_call 81; exact specMakeFraction_any _ _ _)); clear hK K))); refine wpG_nil ?_)
    (refine wpT_alloc (C := #[.int .i64 0, .int .i64 0]) (T := 25) rfl (fun w => by go_simp) ?_; intro bq hbbq; simp only [Act.put, List.setIfInBounds_toArray, List.set_cons_zero, List.set_cons_succ]; refine wpT_store (C' := #[.int .i64 (oT (mkM ((a * d + c * b) / g) (b * d / g))), .int .i64 (oB (mkM ((a * d + c * b) / g) (b * d / g)))]) rfl hbbq (fun wq hwq => ⟨_, by (have hcq := cell_of_block hwq; have hfq := frozen_of_block hwq; go_simp), store_two hwq⟩) ?_; simp only [Act.put, List.setIfInBounds_toArray, List.set_cons_zero, List.set_cons_succ]; refine wpT_pure (up_block _ _) rfl (fun w => by (go_simp; rfl)) ?_; simp only [Act.put, List.setIfInBounds_toArray, List.set_cons_zero, List.set_cons_succ]; refine wpT_end ?_; intro wr hbwr hhwr; have hcwr := cell_of_block hhwr; have hfwr := frozen_of_block hhwr; have hlwr : bq < wr.heap.size := (Array.getElem?_eq_some_iff.1 hhwr).1; obtain ⟨hcb, hfb⟩ := bcell hbwr; have hzwr := hbwr.size; (try simp at hzwr); (try (refine ltk (a := w.heap.size) (b := wr.heap.size) ?_ ?_; (focus omega); intro _ _)); (try (refine ltk (a := w.heap.size + 1) (b := wr.heap.size) ?_ ?_; (focus omega); intro _ _)); (try (refine ltk (a := w.heap.size + 2) (b := wr.heap.size) ?_ ?_; (focus omega); intro _ _)); (try (refine ltk (a := w.heap.size + 3) (b := wr.heap.size) ?_ ?_; (focus omega); intro _ _)); (try (refine ltk (a := bq) (b := wr.heap.size) ?_ ?_; (focus omega); intro _ _)))
    go_wp2
    refine bodyPost_ret (by simp [results, Try.results53, go_sem, *]; try rfl) rfl ?_
    refine ⟨?_, (by repeat first | exact Below.refl _ _ | assumption | (refine belA ?_) | (refine belD ?_) | (refine belN ?_) | (refine belS ?_ (by simp <;> omega)) | (refine belT ?_ (by assumption)))⟩
    rw [HR.out]
  · have hR : addM a b c d = none := by
      simp only [addM]
      rw [if_neg (by simpa using hin)]
    have HR := hide hR
    clear hR
    go_enter Try.func53, Try.ntmps53
    go_wp2_with (first
      | (go_at_call 67; refine (specFractionOk_any _ _ _).mono ?_; rintro e w2 ⟨rfl, hb2⟩; obtain ⟨hc2, hf2⟩ := bcell hb2; have hz2 := hb2.size; (try simp at hz2); (try (refine ltk (a := w.heap.size) (b := w2.heap.size) ?_ ?_; (focus omega); intro _ _)); (try (refine ltk (a := w.heap.size + 1) (b := w2.heap.size) ?_ ?_; (focus omega); intro _ _)); (try (refine ltk (a := w.heap.size + 2) (b := w2.heap.size) ?_ ?_; (focus omega); intro _ _)); (try (refine ltk (a := w.heap.size + 3) (b := w2.heap.size) ?_ ?_; (focus omega); intro _ _)))
      | (go_at_call 60; exfalso; simp_all; done))
    all_goals refine bodyPost_ret (by simp [results, Try.results53, go_sem, *]; try rfl) rfl ?_
    all_goals (refine ⟨?_, (by repeat first | exact Below.refl _ _ | assumption | (refine belA ?_) | (refine belD ?_) | (refine belN ?_) | (refine belS ?_ (by simp <;> omega)) | (refine belT ?_ (by assumption)))⟩; rw [HR.out]; try simp_all [frV, oT, oB])

end Go.Proofs.Ytjcoajaoofjjmaa
