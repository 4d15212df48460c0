/- Contracts of the functions over fractions: sums, comparing, parts. -/
import Derived.Test.YtjcoajaoofjjmaaFrac3
namespace Go.Proofs.Ytjcoajaoofjjmaa
set_option linter.unusedSimpArgs false
set_option linter.unusedVariables false
open Go.RowKit

theorem implAddFractions_any (a b c d : Int) (w : World) :
    Calls Try.prog 55 #[.agg #[.int .i64 a, .int .i64 b], .agg #[.int .i64 c, .int .i64 d]] w fun e w' => Rets w (frV (addM a b c d)) e w' := by
  by_cases hin : frOk a b = true ∧ frOk c d = true
  · obtain ⟨h1, h2⟩ := hin
    obtain ⟨q0, q1, q2, q3, q4⟩ := fr_bounds h1 h2
    have hR : addM a b c d = redM (a * d + c * b) (b * d) := by simp [addM, h1, h2]
    have HR := hide hR
    clear hR
    go_enter Try.func55, Try.ntmps55
    go_wp2_with (first
      | (go_at_call 59; refine (implFractionOk_any _ _ _).mono ?_; rintro e w2 ⟨rfl, hb2⟩; obtain ⟨hc2, hf2⟩ := bcell hb2; have hz2 := hb2.size; (try simp at hz2); (try (refine ltk (a := w.heap.size) (b := w2.heap.size) ?_ ?_; (focus omega); intro _ _)); (try (refine ltk (a := w.heap.size + 1) (b := w2.heap.size) ?_ ?_; (focus omega); intro _ _)); (try (refine ltk (a := w.heap.size + 2) (b := w2.heap.size) ?_ ?_; (focus omega); intro _ _)); (try (refine ltk (a := w.heap.size + 3) (b := w2.heap.size) ?_ ?_; (focus omega); intro _ _)))
      | (go_at_call 80; refine (reduced_any (a * d + c * b) (b * d) _ (by omega) (by omega) (by omega) (by omega)).mono ?_; rintro e w2 ⟨rfl, hb2⟩; obtain ⟨hc2, hf2⟩ := bcell hb2; have hz2 := hb2.size; (try simp at hz2); (try (refine ltk (a := w.heap.size) (b := w2.heap.size) ?_ ?_; (focus omega); intro _ _)); (try (refine ltk (a := w.heap.size + 1) (b := w2.heap.size) ?_ ?_; (focus omega); intro _ _)); (try (refine ltk (a := w.heap.size + 2) (b := w2.heap.size) ?_ ?_; (focus omega); intro _ _)); (try (refine ltk (a := w.heap.size + 3) (b := w2.heap.size) ?_ ?_; (focus omega); intro _ _))))
    all_goals refine bodyPost_ret (by simp [results, Try.results55, go_sem, *]; try rfl) rfl ?_
    all_goals (refine ⟨?_, (by repeat first | exact Below.refl _ _ | assumption | (refine belA ?_) | (refine belD ?_) | (refine belN ?_) | (refine belS ?_ (by simp <;> omega)) | (refine belT ?_ (by assumption)))⟩; rw [HR.out]; try simp_all [frV, oT, oB])
  · have hR : addM a b c d = none := by
      simp only [addM]
      rw [if_neg (by simpa using hin)]
    have HR := hide hR
    clear hR
    go_enter Try.func55, Try.ntmps55
    go_wp2_with (first
      | (go_at_call 59; refine (implFractionOk_any _ _ _).mono ?_; rintro e w2 ⟨rfl, hb2⟩; obtain ⟨hc2, hf2⟩ := bcell hb2; have hz2 := hb2.size; (try simp at hz2); (try (refine ltk (a := w.heap.size) (b := w2.heap.size) ?_ ?_; (focus omega); intro _ _)); (try (refine ltk (a := w.heap.size + 1) (b := w2.heap.size) ?_ ?_; (focus omega); intro _ _)); (try (refine ltk (a := w.heap.size + 2) (b := w2.heap.size) ?_ ?_; (focus omega); intro _ _)); (try (refine ltk (a := w.heap.size + 3) (b := w2.heap.size) ?_ ?_; (focus omega); intro _ _)))
      | (go_at_call 80; exfalso; simp_all; done))
    all_goals refine bodyPost_ret (by simp [results, Try.results55, go_sem, *]; try rfl) rfl ?_
    all_goals (refine ⟨?_, (by repeat first | exact Below.refl _ _ | assumption | (refine belA ?_) | (refine belD ?_) | (refine belN ?_) | (refine belS ?_ (by simp <;> omega)) | (refine belT ?_ (by assumption)))⟩; rw [HR.out]; try simp_all [frV, oT, oB])


/-- The program compares by 'cmp.Compare'. -/
theorem isNaN_any (x : Int) (w : World) : Calls Try.prog 84 #[.int .i64 x] w fun e w' => e = .returned (.bool false) ∧ w = w' := by
  go_enter Try.func84, Try.ntmps84
  go_wp2
  go_returns
  exact ⟨by simp, rfl⟩
theorem compare_any (x y : Int) (w : World) : Calls Try.prog 66 #[.int .i64 x, .int .i64 y] w fun e w' => e = .returned (.int .i64 (if x < y then -1 else if y < x then 1 else 0)) ∧ w = w' := by
  go_enter Try.func66, Try.ntmps66
  go_wp2_with (first | (go_at_call 84; refine (isNaN_any _ _).mono ?_; rintro e w2 ⟨rfl, rfl⟩))
  all_goals go_returns
  all_goals exact ⟨ret_int (by simp_all), rfl⟩

theorem cmpM_ok {a b c d : Int} (h1 : frOk a b = true) (h2 : frOk c d = true) : cmpM a b c d = (if a * d < c * b then -1 else if c * b < a * d then 1 else 0) := by simp [cmpM, h1, h2]
theorem cmpM_no {a b c d : Int} (h : ¬ (frOk a b = true ∧ frOk c d = true)) : cmpM a b c d = 0 := by
  simp only [cmpM]; rw [if_neg (by simpa using h)]

theorem cmp_cl {a b c d n : Int} (HR : Hid (cmpM a b c d = (if a * d < c * b then -1 else if c * b < a * d then 1 else 0))) (h : (a * d < c * b ∧ n = -1) ∨ (c * b < a * d ∧ n = 1) ∨ (a * d ≤ c * b ∧ c * b ≤ a * d ∧ n = 0)) : n = cmpM a b c d := by
  rw [HR.out]; split
  · omega
  · split <;> omega

theorem implCompareFractions_any (a b c d : Int) (w : World) :
    Calls Try.prog 62 #[.agg #[.int .i64 a, .int .i64 b], .agg #[.int .i64 c, .int .i64 d]] w fun e w' => Rets w (.int .i64 (cmpM a b c d)) e w' := by
  by_cases hin : frOk a b = true ∧ frOk c d = true
  · obtain ⟨h1, h2⟩ := hin
    obtain ⟨q0, q1, q2, q3, q4⟩ := fr_bounds h1 h2
    have HR := hide (cmpM_ok h1 h2)
    go_enter Try.func62, Try.ntmps62
    go_wp2_with (first
      | (go_at_call 59; refine (implFractionOk_any _ _ _).mono ?_; rintro e w2 ⟨rfl, hb2⟩; obtain ⟨hc2, hf2⟩ := bcell hb2; have hz2 := hb2.size; (try simp at hz2); (try (refine ltk (a := w.heap.size) (b := w2.heap.size) ?_ ?_; (focus omega); intro _ _)); (try (refine ltk (a := w.heap.size + 1) (b := w2.heap.size) ?_ ?_; (focus omega); intro _ _)); (try (refine ltk (a := w.heap.size + 2) (b := w2.heap.size) ?_ ?_; (focus omega); intro _ _)); (try (refine ltk (a := w.heap.size + 3) (b := w2.heap.size) ?_ ?_; (focus omega); intro _ _)))
      | (go_at_call 66; refine (compare_any _ _ _).mono ?_; rintro e w2 ⟨rfl, rfl⟩))
    all_goals go_returns
    all_goals exact ⟨ret_int (cmp_cl HR (by omega)), (by repeat first | exact Below.refl _ _ | assumption | (refine belA ?_) | (refine belD ?_) | (refine belN ?_) | (refine belS ?_ (by simp <;> omega)) | (refine belT ?_ (by assumption)))⟩
  · have HR := hide (cmpM_no hin)
    go_enter Try.func62, Try.ntmps62
    go_wp2_with (first
      | (go_at_call 59; refine (implFractionOk_any _ _ _).mono ?_; rintro e w2 ⟨rfl, hb2⟩; obtain ⟨hc2, hf2⟩ := bcell hb2; have hz2 := hb2.size; (try simp at hz2); (try (refine ltk (a := w.heap.size) (b := w2.heap.size) ?_ ?_; (focus omega); intro _ _)); (try (refine ltk (a := w.heap.size + 1) (b := w2.heap.size) ?_ ?_; (focus omega); intro _ _)); (try (refine ltk (a := w.heap.size + 2) (b := w2.heap.size) ?_ ?_; (focus omega); intro _ _)); (try (refine ltk (a := w.heap.size + 3) (b := w2.heap.size) ?_ ?_; (focus omega); intro _ _)))
      | (go_at_call 66; exfalso; simp_all; done))
    all_goals go_returns
    all_goals exact ⟨ret_int HR.out.symm, (by repeat first | exact Below.refl _ _ | assumption | (refine belA ?_) | (refine belD ?_) | (refine belN ?_) | (refine belS ?_ (by simp <;> omega)) | (refine belT ?_ (by assumption)))⟩

theorem specCompareFractions_any (a b c d : Int) (w : World) :
    Calls Try.prog 50 #[.agg #[.int .i64 a, .int .i64 b], .agg #[.int .i64 c, .int .i64 d]] w fun e w' => Rets w (.int .i64 (cmpM a b c d)) e w' := by
  by_cases hin : frOk a b = true ∧ frOk c d = true
  · obtain ⟨h1, h2⟩ := hin
    obtain ⟨q0, q1, q2, q3, q4⟩ := fr_bounds h1 h2
    have HR := hide (cmpM_ok h1 h2)
    go_enter Try.func50, Try.ntmps50
    go_wp2_with (first
      | (go_at_call 67; refine (specFractionOk_any _ _ _).mono ?_; rintro e w2 ⟨rfl, hb2⟩; obtain ⟨hc2, hf2⟩ := bcell hb2; have hz2 := hb2.size; (try simp at hz2); (try (refine ltk (a := w.heap.size) (b := w2.heap.size) ?_ ?_; (focus omega); intro _ _)); (try (refine ltk (a := w.heap.size + 1) (b := w2.heap.size) ?_ ?_; (focus omega); intro _ _)); (try (refine ltk (a := w.heap.size + 2) (b := w2.heap.size) ?_ ?_; (focus omega); intro _ _)); (try (refine ltk (a := w.heap.size + 3) (b := w2.heap.size) ?_ ?_; (focus omega); intro _ _))))
    all_goals go_returns
    all_goals exact ⟨ret_int (cmp_cl HR (by omega)), (by repeat first | exact Below.refl _ _ | assumption | (refine belA ?_) | (refine belD ?_) | (refine belN ?_) | (refine belS ?_ (by simp <;> omega)) | (refine belT ?_ (by assumption)))⟩
  · have HR := hide (cmpM_no hin)
    go_enter Try.func50, Try.ntmps50
    go_wp2_with (first
      | (go_at_call 67; refine (specFractionOk_any _ _ _).mono ?_; rintro e w2 ⟨rfl, hb2⟩; obtain ⟨hc2, hf2⟩ := bcell hb2; have hz2 := hb2.size; (try simp at hz2); (try (refine ltk (a := w.heap.size) (b := w2.heap.size) ?_ ?_; (focus omega); intro _ _)); (try (refine ltk (a := w.heap.size + 1) (b := w2.heap.size) ?_ ?_; (focus omega); intro _ _)); (try (refine ltk (a := w.heap.size + 2) (b := w2.heap.size) ?_ ?_; (focus omega); intro _ _)); (try (refine ltk (a := w.heap.size + 3) (b := w2.heap.size) ?_ ?_; (focus omega); intro _ _))))
    all_goals first | (exact absurd ⟨by assumption, by assumption⟩ hin) | (go_returns; exact ⟨ret_int HR.out.symm, (by repeat first | exact Below.refl _ _ | assumption | (refine belA ?_) | (refine belD ?_) | (refine belN ?_) | (refine belS ?_ (by simp <;> omega)) | (refine belT ?_ (by assumption)))⟩)

theorem implPartOf_any (a b n : Int) (w : World) :
    Calls Try.prog 63 #[.agg #[.int .i64 a, .int .i64 b], .int .i64 n] w fun e w' => Rets w (.int .i64 (partM a b n)) e w' := by
  by_cases hin : frOk a b = true ∧ inB n 0 1000000 = true
  · obtain ⟨h1, h2⟩ := hin
    obtain ⟨k1, k2, k3, k4, _⟩ := frOk_iff.1 h1
    have k5 := inB_iff.1 h2
    have k6 := mul_bound k5.1 k5.2 k3 k4
    have HR := hide (show partM a b n = n * a / b by simp [partM, h1, h2])
    go_enter Try.func63, Try.ntmps63
    go_wp2_with (first
      | (go_at_call 59; refine (implFractionOk_any _ _ _).mono ?_; rintro e w2 ⟨rfl, hb2⟩; obtain ⟨hc2, hf2⟩ := bcell hb2; have hz2 := hb2.size; (try simp at hz2); (try (refine ltk (a := w.heap.size) (b := w2.heap.size) ?_ ?_; (focus omega); intro _ _)); (try (refine ltk (a := w.heap.size + 1) (b := w2.heap.size) ?_ ?_; (focus omega); intro _ _)); (try (refine ltk (a := w.heap.size + 2) (b := w2.heap.size) ?_ ?_; (focus omega); intro _ _)); (try (refine ltk (a := w.heap.size + 3) (b := w2.heap.size) ?_ ?_; (focus omega); intro _ _)))
      | (go_at_call 58; refine (within_any _ _ _ _).mono ?_; rintro e w2 ⟨rfl, rfl⟩))
    all_goals go_returns
    all_goals exact ⟨ret_int HR.out.symm, (by repeat first | exact Below.refl _ _ | assumption | (refine belA ?_) | (refine belD ?_) | (refine belN ?_) | (refine belS ?_ (by simp <;> omega)) | (refine belT ?_ (by assumption)))⟩
  · have HR := hide (show partM a b n = -1 by simp only [partM]; rw [if_neg (by simpa using hin)])
    go_enter Try.func63, Try.ntmps63
    go_wp2_with (first
      | (go_at_call 59; refine (implFractionOk_any _ _ _).mono ?_; rintro e w2 ⟨rfl, hb2⟩; obtain ⟨hc2, hf2⟩ := bcell hb2; have hz2 := hb2.size; (try simp at hz2); (try (refine ltk (a := w.heap.size) (b := w2.heap.size) ?_ ?_; (focus omega); intro _ _)); (try (refine ltk (a := w.heap.size + 1) (b := w2.heap.size) ?_ ?_; (focus omega); intro _ _)); (try (refine ltk (a := w.heap.size + 2) (b := w2.heap.size) ?_ ?_; (focus omega); intro _ _)); (try (refine ltk (a := w.heap.size + 3) (b := w2.heap.size) ?_ ?_; (focus omega); intro _ _)))
      | (go_at_call 58; refine (within_any _ _ _ _).mono ?_; rintro e w2 ⟨rfl, rfl⟩))
    all_goals first | (go_returns; exact ⟨ret_int HR.out.symm, (by repeat first | exact Below.refl _ _ | assumption | (refine belA ?_) | (refine belD ?_) | (refine belN ?_) | (refine belS ?_ (by simp <;> omega)) | (refine belT ?_ (by assumption)))⟩) | (exfalso; simp_all; done)

theorem specPartOf_any (a b n : Int) (w : World) :
    Calls Try.prog 49 #[.agg #[.int .i64 a, .int .i64 b], .int .i64 n] w fun e w' => Rets w (.int .i64 (partM a b n)) e w' := by
  by_cases hin : frOk a b = true ∧ inB n 0 1000000 = true
  · obtain ⟨h1, h2⟩ := hin
    obtain ⟨k1, k2, k3, k4, _⟩ := frOk_iff.1 h1
    have k5 := inB_iff.1 h2
    have k6 := mul_bound k5.1 k5.2 k3 k4
    have HR := hide (show partM a b n = n * a / b by simp [partM, h1, h2])
    go_enter Try.func49, Try.ntmps49
    go_wp2_with (first
      | (go_at_call 67; refine (specFractionOk_any _ _ _).mono ?_; rintro e w2 ⟨rfl, hb2⟩; obtain ⟨hc2, hf2⟩ := bcell hb2; have hz2 := hb2.size; (try simp at hz2); (try (refine ltk (a := w.heap.size) (b := w2.heap.size) ?_ ?_; (focus omega); intro _ _)); (try (refine ltk (a := w.heap.size + 1) (b := w2.heap.size) ?_ ?_; (focus omega); intro _ _)); (try (refine ltk (a := w.heap.size + 2) (b := w2.heap.size) ?_ ?_; (focus omega); intro _ _)); (try (refine ltk (a := w.heap.size + 3) (b := w2.heap.size) ?_ ?_; (focus omega); intro _ _)))
      | (go_at_call 57; refine (l01In_any _ _ _ _).mono ?_; rintro e w2 ⟨rfl, rfl⟩))
    all_goals go_returns
    all_goals exact ⟨ret_int HR.out.symm, (by repeat first | exact Below.refl _ _ | assumption | (refine belA ?_) | (refine belD ?_) | (refine belN ?_) | (refine belS ?_ (by simp <;> omega)) | (refine belT ?_ (by assumption)))⟩
  · have HR := hide (show partM a b n = -1 by simp only [partM]; rw [if_neg (by simpa using hin)])
    go_enter Try.func49, Try.ntmps49
    go_wp2_with (first
      | (go_at_call 67; refine (specFractionOk_any _ _ _).mono ?_; rintro e w2 ⟨rfl, hb2⟩; obtain ⟨hc2, hf2⟩ := bcell hb2; have hz2 := hb2.size; (try simp at hz2); (try (refine ltk (a := w.heap.size) (b := w2.heap.size) ?_ ?_; (focus omega); intro _ _)); (try (refine ltk (a := w.heap.size + 1) (b := w2.heap.size) ?_ ?_; (focus omega); intro _ _)); (try (refine ltk (a := w.heap.size + 2) (b := w2.heap.size) ?_ ?_; (focus omega); intro _ _)); (try (refine ltk (a := w.heap.size + 3) (b := w2.heap.size) ?_ ?_; (focus omega); intro _ _)))
      | (go_at_call 57; refine (l01In_any _ _ _ _).mono ?_; rintro e w2 ⟨rfl, rfl⟩))
    all_goals first | (go_returns; exact ⟨ret_int HR.out.symm, (by repeat first | exact Below.refl _ _ | assumption | (refine belA ?_) | (refine belD ?_) | (refine belN ?_) | (refine belS ?_ (by simp <;> omega)) | (refine belT ?_ (by assumption)))⟩) | (exfalso; simp_all; done)

theorem implSplitEqually_any (a b n : Int) (w : World) :
    Calls Try.prog 51 #[.agg #[.int .i64 a, .int .i64 b], .int .i64 n] w fun e w' => Rets w (frV (splitM a b n)) e w' := by
  by_cases hin : frOk a b = true ∧ inB n 1 20 = true
  · obtain ⟨h1, h2⟩ := hin
    obtain ⟨k1, k2, k3, k4, _⟩ := frOk_iff.1 h1
    have k5 := inB_iff.1 h2
    have k6 := mul_pos' k1 k5.1
    have k7 := mul_bound (show 0 ≤ b by omega) k2 (show 0 ≤ n by omega) k5.2
    have HR := hide (show splitM a b n = redM a (b * n) by simp [splitM, h1, h2])
    go_enter Try.func51, Try.ntmps51
    go_wp2_with (first
      | (go_at_call 59; refine (implFractionOk_any _ _ _).mono ?_; rintro e w2 ⟨rfl, hb2⟩; obtain ⟨hc2, hf2⟩ := bcell hb2; have hz2 := hb2.size; (try simp at hz2); (try (refine ltk (a := w.heap.size) (b := w2.heap.size) ?_ ?_; (focus omega); intro _ _)); (try (refine ltk (a := w.heap.size + 1) (b := w2.heap.size) ?_ ?_; (focus omega); intro _ _)); (try (refine ltk (a := w.heap.size + 2) (b := w2.heap.size) ?_ ?_; (focus omega); intro _ _)); (try (refine ltk (a := w.heap.size + 3) (b := w2.heap.size) ?_ ?_; (focus omega); intro _ _)))
      | (go_at_call 58; refine (within_any _ _ _ _).mono ?_; rintro e w2 ⟨rfl, rfl⟩)
      | (go_at_call 80; refine (reduced_any a (b * n) _ (by omega) (by omega) (by omega) (by omega)).mono ?_; rintro e w2 ⟨rfl, hb2⟩; obtain ⟨hc2, hf2⟩ := bcell hb2; have hz2 := hb2.size; (try simp at hz2); (try (refine ltk (a := w.heap.size) (b := w2.heap.size) ?_ ?_; (focus omega); intro _ _)); (try (refine ltk (a := w.heap.size + 1) (b := w2.heap.size) ?_ ?_; (focus omega); intro _ _)); (try (refine ltk (a := w.heap.size + 2) (b := w2.heap.size) ?_ ?_; (focus omega); intro _ _)); (try (refine ltk (a := w.heap.size + 3) (b := w2.heap.size) ?_ ?_; (focus omega); intro _ _))))
    all_goals refine bodyPost_ret (by simp [results, Try.results51, go_sem, *]; try rfl) rfl ?_
    all_goals (refine ⟨?_, (by repeat first | exact Below.refl _ _ | assumption | (refine belA ?_) | (refine belD ?_) | (refine belN ?_) | (refine belS ?_ (by simp <;> omega)) | (refine belT ?_ (by assumption)))⟩; rw [HR.out])
  · have HR := hide (show splitM a b n = none by simp only [splitM]; rw [if_neg (by simpa using hin)])
    go_enter Try.func51, Try.ntmps51
    go_wp2_with (first
      | (go_at_call 59; refine (implFractionOk_any _ _ _).mono ?_; rintro e w2 ⟨rfl, hb2⟩; obtain ⟨hc2, hf2⟩ := bcell hb2; have hz2 := hb2.size; (try simp at hz2); (try (refine ltk (a := w.heap.size) (b := w2.heap.size) ?_ ?_; (focus omega); intro _ _)); (try (refine ltk (a := w.heap.size + 1) (b := w2.heap.size) ?_ ?_; (focus omega); intro _ _)); (try (refine ltk (a := w.heap.size + 2) (b := w2.heap.size) ?_ ?_; (focus omega); intro _ _)); (try (refine ltk (a := w.heap.size + 3) (b := w2.heap.size) ?_ ?_; (focus omega); intro _ _)))
      | (go_at_call 58; refine (within_any _ _ _ _).mono ?_; rintro e w2 ⟨rfl, rfl⟩)
      | (go_at_call 80; exfalso; simp_all; done))
    all_goals first | (refine bodyPost_ret (by simp [results, Try.results51, go_sem, *]; try rfl) rfl ?_; refine ⟨?_, (by repeat first | exact Below.refl _ _ | assumption | (refine belA ?_) | (refine belD ?_) | (refine belN ?_) | (refine belS ?_ (by simp <;> omega)) | (refine belT ?_ (by assumption)))⟩; rw [HR.out]; rfl) | (exfalso; simp_all; done)

theorem splitM_mk (a b n : Int) (h1 : frOk a b = true) (h2 : inB n 1 20 = true) : splitM a b n = mkM a (b * n) := by
  obtain ⟨k1, k2, k3, k4, _⟩ := frOk_iff.1 h1
  have k5 := inB_iff.1 h2
  have k6 := mul_pos' k1 k5.1
  have k7 := mul_bound (show 0 ≤ b by omega) k2 (show 0 ≤ n by omega) k5.2
  have e1 : inB a 0 100000000 = true := inB_iff.2 (by omega)
  have e2 : inB (b * n) 1 100000000 = true := inB_iff.2 (by omega)
  simp [splitM, mkM, h1, h2, e1, e2]
theorem specSplitEqually_any (a b n : Int) (w : World) :
    Calls Try.prog 75 #[.agg #[.int .i64 a, .int .i64 b], .int .i64 n] w fun e w' => Rets w (frV (splitM a b n)) e w' := by
  by_cases hin : frOk a b = true ∧ inB n 1 20 = true
  · obtain ⟨h1, h2⟩ := hin
    obtain ⟨k1, k2, k3, k4, _⟩ := frOk_iff.1 h1
    have k5 := inB_iff.1 h2
    have k7 := mul_bound (show 0 ≤ b by omega) k2 (show 0 ≤ n by omega) k5.2
    have HR := hide (splitM_mk a b n h1 h2)
    go_enter Try.func75, Try.ntmps75
    go_wp2_with (first
      | (go_at_call 67; refine (specFractionOk_any _ _ _).mono ?_; rintro e w2 ⟨rfl, hb2⟩; obtain ⟨hc2, hf2⟩ := bcell hb2; have hz2 := hb2.size; (try simp at hz2); (try (refine ltk (a := w.heap.size) (b := w2.heap.size) ?_ ?_; (focus omega); intro _ _)); (try (refine ltk (a := w.heap.size + 1) (b := w2.heap.size) ?_ ?_; (focus omega); intro _ _)); (try (refine ltk (a := w.heap.size + 2) (b := w2.heap.size) ?_ ?_; (focus omega); intro _ _)); (try (refine ltk (a := w.heap.size + 3) (b := w2.heap.size) ?_ ?_; (focus omega); intro _ _)))
      | (go_at_call 57; refine (l01In_any _ _ _ _).mono ?_; rintro e w2 ⟨rfl, rfl⟩)
      | (go_at_call 81; refine (specMakeFraction_any a (b * n) _).mono ?_; rintro e w2 ⟨rfl, hb2⟩; obtain ⟨hc2, hf2⟩ := bcell hb2; have hz2 := hb2.size; (try simp at hz2); (try (refine ltk (a := w.heap.size) (b := w2.heap.size) ?_ ?_; (focus omega); intro _ _)); (try (refine ltk (a := w.heap.size + 1) (b := w2.heap.size) ?_ ?_; (focus omega); intro _ _)); (try (refine ltk (a := w.heap.size + 2) (b := w2.heap.size) ?_ ?_; (focus omega); intro _ _)); (try (refine ltk (a := w.heap.size + 3) (b := w2.heap.size) ?_ ?_; (focus omega); intro _ _))))
    all_goals refine bodyPost_ret (by simp [results, Try.results75, go_sem, *]; try rfl) rfl ?_
    all_goals (refine ⟨?_, (by repeat first | exact Below.refl _ _ | assumption | (refine belA ?_) | (refine belD ?_) | (refine belN ?_) | (refine belS ?_ (by simp <;> omega)) | (refine belT ?_ (by assumption)))⟩; rw [HR.out])
  · have HR := hide (show splitM a b n = none by simp only [splitM]; rw [if_neg (by simpa using hin)])
    go_enter Try.func75, Try.ntmps75
    go_wp2_with (first
      | (go_at_call 67; refine (specFractionOk_any _ _ _).mono ?_; rintro e w2 ⟨rfl, hb2⟩; obtain ⟨hc2, hf2⟩ := bcell hb2; have hz2 := hb2.size; (try simp at hz2); (try (refine ltk (a := w.heap.size) (b := w2.heap.size) ?_ ?_; (focus omega); intro _ _)); (try (refine ltk (a := w.heap.size + 1) (b := w2.heap.size) ?_ ?_; (focus omega); intro _ _)); (try (refine ltk (a := w.heap.size + 2) (b := w2.heap.size) ?_ ?_; (focus omega); intro _ _)); (try (refine ltk (a := w.heap.size + 3) (b := w2.heap.size) ?_ ?_; (focus omega); intro _ _)))
      | (go_at_call 57; refine (l01In_any _ _ _ _).mono ?_; rintro e w2 ⟨rfl, rfl⟩)
      | (go_at_call 81; exfalso; simp_all; done))
    all_goals first | (refine bodyPost_ret (by simp [results, Try.results75, go_sem, *]; try rfl) rfl ?_; refine ⟨?_, (by repeat first | exact Below.refl _ _ | assumption | (refine belA ?_) | (refine belD ?_) | (refine belN ?_) | (refine belS ?_ (by simp <;> omega)) | (refine belT ?_ (by assumption)))⟩; rw [HR.out]; rfl) | (exfalso; simp_all; done)

end Go.Proofs.Ytjcoajaoofjjmaa
