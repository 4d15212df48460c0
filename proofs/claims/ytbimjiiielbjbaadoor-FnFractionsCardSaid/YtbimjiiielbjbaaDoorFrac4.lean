/- Contracts of the functions over fractions: sums, comparing, parts. -/
import Derived.Test.YtbimjiiielbjbaaDoorFrac3
namespace Go.Proofs.YtbimjiiielbjbaaDoor
set_option linter.unusedSimpArgs false
set_option linter.unusedVariables false
open Go.RowKit

theorem implAddFractions_any (a b c d : Int) (w : World) :
    Calls Tryd.prog 10 #[.agg #[.int .i64 a, .int .i64 b], .agg #[.int .i64 c, .int .i64 d]] w fun e w' => Rets w (frV (addM a b c d)) e w' := by
  by_cases hin : frOk a b = true ∧ frOk c d = true
  · obtain ⟨h1, h2⟩ := hin
    obtain ⟨q0, q1, q2, q3, q4⟩ := fr_bounds h1 h2
    have hR : addM a b c d = redM (a * d + c * b) (b * d) := by simp [addM, h1, h2]
    have HR := hide hR
    clear hR
    go_enter Tryd.func10, Tryd.ntmps10
    go_wp2_with (first
      | (go_at_call 12; refine (implFractionOk_any _ _ _).mono ?_; rintro e w2 ⟨rfl, hb2⟩; obtain ⟨hc2, hf2⟩ := bcell hb2; have hz2 := hb2.size; (try simp at hz2); (try (refine ltk (a := w.heap.size) (b := w2.heap.size) ?_ ?_; (focus omega); intro _ _)); (try (refine ltk (a := w.heap.size + 1) (b := w2.heap.size) ?_ ?_; (focus omega); intro _ _)); (try (refine ltk (a := w.heap.size + 2) (b := w2.heap.size) ?_ ?_; (focus omega); intro _ _)); (try (refine ltk (a := w.heap.size + 3) (b := w2.heap.size) ?_ ?_; (focus omega); intro _ _)))
      | (go_at_call 23; refine (reduced_any (a * d + c * b) (b * d) _ (by omega) (by omega) (by omega) (by omega)).mono ?_; rintro e w2 ⟨rfl, hb2⟩; obtain ⟨hc2, hf2⟩ := bcell hb2; have hz2 := hb2.size; (try simp at hz2); (try (refine ltk (a := w.heap.size) (b := w2.heap.size) ?_ ?_; (focus omega); intro _ _)); (try (refine ltk (a := w.heap.size + 1) (b := w2.heap.size) ?_ ?_; (focus omega); intro _ _)); (try (refine ltk (a := w.heap.size + 2) (b := w2.heap.size) ?_ ?_; (focus omega); intro _ _)); (try (refine ltk (a := w.heap.size + 3) (b := w2.heap.size) ?_ ?_; (focus omega); intro _ _))))
    all_goals refine bodyPost_ret (by simp [results, Tryd.results10, go_sem, *]; try rfl) rfl ?_
    all_goals (refine ⟨?_, (by repeat first | exact Below.refl _ _ | assumption | (refine belA ?_) | (refine belD ?_) | (refine belN ?_) | (refine belS ?_ (by simp <;> omega)) | (refine belT ?_ (by assumption)))⟩; rw [HR.out]; try simp_all [frV, oT, oB])
  · have hR : addM a b c d = none := by
      simp only [addM]
      rw [if_neg (by simpa using hin)]
    have HR := hide hR
    clear hR
    go_enter Tryd.func10, Tryd.ntmps10
    go_wp2_with (first
      | (go_at_call 12; refine (implFractionOk_any _ _ _).mono ?_; rintro e w2 ⟨rfl, hb2⟩; obtain ⟨hc2, hf2⟩ := bcell hb2; have hz2 := hb2.size; (try simp at hz2); (try (refine ltk (a := w.heap.size) (b := w2.heap.size) ?_ ?_; (focus omega); intro _ _)); (try (refine ltk (a := w.heap.size + 1) (b := w2.heap.size) ?_ ?_; (focus omega); intro _ _)); (try (refine ltk (a := w.heap.size + 2) (b := w2.heap.size) ?_ ?_; (focus omega); intro _ _)); (try (refine ltk (a := w.heap.size + 3) (b := w2.heap.size) ?_ ?_; (focus omega); intro _ _)))
      | (go_at_call 23; exfalso; simp_all; done))
    all_goals refine bodyPost_ret (by simp [results, Tryd.results10, go_sem, *]; try rfl) rfl ?_
    all_goals (refine ⟨?_, (by repeat first | exact Below.refl _ _ | assumption | (refine belA ?_) | (refine belD ?_) | (refine belN ?_) | (refine belS ?_ (by simp <;> omega)) | (refine belT ?_ (by assumption)))⟩; rw [HR.out]; try simp_all [frV, oT, oB])


/-- The program compares by 'cmp.Compare'. -/
theorem isNaN_any (x : Int) (w : World) : Calls Tryd.prog 33 #[.int .i64 x] w fun e w' => e = .returned (.bool false) ∧ w = w' := by
  go_enter Tryd.func33, Tryd.ntmps33
  go_wp2
  go_returns
  exact ⟨by simp, rfl⟩
theorem compare_any (x y : Int) (w : World) : Calls Tryd.prog 26 #[.int .i64 x, .int .i64 y] w fun e w' => e = .returned (.int .i64 (if x < y then -1 else if y < x then 1 else 0)) ∧ w = w' := by
  go_enter Tryd.func26, Tryd.ntmps26
  go_wp2_with (first | (go_at_call 33; refine (isNaN_any _ _).mono ?_; rintro e w2 ⟨rfl, rfl⟩))
  all_goals go_returns
  all_goals exact ⟨ret_int (by simp_all), rfl⟩

theorem cmpM_ok {a b c d : Int} (h1 : frOk a b = true) (h2 : frOk c d = true) : cmpM a b c d = (if a * d < c * b then -1 else if c * b < a * d then 1 else 0) := by simp [cmpM, h1, h2]
theorem cmpM_no {a b c d : Int} (h : ¬ (frOk a b = true ∧ frOk c d = true)) : cmpM a b c d = 0 := by
  simp only [cmpM]; rw [if_neg (by simpa using h)]

theorem cmp_cl {a b c d n : Int} (HR : Hid (cmpM a b c d = (if a * d < c * b then -1 else if c * b < a * d then 1 else 0))) (h : (a * d < c * b ∧ n = -1) ∨ (c * b < a * d ∧ n = 1) ∨ (a * d ≤ c * b ∧ c * b ≤ a * d ∧ n = 0)) : n = cmpM a b c d := by
  rw [HR.out]; split
  · omega
  · split <;> omega

theorem implCompareFractions_any (a b c d : Int) (w : World) :
    Calls Tryd.prog 15 #[.agg #[.int .i64 a, .int .i64 b], .agg #[.int .i64 c, .int .i64 d]] w fun e w' => Rets w (.int .i64 (cmpM a b c d)) e w' := by
  by_cases hin : frOk a b = true ∧ frOk c d = true
  · obtain ⟨h1, h2⟩ := hin
    obtain ⟨q0, q1, q2, q3, q4⟩ := fr_bounds h1 h2
    have HR := hide (cmpM_ok h1 h2)
    go_enter Tryd.func15, Tryd.ntmps15
    go_wp2_with (first
      | (go_at_call 12; refine (implFractionOk_any _ _ _).mono ?_; rintro e w2 ⟨rfl, hb2⟩; obtain ⟨hc2, hf2⟩ := bcell hb2; have hz2 := hb2.size; (try simp at hz2); (try (refine ltk (a := w.heap.size) (b := w2.heap.size) ?_ ?_; (focus omega); intro _ _)); (try (refine ltk (a := w.heap.size + 1) (b := w2.heap.size) ?_ ?_; (focus omega); intro _ _)); (try (refine ltk (a := w.heap.size + 2) (b := w2.heap.size) ?_ ?_; (focus omega); intro _ _)); (try (refine ltk (a := w.heap.size + 3) (b := w2.heap.size) ?_ ?_; (focus omega); intro _ _)))
      | (go_at_call 26; refine (compare_any _ _ _).mono ?_; rintro e w2 ⟨rfl, rfl⟩))
    all_goals go_returns
    all_goals exact ⟨ret_int (cmp_cl HR (by omega)), (by repeat first | exact Below.refl _ _ | assumption | (refine belA ?_) | (refine belD ?_) | (refine belN ?_) | (refine belS ?_ (by simp <;> omega)) | (refine belT ?_ (by assumption)))⟩
  · have HR := hide (cmpM_no hin)
    go_enter Tryd.func15, Tryd.ntmps15
    go_wp2_with (first
      | (go_at_call 12; refine (implFractionOk_any _ _ _).mono ?_; rintro e w2 ⟨rfl, hb2⟩; obtain ⟨hc2, hf2⟩ := bcell hb2; have hz2 := hb2.size; (try simp at hz2); (try (refine ltk (a := w.heap.size) (b := w2.heap.size) ?_ ?_; (focus omega); intro _ _)); (try (refine ltk (a := w.heap.size + 1) (b := w2.heap.size) ?_ ?_; (focus omega); intro _ _)); (try (refine ltk (a := w.heap.size + 2) (b := w2.heap.size) ?_ ?_; (focus omega); intro _ _)); (try (refine ltk (a := w.heap.size + 3) (b := w2.heap.size) ?_ ?_; (focus omega); intro _ _)))
      | (go_at_call 26; exfalso; simp_all; done))
    all_goals go_returns
    all_goals exact ⟨ret_int HR.out.symm, (by repeat first | exact Below.refl _ _ | assumption | (refine belA ?_) | (refine belD ?_) | (refine belN ?_) | (refine belS ?_ (by simp <;> omega)) | (refine belT ?_ (by assumption)))⟩


theorem implPartOf_any (a b n : Int) (w : World) :
    Calls Tryd.prog 14 #[.agg #[.int .i64 a, .int .i64 b], .int .i64 n] w fun e w' => Rets w (.int .i64 (partM a b n)) e w' := by
  by_cases hin : frOk a b = true ∧ inB n 0 1000000 = true
  · obtain ⟨h1, h2⟩ := hin
    obtain ⟨k1, k2, k3, k4, _⟩ := frOk_iff.1 h1
    have k5 := inB_iff.1 h2
    have k6 := mul_bound k5.1 k5.2 k3 k4
    have HR := hide (show partM a b n = n * a / b by simp [partM, h1, h2])
    go_enter Tryd.func14, Tryd.ntmps14
    go_wp2_with (first
      | (go_at_call 12; refine (implFractionOk_any _ _ _).mono ?_; rintro e w2 ⟨rfl, hb2⟩; obtain ⟨hc2, hf2⟩ := bcell hb2; have hz2 := hb2.size; (try simp at hz2); (try (refine ltk (a := w.heap.size) (b := w2.heap.size) ?_ ?_; (focus omega); intro _ _)); (try (refine ltk (a := w.heap.size + 1) (b := w2.heap.size) ?_ ?_; (focus omega); intro _ _)); (try (refine ltk (a := w.heap.size + 2) (b := w2.heap.size) ?_ ?_; (focus omega); intro _ _)); (try (refine ltk (a := w.heap.size + 3) (b := w2.heap.size) ?_ ?_; (focus omega); intro _ _)))
      | (go_at_call 24; refine (within_any _ _ _ _).mono ?_; rintro e w2 ⟨rfl, rfl⟩))
    all_goals go_returns
    all_goals exact ⟨ret_int HR.out.symm, (by repeat first | exact Below.refl _ _ | assumption | (refine belA ?_) | (refine belD ?_) | (refine belN ?_) | (refine belS ?_ (by simp <;> omega)) | (refine belT ?_ (by assumption)))⟩
  · have HR := hide (show partM a b n = -1 by simp only [partM]; rw [if_neg (by simpa using hin)])
    go_enter Tryd.func14, Tryd.ntmps14
    go_wp2_with (first
      | (go_at_call 12; refine (implFractionOk_any _ _ _).mono ?_; rintro e w2 ⟨rfl, hb2⟩; obtain ⟨hc2, hf2⟩ := bcell hb2; have hz2 := hb2.size; (try simp at hz2); (try (refine ltk (a := w.heap.size) (b := w2.heap.size) ?_ ?_; (focus omega); intro _ _)); (try (refine ltk (a := w.heap.size + 1) (b := w2.heap.size) ?_ ?_; (focus omega); intro _ _)); (try (refine ltk (a := w.heap.size + 2) (b := w2.heap.size) ?_ ?_; (focus omega); intro _ _)); (try (refine ltk (a := w.heap.size + 3) (b := w2.heap.size) ?_ ?_; (focus omega); intro _ _)))
      | (go_at_call 24; refine (within_any _ _ _ _).mono ?_; rintro e w2 ⟨rfl, rfl⟩))
    all_goals first | (go_returns; exact ⟨ret_int HR.out.symm, (by repeat first | exact Below.refl _ _ | assumption | (refine belA ?_) | (refine belD ?_) | (refine belN ?_) | (refine belS ?_ (by simp <;> omega)) | (refine belT ?_ (by assumption)))⟩) | (exfalso; simp_all; done)




end Go.Proofs.YtbimjiiielbjbaaDoor
