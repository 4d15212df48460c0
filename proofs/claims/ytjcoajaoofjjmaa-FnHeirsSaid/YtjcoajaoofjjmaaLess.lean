/- A fraction less another. -/
import Derived.Test.YtjcoajaoofjjmaaSellM
import Derived.Test.YtjcoajaoofjjmaaFrac5
namespace Go.Proofs.Ytjcoajaoofjjmaa
set_option linter.unusedSimpArgs false
set_option linter.unusedVariables false
open Go.RowKit

set_option maxHeartbeats 1000000 in
theorem lessFraction_any (a b c d : Int) (w : World) :
    Calls Try.prog 72 #[.agg #[.int .i64 a, .int .i64 b], .agg #[.int .i64 c, .int .i64 d]] w fun e w' => Rets w (frV (lessM a b c d)) e w' := by
  by_cases hin : frOk a b = true ∧ frOk c d = true
  · obtain ⟨h1, h2⟩ := hin
    obtain ⟨q0, q1, q2, q3, q4⟩ := fr_bounds h1 h2
    have HC := hide (fun W => implCompareFractions_any a b c d W)
    have hR : lessM a b c d = if 0 ≤ cmpM a b c d then redM (a * d - c * b) (b * d) else none := by simp [lessM, h1, h2]
    have hq : 0 ≤ cmpM a b c d → c * b ≤ a * d := by
      rw [cmpM_ok h1 h2]; split
      · intro h; omega
      · intro _; omega
    have e1 := frOk_iff.1 h1
    have e2 := frOk_iff.1 h2
    have p1 := mul_bound (show 0 ≤ a by omega) (show a ≤ 10000 by omega) (show 0 ≤ d by omega) (show d ≤ 10000 by omega)
    have p2 := mul_bound (show 0 ≤ c by omega) (show c ≤ 10000 by omega) (show 0 ≤ b by omega) (show b ≤ 10000 by omega)
    generalize cmpM a b c d = n at *
    by_cases hn : 0 ≤ n
    · have HR := hide (show lessM a b c d = redM (a * d - c * b) (b * d) by rw [hR, if_pos hn])
      clear hR
      have hq' := hq hn
      have hn' : ¬ n < 0 := by omega
      go_enter Try.func72, Try.ntmps72
      go_wp2_with (first
        | (go_at_call 59; refine (implFractionOk_any _ _ _).mono ?_; rintro e w2 ⟨rfl, hb2⟩; obtain ⟨hc2, hf2⟩ := bcell hb2; have hz2 := hb2.size; (try simp at hz2); (try (refine ltk (a := w.heap.size) (b := w2.heap.size) ?_ ?_; (focus omega); intro _ _)); (try (refine ltk (a := w.heap.size + 1) (b := w2.heap.size) ?_ ?_; (focus omega); intro _ _)); (try (refine ltk (a := w.heap.size + 2) (b := w2.heap.size) ?_ ?_; (focus omega); intro _ _)); (try (refine ltk (a := w.heap.size + 3) (b := w2.heap.size) ?_ ?_; (focus omega); intro _ _)))
        | (go_at_call 62; refine (HC.out _).mono ?_; rintro e w2 ⟨rfl, hb2⟩; obtain ⟨hc2, hf2⟩ := bcell hb2; have hz2 := hb2.size; (try simp at hz2); (try (refine ltk (a := w.heap.size) (b := w2.heap.size) ?_ ?_; (focus omega); intro _ _)); (try (refine ltk (a := w.heap.size + 1) (b := w2.heap.size) ?_ ?_; (focus omega); intro _ _)); (try (refine ltk (a := w.heap.size + 2) (b := w2.heap.size) ?_ ?_; (focus omega); intro _ _)); (try (refine ltk (a := w.heap.size + 3) (b := w2.heap.size) ?_ ?_; (focus omega); intro _ _)))
        | (go_at_call 80; refine (reduced_any (a * d - c * b) (b * d) _ (by omega) (by omega) (by omega) (by omega)).mono ?_; rintro e w2 ⟨rfl, hb2⟩; obtain ⟨hc2, hf2⟩ := bcell hb2; have hz2 := hb2.size; (try simp at hz2); (try (refine ltk (a := w.heap.size) (b := w2.heap.size) ?_ ?_; (focus omega); intro _ _)); (try (refine ltk (a := w.heap.size + 1) (b := w2.heap.size) ?_ ?_; (focus omega); intro _ _)); (try (refine ltk (a := w.heap.size + 2) (b := w2.heap.size) ?_ ?_; (focus omega); intro _ _)); (try (refine ltk (a := w.heap.size + 3) (b := w2.heap.size) ?_ ?_; (focus omega); intro _ _))))
      all_goals refine bodyPost_ret (by simp [results, Try.results72, go_sem, *]; try rfl) rfl ?_
      all_goals (refine ⟨?_, (by repeat first | exact Below.refl _ _ | assumption | (refine belA ?_) | (refine belD ?_) | (refine belN ?_) | (refine belS ?_ (by simp <;> omega)) | (refine belT ?_ (by assumption)))⟩; rw [HR.out]; try simp_all [frV, oT, oB])
    · have hn' : n < 0 := by omega
      have HR := hide (show lessM a b c d = none by rw [hR, if_neg hn])
      clear hq hR
      go_enter Try.func72, Try.ntmps72
      go_wp2_with (first
        | (go_at_call 59; refine (implFractionOk_any _ _ _).mono ?_; rintro e w2 ⟨rfl, hb2⟩; obtain ⟨hc2, hf2⟩ := bcell hb2; have hz2 := hb2.size; (try simp at hz2); (try (refine ltk (a := w.heap.size) (b := w2.heap.size) ?_ ?_; (focus omega); intro _ _)); (try (refine ltk (a := w.heap.size + 1) (b := w2.heap.size) ?_ ?_; (focus omega); intro _ _)); (try (refine ltk (a := w.heap.size + 2) (b := w2.heap.size) ?_ ?_; (focus omega); intro _ _)); (try (refine ltk (a := w.heap.size + 3) (b := w2.heap.size) ?_ ?_; (focus omega); intro _ _)))
        | (go_at_call 62; refine (HC.out _).mono ?_; rintro e w2 ⟨rfl, hb2⟩; obtain ⟨hc2, hf2⟩ := bcell hb2; have hz2 := hb2.size; (try simp at hz2); (try (refine ltk (a := w.heap.size) (b := w2.heap.size) ?_ ?_; (focus omega); intro _ _)); (try (refine ltk (a := w.heap.size + 1) (b := w2.heap.size) ?_ ?_; (focus omega); intro _ _)); (try (refine ltk (a := w.heap.size + 2) (b := w2.heap.size) ?_ ?_; (focus omega); intro _ _)); (try (refine ltk (a := w.heap.size + 3) (b := w2.heap.size) ?_ ?_; (focus omega); intro _ _))))
      all_goals refine bodyPost_ret (by simp [results, Try.results72, go_sem, *]; try rfl) rfl ?_
      all_goals (refine ⟨?_, (by repeat first | exact Below.refl _ _ | assumption | (refine belA ?_) | (refine belD ?_) | (refine belN ?_) | (refine belS ?_ (by simp <;> omega)) | (refine belT ?_ (by assumption)))⟩; rw [HR.out]; try simp_all [frV, oT, oB])
  · have hR : lessM a b c d = none := by
      simp only [lessM]
      rw [if_neg (by simp; intro x y; exact absurd ⟨x, y⟩ hin)]
    have HR := hide hR
    clear hR
    have HC := hide (fun W => implCompareFractions_any a b c d W)
    generalize cmpM a b c d = n at *
    go_enter Try.func72, Try.ntmps72
    go_wp2_with (first
      | (go_at_call 59; refine (implFractionOk_any _ _ _).mono ?_; rintro e w2 ⟨rfl, hb2⟩; obtain ⟨hc2, hf2⟩ := bcell hb2; have hz2 := hb2.size; (try simp at hz2); (try (refine ltk (a := w.heap.size) (b := w2.heap.size) ?_ ?_; (focus omega); intro _ _)); (try (refine ltk (a := w.heap.size + 1) (b := w2.heap.size) ?_ ?_; (focus omega); intro _ _)); (try (refine ltk (a := w.heap.size + 2) (b := w2.heap.size) ?_ ?_; (focus omega); intro _ _)); (try (refine ltk (a := w.heap.size + 3) (b := w2.heap.size) ?_ ?_; (focus omega); intro _ _)))
      | (go_at_call 62; exfalso; simp_all; done)
      | (go_at_call 80; exfalso; simp_all; done))
    all_goals refine bodyPost_ret (by simp [results, Try.results72, go_sem, *]; try rfl) rfl ?_
    all_goals (refine ⟨?_, (by repeat first | exact Below.refl _ _ | assumption | (refine belA ?_) | (refine belD ?_) | (refine belN ?_) | (refine belS ?_ (by simp <;> omega)) | (refine belT ?_ (by assumption)))⟩; rw [HR.out]; try simp_all [frV, oT, oB])

end Go.Proofs.Ytjcoajaoofjjmaa
