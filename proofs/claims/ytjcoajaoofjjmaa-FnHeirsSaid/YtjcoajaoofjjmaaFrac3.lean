/- Contracts of the functions over fractions: sums, products, comparing, parts. -/
import Derived.Test.YtjcoajaoofjjmaaFrac2
namespace Go.Proofs.Ytjcoajaoofjjmaa
set_option linter.unusedSimpArgs false
set_option linter.unusedVariables false
open Go.RowKit

def timesM (a b c d : Int) : Option (Int × Int) := if frOk a b && frOk c d then redM (a * c) (b * d) else none
def addM (a b c d : Int) : Option (Int × Int) := if frOk a b && frOk c d then redM (a * d + c * b) (b * d) else none
def cmpM (a b c d : Int) : Int := if frOk a b && frOk c d then (if a * d < c * b then -1 else if c * b < a * d then 1 else 0) else 0
def partM (a b n : Int) : Int := if frOk a b && inB n 0 1000000 then n * a / b else -1
def splitM (a b n : Int) : Option (Int × Int) := if frOk a b && inB n 1 20 then redM a (b * n) else none

theorem mul_bound {x y X Y : Int} (hx : 0 ≤ x) (hx' : x ≤ X) (hy : 0 ≤ y) (hy' : y ≤ Y) : 0 ≤ x * y ∧ x * y ≤ X * Y :=
  ⟨Int.mul_nonneg hx hy, Int.mul_le_mul hx' hy' hy (by omega)⟩
theorem mul_pos' {x y : Int} (hx : 1 ≤ x) (hy : 1 ≤ y) : 1 ≤ x * y := by
  have := Int.mul_pos (show 0 < x by omega) (show 0 < y by omega); omega

/-- The bounds of all products of two valid fractions' parts. -/
theorem fr_bounds {a b c d : Int} (h : frOk a b = true) (k : frOk c d = true) :
    (0 ≤ a ∧ a ≤ 10000 ∧ 1 ≤ b ∧ b ≤ 10000 ∧ 0 ≤ c ∧ c ≤ 10000 ∧ 1 ≤ d ∧ d ≤ 10000) ∧
    (0 ≤ a * c ∧ a * c ≤ 100000000) ∧ (0 ≤ a * d ∧ a * d ≤ 100000000) ∧ (0 ≤ c * b ∧ c * b ≤ 100000000) ∧ (1 ≤ b * d ∧ b * d ≤ 100000000) := by
  obtain ⟨h1, h2, h3, h4, _⟩ := frOk_iff.1 h
  obtain ⟨k1, k2, k3, k4, _⟩ := frOk_iff.1 k
  refine ⟨by omega, mul_bound h3 h4 k3 k4, mul_bound h3 h4 (by omega) k2, mul_bound k3 k4 (by omega) h2, ?_, (mul_bound (by omega) h2 (by omega) k2).2⟩
  exact mul_pos' h1 k1

theorem implTimesFraction_any (a b c d : Int) (w : World) :
    Calls Try.prog 71 #[.agg #[.int .i64 a, .int .i64 b], .agg #[.int .i64 c, .int .i64 d]] w fun e w' => Rets w (frV (timesM a b c d)) e w' := by
  by_cases hin : frOk a b = true ∧ frOk c d = true
  · obtain ⟨h1, h2⟩ := hin
    obtain ⟨q0, q1, q2, q3, q4⟩ := fr_bounds h1 h2
    have hR : timesM a b c d = redM (a * c) (b * d) := by simp [timesM, h1, h2]
    have HR := hide hR
    clear hR
    go_enter Try.func71, Try.ntmps71
    go_wp2_with (first
      | (go_at_call 59; refine (implFractionOk_any _ _ _).mono ?_; rintro e w2 ⟨rfl, hb2⟩; obtain ⟨hc2, hf2⟩ := bcell hb2; have hz2 := hb2.size; (try simp at hz2); (try (refine ltk (a := w.heap.size) (b := w2.heap.size) ?_ ?_; (focus omega); intro _ _)); (try (refine ltk (a := w.heap.size + 1) (b := w2.heap.size) ?_ ?_; (focus omega); intro _ _)); (try (refine ltk (a := w.heap.size + 2) (b := w2.heap.size) ?_ ?_; (focus omega); intro _ _)); (try (refine ltk (a := w.heap.size + 3) (b := w2.heap.size) ?_ ?_; (focus omega); intro _ _)))
      | (go_at_call 80; refine (reduced_any (a * c) (b * d) _ q1.1 (by omega) (by omega) (by omega)).mono ?_; rintro e w2 ⟨rfl, hb2⟩; obtain ⟨hc2, hf2⟩ := bcell hb2; have hz2 := hb2.size; (try simp at hz2); (try (refine ltk (a := w.heap.size) (b := w2.heap.size) ?_ ?_; (focus omega); intro _ _)); (try (refine ltk (a := w.heap.size + 1) (b := w2.heap.size) ?_ ?_; (focus omega); intro _ _)); (try (refine ltk (a := w.heap.size + 2) (b := w2.heap.size) ?_ ?_; (focus omega); intro _ _)); (try (refine ltk (a := w.heap.size + 3) (b := w2.heap.size) ?_ ?_; (focus omega); intro _ _))))
    all_goals refine bodyPost_ret (by simp [results, Try.results71, go_sem, *]; try rfl) rfl ?_
    all_goals (refine ⟨?_, (by repeat first | exact Below.refl _ _ | assumption | (refine belA ?_) | (refine belD ?_) | (refine belN ?_) | (refine belS ?_ (by simp <;> omega)) | (refine belT ?_ (by assumption)))⟩; rw [HR.out]; try simp_all [frV, oT, oB])
  · have hR : timesM a b c d = none := by
      simp only [timesM]
      rw [if_neg (by simpa using hin)]
    have HR := hide hR
    clear hR
    go_enter Try.func71, Try.ntmps71
    go_wp2_with (first
      | (go_at_call 59; refine (implFractionOk_any _ _ _).mono ?_; rintro e w2 ⟨rfl, hb2⟩; obtain ⟨hc2, hf2⟩ := bcell hb2; have hz2 := hb2.size; (try simp at hz2); (try (refine ltk (a := w.heap.size) (b := w2.heap.size) ?_ ?_; (focus omega); intro _ _)); (try (refine ltk (a := w.heap.size + 1) (b := w2.heap.size) ?_ ?_; (focus omega); intro _ _)); (try (refine ltk (a := w.heap.size + 2) (b := w2.heap.size) ?_ ?_; (focus omega); intro _ _)); (try (refine ltk (a := w.heap.size + 3) (b := w2.heap.size) ?_ ?_; (focus omega); intro _ _)))
      | (go_at_call 80; exfalso; simp_all; done))
    all_goals refine bodyPost_ret (by simp [results, Try.results71, go_sem, *]; try rfl) rfl ?_
    all_goals (refine ⟨?_, (by repeat first | exact Below.refl _ _ | assumption | (refine belA ?_) | (refine belD ?_) | (refine belN ?_) | (refine belS ?_ (by simp <;> omega)) | (refine belT ?_ (by assumption)))⟩; rw [HR.out]; try simp_all [frV, oT, oB])

theorem timesM_mk (a b c d : Int) (h1 : frOk a b = true) (h2 : frOk c d = true) : timesM a b c d = mkM (a * c) (b * d) := by
  obtain ⟨q0, q1, q2, q3, q4⟩ := fr_bounds h1 h2
  have e1 : inB (a * c) 0 100000000 = true := inB_iff.2 (by omega)
  have e2 : inB (b * d) 1 100000000 = true := inB_iff.2 (by omega)
  simp [timesM, mkM, h1, h2, e1, e2]
theorem specTimesFraction_any (a b c d : Int) (w : World) :
    Calls Try.prog 68 #[.agg #[.int .i64 a, .int .i64 b], .agg #[.int .i64 c, .int .i64 d]] w fun e w' => Rets w (frV (timesM a b c d)) e w' := by
  by_cases hin : frOk a b = true ∧ frOk c d = true
  · obtain ⟨h1, h2⟩ := hin
    obtain ⟨q0, q1, q2, q3, q4⟩ := fr_bounds h1 h2
    have hR := timesM_mk a b c d h1 h2
    have HR := hide hR
    clear hR
    go_enter Try.func68, Try.ntmps68
    go_wp2_with (first
      | (go_at_call 67; refine (specFractionOk_any _ _ _).mono ?_; rintro e w2 ⟨rfl, hb2⟩; obtain ⟨hc2, hf2⟩ := bcell hb2; have hz2 := hb2.size; (try simp at hz2); (try (refine ltk (a := w.heap.size) (b := w2.heap.size) ?_ ?_; (focus omega); intro _ _)); (try (refine ltk (a := w.heap.size + 1) (b := w2.heap.size) ?_ ?_; (focus omega); intro _ _)); (try (refine ltk (a := w.heap.size + 2) (b := w2.heap.size) ?_ ?_; (focus omega); intro _ _)); (try (refine ltk (a := w.heap.size + 3) (b := w2.heap.size) ?_ ?_; (focus omega); intro _ _)))
      | (go_at_call 81; refine (specMakeFraction_any (a * c) (b * d) _).mono ?_; rintro e w2 ⟨rfl, hb2⟩; obtain ⟨hc2, hf2⟩ := bcell hb2; have hz2 := hb2.size; (try simp at hz2); (try (refine ltk (a := w.heap.size) (b := w2.heap.size) ?_ ?_; (focus omega); intro _ _)); (try (refine ltk (a := w.heap.size + 1) (b := w2.heap.size) ?_ ?_; (focus omega); intro _ _)); (try (refine ltk (a := w.heap.size + 2) (b := w2.heap.size) ?_ ?_; (focus omega); intro _ _)); (try (refine ltk (a := w.heap.size + 3) (b := w2.heap.size) ?_ ?_; (focus omega); intro _ _))))
    all_goals refine bodyPost_ret (by simp [results, Try.results68, go_sem, *]; try rfl) rfl ?_
    all_goals (refine ⟨?_, (by repeat first | exact Below.refl _ _ | assumption | (refine belA ?_) | (refine belD ?_) | (refine belN ?_) | (refine belS ?_ (by simp <;> omega)) | (refine belT ?_ (by assumption)))⟩; rw [HR.out]; try simp_all [frV, oT, oB])
  · have hR : timesM a b c d = none := by
      simp only [timesM]
      rw [if_neg (by simpa using hin)]
    have HR := hide hR
    clear hR
    go_enter Try.func68, Try.ntmps68
    go_wp2_with (first
      | (go_at_call 67; refine (specFractionOk_any _ _ _).mono ?_; rintro e w2 ⟨rfl, hb2⟩; obtain ⟨hc2, hf2⟩ := bcell hb2; have hz2 := hb2.size; (try simp at hz2); (try (refine ltk (a := w.heap.size) (b := w2.heap.size) ?_ ?_; (focus omega); intro _ _)); (try (refine ltk (a := w.heap.size + 1) (b := w2.heap.size) ?_ ?_; (focus omega); intro _ _)); (try (refine ltk (a := w.heap.size + 2) (b := w2.heap.size) ?_ ?_; (focus omega); intro _ _)); (try (refine ltk (a := w.heap.size + 3) (b := w2.heap.size) ?_ ?_; (focus omega); intro _ _)))
      | (go_at_call 81; exfalso; simp_all; done))
    all_goals refine bodyPost_ret (by simp [results, Try.results68, go_sem, *]; try rfl) rfl ?_
    all_goals (refine ⟨?_, (by repeat first | exact Below.refl _ _ | assumption | (refine belA ?_) | (refine belD ?_) | (refine belN ?_) | (refine belS ?_ (by simp <;> omega)) | (refine belT ?_ (by assumption)))⟩; rw [HR.out]; try simp_all [frV, oT, oB])

end Go.Proofs.Ytjcoajaoofjjmaa
