/- Contracts of the functions over fractions: making one. -/
import Derived.Test.YtjcoajaoofjjmaaFrac
namespace Go.Proofs.Ytjcoajaoofjjmaa
set_option linter.unusedSimpArgs false
set_option linter.unusedVariables false
open Go.RowKit

theorem reduced_of (t b : Int) (h1 : inB t 0 100000000 = true) (h2 : (!inB b 1 100000000) = false) : 0 ≤ t ∧ t ≤ 1000000000000 ∧ 0 < b ∧ b ≤ 1000000000000 := by
  have h1' := inB_iff.1 h1
  have h2' := inB_iff.1 (show inB b 1 100000000 = true by simpa using h2)
  omega


theorem specMakeFraction_any (t b : Int) (w : World) :
    Calls Try.prog 81 #[.int .i64 t, .int .i64 b] w fun e w' => Rets w (frV (mkM t b)) e w' := by
  by_cases hin : inB t 0 100000000 = true ∧ inB b 1 100000000 = true
  · obtain ⟨h1, h2⟩ := hin
    have h1' := inB_iff.1 h1
    have h2' := inB_iff.1 h2
    have hg := gcd_pos t b (by omega)
    have hg' := gcd_le t b (by omega)
    have hR : mkM t b = if frOk (t / (Int.gcd t b : Int)) (b / (Int.gcd t b : Int)) then some (t / (Int.gcd t b : Int), b / (Int.gcd t b : Int)) else none := by
      simp [mkM, h1, h2, redM]
    have HR := hide hR
    have HC := hide (fun W => l11Gcd_any t b W (by omega) (by omega) (by omega) (by omega))
    clear hR
    generalize (Int.gcd t b : Int) = g at *
    go_enter Try.func81, Try.ntmps81
    go_wp2_with (first
      | (go_at_call 57; refine (l01In_any _ _ _ _).mono ?_; rintro e w2 ⟨rfl, rfl⟩)
      | (go_at_call 60; refine (HC.out _).mono ?_; rintro e w2 ⟨rfl, hb2⟩; obtain ⟨hc2, hf2⟩ := bcell hb2; have hz2 := hb2.size; (try simp at hz2); (try (refine ltk (a := w.heap.size) (b := w2.heap.size) ?_ ?_; (focus omega); intro _ _)); (try (refine ltk (a := w.heap.size + 1) (b := w2.heap.size) ?_ ?_; (focus omega); intro _ _)); (try (refine ltk (a := w.heap.size + 2) (b := w2.heap.size) ?_ ?_; (focus omega); intro _ _)); (try (refine ltk (a := w.heap.size + 3) (b := w2.heap.size) ?_ ?_; (focus omega); intro _ _))))
    go_region
    go_wp2_with (first | (go_at_call 67; refine (specFractionOk_any _ _ _).mono ?_; rintro e w2 ⟨rfl, hb2⟩; obtain ⟨hc2, hf2⟩ := bcell hb2; have hz2 := hb2.size; (try simp at hz2); (try (refine ltk (a := w.heap.size) (b := w2.heap.size) ?_ ?_; (focus omega); intro _ _)); (try (refine ltk (a := w.heap.size + 1) (b := w2.heap.size) ?_ ?_; (focus omega); intro _ _)); (try (refine ltk (a := w.heap.size + 2) (b := w2.heap.size) ?_ ?_; (focus omega); intro _ _)); (try (refine ltk (a := w.heap.size + 3) (b := w2.heap.size) ?_ ?_; (focus omega); intro _ _))))
    all_goals refine bodyPost_ret (by simp [results, Try.results81, go_sem, *]; try rfl) rfl ?_
    all_goals (refine ⟨?_, (by repeat first | exact Below.refl _ _ | assumption | (refine belA ?_) | (refine belD ?_) | (refine belN ?_) | (refine belS ?_ (by simp <;> omega)) | (refine belT ?_ (by assumption)))⟩; rw [HR.out]; try simp_all [frV, oT, oB])
  · have hR : mkM t b = none := by
      simp only [mkM]
      rw [if_neg (by simpa using hin)]
    have HR := hide hR
    clear hR
    go_enter Try.func81, Try.ntmps81
    go_wp2_with (first
      | (go_at_call 57; refine (l01In_any _ _ _ _).mono ?_; rintro e w2 ⟨rfl, rfl⟩)
      | (go_at_call 60; exfalso; simp_all; done))
    all_goals refine bodyPost_ret (by simp [results, Try.results81, go_sem, *]; try rfl) rfl ?_
    all_goals (refine ⟨?_, (by repeat first | exact Below.refl _ _ | assumption | (refine belA ?_) | (refine belD ?_) | (refine belN ?_) | (refine belS ?_ (by simp <;> omega)) | (refine belT ?_ (by assumption)))⟩; rw [HR.out]; try simp_all [frV, oT, oB])

end Go.Proofs.Ytjcoajaoofjjmaa
