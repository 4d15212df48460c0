/- Contracts of the functions over fractions. -/
import Derived.Test.YtjcoajaoofjjmaaBase
import Derived.RegionTactic
import Derived.ChangeAlike
import Derived.BigRegion
namespace Go.Proofs.Ytjcoajaoofjjmaa
set_option linter.unusedSimpArgs false
set_option linter.unusedVariables false
open Go.RowKit

def frOk (t b : Int) : Bool := inB b 1 10000 && inB t 0 10000 && ((Int.gcd t b : Int) == 1)

theorem frOk_iff {t b : Int} : frOk t b = true ↔ 1 ≤ b ∧ b ≤ 10000 ∧ 0 ≤ t ∧ t ≤ 10000 ∧ (Int.gcd t b : Int) = 1 := by
  simp [frOk, inB]; omega

theorem implFractionOk_any (t b : Int) (w : World) :
    Calls Try.prog 59 #[.agg #[.int .i64 t, .int .i64 b]] w fun e w' => Rets w (.bool (frOk t b)) e w' := by
  go_enter Try.func59, Try.ntmps59
  go_wp2_with (first
    | (go_at_call 58; refine (within_any _ _ _ _).mono ?_; rintro e w' ⟨rfl, rfl⟩)
    | (go_at_call 82; have h1 := inB_iff.1 (show inB b 1 10000 = true by assumption); have h2 := inB_iff.1 (show inB t 0 10000 = true by assumption); refine (commonDivisor_any t b _ (by omega) (by omega) (by omega) (by omega)).mono ?_; clear h1 h2; rintro e w' ⟨rfl, hb⟩))
  all_goals go_ret
  all_goals exact ⟨ret_bool (by simp [frOk, *]), (by repeat first | exact Below.refl _ _ | assumption | (refine belA ?_) | (refine belD ?_) | (refine belN ?_) | (refine belS ?_ (by simp <;> omega)) | (refine belT ?_ (by assumption)))⟩

theorem specFractionOk_any (t b : Int) (w : World) :
    Calls Try.prog 67 #[.agg #[.int .i64 t, .int .i64 b]] w fun e w' => Rets w (.bool (frOk t b)) e w' := by
  go_enter Try.func67, Try.ntmps67
  go_wp2_with (first
    | (go_at_call 57; refine (l01In_any _ _ _ _).mono ?_; rintro e w' ⟨rfl, rfl⟩)
    | (go_at_call 60; have h1 := inB_iff.1 (show inB b 1 10000 = true by assumption); have h2 := inB_iff.1 (show inB t 0 10000 = true by assumption); refine (l11Gcd_any t b _ (by omega) (by omega) (by omega) (by omega)).mono ?_; clear h1 h2; rintro e w' ⟨rfl, hb⟩))
  all_goals go_ret
  all_goals exact ⟨ret_bool (by simp [frOk, *]), (by repeat first | exact Below.refl _ _ | assumption | (refine belA ?_) | (refine belD ?_) | (refine belN ?_) | (refine belS ?_ (by simp <;> omega)) | (refine belT ?_ (by assumption)))⟩

theorem toFraction_any (t b : Int) (w : World) :
    Calls Try.prog 40 #[.agg #[.int .i64 t, .int .i64 b]] w fun e w' => Rets w (.agg #[.int .i64 t, .int .i64 b]) e w' := by
  go_enter Try.func40, Try.ntmps40
  go_wp2
  go_returns
  exact ⟨rfl, (by repeat first | exact Below.refl _ _ | assumption | (refine belA ?_) | (refine belD ?_) | (refine belN ?_) | (refine belS ?_ (by simp <;> omega)) | (refine belT ?_ (by assumption)))⟩

theorem eqFraction_any (t b t' b' : Int) (w : World) :
    Calls Try.prog 19 #[.agg #[.int .i64 t, .int .i64 b], .agg #[.int .i64 t', .int .i64 b']] w fun e w' => Rets w (.bool (t == t' && b == b')) e w' := by
  go_enter Try.func19, Try.ntmps19
  go_wp2
  all_goals go_returns
  all_goals exact ⟨ret_bool (by simp_all), (by repeat first | exact Below.refl _ _ | assumption | (refine belA ?_) | (refine belD ?_) | (refine belN ?_) | (refine belS ?_ (by simp <;> omega)) | (refine belT ?_ (by assumption)))⟩

/-- A fraction of two numbers, if it is valid. -/
def redM (t b : Int) : Option (Int × Int) :=
  if frOk (t / (Int.gcd t b : Int)) (b / (Int.gcd t b : Int)) then some (t / (Int.gcd t b : Int), b / (Int.gcd t b : Int)) else none

def oT : Option (Int × Int) → Int | some x => x.1 | none => 0
def oB : Option (Int × Int) → Int | some x => x.2 | none => 0

/-- How a fraction and its bool are returned. -/
abbrev frV (o : Option (Int × Int)) : Value := .tuple #[.agg #[.int .i64 (oT o), .int .i64 (oB o)], .bool o.isSome]

theorem gcd_pos (t b : Int) (hb : 0 < b) : 0 < (Int.gcd t b : Int) := by
  have : Int.gcd t b ≠ 0 := by
    intro h; rw [Int.gcd_eq_zero_iff] at h; omega
  omega

theorem gcd_le (t b : Int) (hb : 0 < b) : (Int.gcd t b : Int) ≤ b := by
  exact Int.le_of_dvd hb (Int.gcd_dvd_right ..)

theorem reduced_any (t b : Int) (w : World) (ht : 0 ≤ t) (ht' : t ≤ 1000000000000) (hb : 0 < b) (hb' : b ≤ 1000000000000) :
    Calls Try.prog 80 #[.int .i64 t, .int .i64 b] w fun e w' => Rets w (frV (redM t b)) e w' := by
  have hg := gcd_pos t b hb
  have hg' := gcd_le t b hb
  have hR : redM t b = if frOk (t / (Int.gcd t b : Int)) (b / (Int.gcd t b : Int)) then some (t / (Int.gcd t b : Int), b / (Int.gcd t b : Int)) else none := rfl
  have HR := hide hR
  have HC := hide (fun W => commonDivisor_any t b W ht (by omega) ht' hb')
  clear hR
  generalize (Int.gcd t b : Int) = g at *
  go_enter Try.func80, Try.ntmps80
  go_wp2_with (first | (go_at_call 82; refine (HC.out _).mono ?_; rintro e w2 ⟨rfl, hb2⟩; obtain ⟨hc2, hf2⟩ := bcell hb2; have hz2 := hb2.size; (try simp at hz2); (try (refine ltk (a := w.heap.size) (b := w2.heap.size) ?_ ?_; (focus omega); intro _ _)); (try (refine ltk (a := w.heap.size + 1) (b := w2.heap.size) ?_ ?_; (focus omega); intro _ _)); (try (refine ltk (a := w.heap.size + 2) (b := w2.heap.size) ?_ ?_; (focus omega); intro _ _)); (try (refine ltk (a := w.heap.size + 3) (b := w2.heap.size) ?_ ?_; (focus omega); intro _ _))))
  go_region
  go_wp2_with (first | (go_at_call 59; refine (implFractionOk_any _ _ _).mono ?_; rintro e w2 ⟨rfl, hb2⟩; obtain ⟨hc2, hf2⟩ := bcell hb2; have hz2 := hb2.size; (try simp at hz2); (try (refine ltk (a := w.heap.size) (b := w2.heap.size) ?_ ?_; (focus omega); intro _ _)); (try (refine ltk (a := w.heap.size + 1) (b := w2.heap.size) ?_ ?_; (focus omega); intro _ _)); (try (refine ltk (a := w.heap.size + 2) (b := w2.heap.size) ?_ ?_; (focus omega); intro _ _)); (try (refine ltk (a := w.heap.size + 3) (b := w2.heap.size) ?_ ?_; (focus omega); intro _ _))))
  all_goals refine bodyPost_ret (by simp [results, Try.results80, go_sem, *]; try rfl) rfl ?_
  all_goals (refine ⟨?_, (by repeat first | exact Below.refl _ _ | assumption | (refine belA ?_) | (refine belD ?_) | (refine belN ?_) | (refine belS ?_ (by simp <;> omega)) | (refine belT ?_ (by assumption)))⟩; rw [HR.out]; try simp_all [frV, oT, oB])

def mkM (t b : Int) : Option (Int × Int) := if inB t 0 100000000 && inB b 1 100000000 then redM t b else none

end Go.Proofs.Ytjcoajaoofjjmaa
