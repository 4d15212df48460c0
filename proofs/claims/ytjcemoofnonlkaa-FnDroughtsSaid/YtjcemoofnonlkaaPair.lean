/- The contest of two claims. -/
import Derived.Test.YtjcemoofnonlkaaDry
namespace Go.Proofs.Ytjcemoofnonlkaa
set_option linter.unusedSimpArgs false
set_option linter.unusedVariables false
open Go.RowKit

/-- What the first of two claims gets, in halves; what the second gets. -/
def conX (a b w : Int) : Int := 2 * max 0 (min w (a + b) - b) + (min w (a + b) - max 0 (min w (a + b) - b) - max 0 (min w (a + b) - a))
def conY (a b w : Int) : Int := 2 * max 0 (min w (a + b) - a) + (min w (a + b) - max 0 (min w (a + b) - b) - max 0 (min w (a + b) - a))

theorem con_swap (a b w : Int) : conX a b w = conY b a w := by
  unfold conX conY; rw [Int.add_comm a b]; omega
theorem con_bound {a b w : Int} (h1 : 0 ≤ a ∧ a ≤ 1000000000) (h2 : 0 ≤ b ∧ b ≤ 1000000000) (h3 : 0 ≤ w ∧ w ≤ 1000000000) :
    0 ≤ conX a b w ∧ conX a b w ≤ 10000000000 ∧ 0 ≤ conY a b w ∧ conY a b w ≤ 10000000000 := by
  unfold conX conY; omega

theorem contest_any (a b x : Int) (w : World) (h1 : 0 ≤ a ∧ a ≤ 1000000000) (h2 : 0 ≤ b ∧ b ≤ 1000000000) (h3 : 0 ≤ x ∧ x ≤ 1000000000) :
    Calls Try.prog 47 #[.int .i64 a, .int .i64 b, .int .i64 x] w fun e w' => e = .returned (.tuple #[.int .i64 (conX a b x), .int .i64 (conY a b x)]) ∧ w = w' := by
  go_enter Try.func47, Try.ntmps47
  go_wp2
  all_goals go_returns
  all_goals exact ⟨ret_pair (by unfold conX; omega) (by unfold conY; omega), rfl⟩

theorem l16Two_any (a b x : Int) (w : World) (h1 : 0 ≤ a ∧ a ≤ 1000000000) (h2 : 0 ≤ b ∧ b ≤ 1000000000) (h3 : 0 ≤ x ∧ x ≤ 1000000000) :
    Calls Try.prog 45 #[.int .i64 a, .int .i64 b, .int .i64 x] w fun e w' => e = .returned (.tuple #[.int .i64 (conX a b x), .int .i64 (conY a b x)]) ∧ w = w' := by
  go_enter Try.func45, Try.ntmps45
  go_wp2
  all_goals go_returns
  all_goals exact ⟨ret_pair (by unfold conX; omega) (by unfold conY; omega), rfl⟩

def cotX (a b x : Int) : Int := if inB a 0 100000 && inB b 0 100000 && inB x 0 1000000 then conX a b x else 0
def cotY (a b x : Int) : Int := if inB a 0 100000 && inB b 0 100000 && inB x 0 1000000 then conY a b x else 0

theorem implContestOfTwo_any (a b x : Int) (w : World) :
    Calls Try.prog 16 #[.int .i64 a, .int .i64 b, .int .i64 x] w fun e w' => e = .returned (.tuple #[.int .i64 (cotX a b x), .int .i64 (cotY a b x)]) ∧ w = w' := by
  by_cases hin : inB a 0 100000 = true ∧ inB b 0 100000 = true ∧ inB x 0 1000000 = true
  · obtain ⟨h1, h2, h3⟩ := hin
    have k1 := inB_iff.1 h1
    have k2 := inB_iff.1 h2
    have k3 := inB_iff.1 h3
    have HX := hide (show cotX a b x = conX a b x by simp [cotX, h1, h2, h3])
    have HY := hide (show cotY a b x = conY a b x by simp [cotY, h1, h2, h3])
    go_enter Try.func16, Try.ntmps16
    go_wp2_with (first
      | (go_at_call 46; refine (within_any _ _ _ _).mono ?_; rintro e w2 ⟨rfl, rfl⟩)
      | (go_at_call 47; refine (contest_any a b x _ (by omega) (by omega) (by omega)).mono ?_; rintro e w2 ⟨rfl, rfl⟩))
    all_goals go_returns
    all_goals exact ⟨ret_pair HX.out.symm HY.out.symm, rfl⟩
  · have HX := hide (show cotX a b x = 0 by simp only [cotX]; rw [if_neg (by simpa [and_assoc] using hin)])
    have HY := hide (show cotY a b x = 0 by simp only [cotY]; rw [if_neg (by simpa [and_assoc] using hin)])
    go_enter Try.func16, Try.ntmps16
    go_wp2_with (first
      | (go_at_call 46; refine (within_any _ _ _ _).mono ?_; rintro e w2 ⟨rfl, rfl⟩)
      | (go_at_call 47; exfalso; simp_all; done))
    all_goals go_returns
    all_goals exact ⟨ret_pair HX.out.symm HY.out.symm, rfl⟩

theorem specContestOfTwo_any (a b x : Int) (w : World) :
    Calls Try.prog 15 #[.int .i64 a, .int .i64 b, .int .i64 x] w fun e w' => e = .returned (.tuple #[.int .i64 (cotX a b x), .int .i64 (cotY a b x)]) ∧ w = w' := by
  by_cases hin : inB a 0 100000 = true ∧ inB b 0 100000 = true ∧ inB x 0 1000000 = true
  · obtain ⟨h1, h2, h3⟩ := hin
    have k1 := inB_iff.1 h1
    have k2 := inB_iff.1 h2
    have k3 := inB_iff.1 h3
    have HX := hide (show cotX a b x = conX a b x by simp [cotX, h1, h2, h3])
    have HY := hide (show cotY a b x = conY a b x by simp [cotY, h1, h2, h3])
    go_enter Try.func15, Try.ntmps15
    go_wp2_with (first
      | (go_at_call 43; refine (l01In_any _ _ _ _).mono ?_; rintro e w2 ⟨rfl, rfl⟩)
      | (go_at_call 44; refine (l04Water_any _ _).mono ?_; rintro e w2 ⟨rfl, rfl⟩)
      | (go_at_call 45; refine (l16Two_any a b x _ (by omega) (by omega) (by omega)).mono ?_; rintro e w2 ⟨rfl, rfl⟩))
    all_goals go_returns
    all_goals exact ⟨ret_pair HX.out.symm HY.out.symm, rfl⟩
  · have HX := hide (show cotX a b x = 0 by simp only [cotX]; rw [if_neg (by simpa [and_assoc] using hin)])
    have HY := hide (show cotY a b x = 0 by simp only [cotY]; rw [if_neg (by simpa [and_assoc] using hin)])
    go_enter Try.func15, Try.ntmps15
    go_wp2_with (first
      | (go_at_call 43; refine (l01In_any _ _ _ _).mono ?_; rintro e w2 ⟨rfl, rfl⟩)
      | (go_at_call 44; refine (l04Water_any _ _).mono ?_; rintro e w2 ⟨rfl, rfl⟩)
      | (go_at_call 45; exfalso; simp_all; done))
    all_goals go_returns
    all_goals exact ⟨ret_pair HX.out.symm HY.out.symm, rfl⟩

theorem law_ContestOfTwo (a b x : Int) (w : World) :
    Calls Try.prog 3 #[.int .i64 a, .int .i64 b, .int .i64 x] w fun e w' => Rets w (.bool true) e w' := by
  go_enter Try.func3, Try.ntmps3
  go_wp2_with (first
    | (go_at_call 15; refine (specContestOfTwo_any _ _ _ _).mono ?_; rintro e w2 ⟨rfl, rfl⟩)
    | (go_at_call 16; refine (implContestOfTwo_any _ _ _ _).mono ?_; rintro e w2 ⟨rfl, rfl⟩))
  all_goals go_returns
  all_goals exact ⟨rfl, (by repeat first | exact Below.refl _ _ | assumption | (refine belA ?_) | (refine belD ?_) | (refine belN ?_) | (refine belS ?_ (by simp <;> omega)) | (refine belT ?_ (by assumption)))⟩

end Go.Proofs.Ytjcemoofnonlkaa
