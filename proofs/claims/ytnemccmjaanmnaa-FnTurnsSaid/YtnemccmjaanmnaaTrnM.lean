/- Turns in plain Lean. -/
import Derived.Test.YtnemccmjaanmnaaT3
namespace Go.Proofs.Ytnemccmjaanmnaa
set_option linter.unusedSimpArgs false
set_option linter.unusedVariables false
open Go.RowKit

/-- The turns are valid: each in the week, none before the last one ended. -/
def trOk : Int → List T3 → Bool
  | _, [] => true
  | p, t :: r => inB t.1 1 999 && decide (0 ≤ t.2.1) && decide (t.2.1 < t.2.2) && decide (t.2.2 ≤ 168) && decide (p ≤ t.2.1) && trOk t.2.2 r

def tsOk (ts : List T3) : Bool := decide (ts.length ≤ 30) && trOk 0 ts

/-- Where the turn before the k-th ends. -/
def prevTo (ts : List T3) : Nat → Int
  | 0 => 0
  | k + 1 => (ts.getD k default).2.2

theorem trOk_no {p : Int} {x y z : Int} {r : List T3} (h : ¬ (inB x 1 999 = true ∧ 0 ≤ y ∧ y < z ∧ z ≤ 168 ∧ p ≤ y)) : trOk p ((x, y, z) :: r) = false := by
  rw [← Bool.not_eq_true]; intro h2; apply h
  simp only [trOk, Bool.and_eq_true, decide_eq_true_eq] at h2
  exact ⟨h2.1.1.1.1.1, h2.1.1.1.1.2, h2.1.1.1.2, h2.1.1.2, h2.1.2⟩
theorem trOk_yes {p : Int} {x y z : Int} {r : List T3} (h : inB x 1 999 = true) (h1 : 0 ≤ y) (h2 : y < z) (h3 : z ≤ 168) (h4 : p ≤ y) : trOk p ((x, y, z) :: r) = trOk z r := by
  simp [trOk, h, h1, h2, h3, h4]

end Go.Proofs.Ytnemccmjaanmnaa
