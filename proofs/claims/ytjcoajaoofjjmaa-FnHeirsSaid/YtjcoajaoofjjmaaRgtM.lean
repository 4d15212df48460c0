/- Rights in plain Lean. -/
import Derived.Test.YtjcoajaoofjjmaaShr
namespace Go.Proofs.Ytjcoajaoofjjmaa
set_option linter.unusedSimpArgs false
set_option linter.unusedVariables false
open Go.RowKit

/-- As the program tests the rights. -/
def rgA : Int → List T3 → Bool
  | _, [] => true
  | p, t :: r => inB t.1 1 999 && decide (p < t.1) && frOk t.2.1 t.2.2 && decide (t.2.1 ≠ 0) && rgA t.1 r
/-- As the reference does. -/
def rgB : Int → List T3 → Bool
  | _, [] => true
  | p, t :: r => inB t.1 1 999 && decide (1 ≤ t.2.1) && decide (p < t.1) && rgB t.1 r

def rightsM (ts : List T3) : Bool := inB ts.length 1 12 && rgA 0 ts && (sumM ts == some (1, 1))

theorem addM_ok {a b c d : Int} {s : Int × Int} (h : addM a b c d = some s) : frOk a b = true ∧ frOk c d = true := by
  simp only [addM] at h
  split at h
  · rename_i h1; simpa using h1
  · cases h

theorem sumL_ok {x y : Int} {ts : List T3} {s : Int × Int} (h : sumL x y ts = some s) : ∀ t ∈ ts, frOk t.2.1 t.2.2 = true := by
  induction ts generalizing x y with
  | nil => intro t ht; cases ht
  | cons t r ih =>
    simp only [sumL] at h
    split at h
    · cases h
    · rename_i q hq
      intro u hu
      rcases List.mem_cons.1 hu with rfl | hu
      · exact (addM_ok hq).2
      · exact ih h u hu

theorem rg_same {ts : List T3} (h : ∀ t ∈ ts, frOk t.2.1 t.2.2 = true) (p : Int) : rgA p ts = rgB p ts := by
  induction ts generalizing p with
  | nil => rfl
  | cons t r ih =>
    have h1 := h t (by simp)
    have h2 := frOk_iff.1 h1
    simp only [rgA, rgB, h1, ih (fun u hu => h u (by simp [hu]))]
    have e : decide (t.2.1 ≠ 0) = decide (1 ≤ t.2.1) := by
      by_cases h0 : t.2.1 = 0
      · simp [h0]
      · have : 1 ≤ t.2.1 := by omega
        simp [h0, this]
    rw [e]
    cases inB t.1 1 999 <;> cases decide (p < t.1) <;> cases decide (1 ≤ t.2.1) <;> rfl

theorem rights_spec (ts : List T3) : (rgB 0 ts && (inB ts.length 1 12 && (sumM ts).isSome && (oT (sumM ts) == 1 && oB (sumM ts) == 1))) = rightsM ts := by
  simp only [rightsM]
  cases hs : sumM ts with
  | none => simp
  | some s =>
    have hl : sumL 0 1 ts = some s := by
      simp only [sumM] at hs; split at hs
      · exact hs
      · cases hs
    rw [rg_same (sumL_ok hl)]
    obtain ⟨s1, s2⟩ := s
    simp only [oT, oB, Option.isSome_some]
    have e : (some (s1, s2) == some ((1 : Int), (1 : Int))) = (s1 == 1 && s2 == 1) := rfl
    rw [e]
    cases rgB 0 ts <;> cases inB (↑ts.length) 1 12 <;> cases (s1 == 1 && s2 == 1) <;> rfl
theorem rights_impl (ts : List T3) (h1 : inB ts.length 1 12 = true) (h2 : rgA 0 ts = true) : ((sumM ts).isSome && (oT (sumM ts) == 1 && oB (sumM ts) == 1)) = rightsM ts := by
  simp only [rightsM, h1, h2]
  cases hs : sumM ts with
  | none => simp
  | some s => obtain ⟨s1, s2⟩ := s; rfl

/-- Whose right stands before the k-th. -/
def prevO (ts : List T3) : Nat → Int
  | 0 => 0
  | k + 1 => (ts.getD k default).1

theorem rgA_no {p x y z : Int} {r : List T3} (h : ¬ (inB x 1 999 = true ∧ p < x ∧ frOk y z = true ∧ y ≠ 0)) : rgA p ((x, y, z) :: r) = false := by
  rw [← Bool.not_eq_true]; intro h2; apply h
  simp only [rgA, Bool.and_eq_true, decide_eq_true_eq] at h2
  exact ⟨h2.1.1.1.1, h2.1.1.1.2, h2.1.1.2, h2.1.2⟩
theorem rgA_yes {p x y z : Int} {r : List T3} (h : inB x 1 999 = true) (h1 : p < x) (h2 : frOk y z = true) (h3 : y ≠ 0) : rgA p ((x, y, z) :: r) = rgA x r := by
  simp [rgA, h, h1, h2, h3]
theorem rgB_no {p x y z : Int} {r : List T3} (h : ¬ (inB x 1 999 = true ∧ 1 ≤ y ∧ p < x)) : rgB p ((x, y, z) :: r) = false := by
  rw [← Bool.not_eq_true]; intro h2; apply h
  simp only [rgB, Bool.and_eq_true, decide_eq_true_eq] at h2
  exact ⟨h2.1.1.1, h2.1.1.2, h2.1.2⟩
theorem rgB_yes {p x y z : Int} {r : List T3} (h : inB x 1 999 = true) (h1 : 1 ≤ y) (h2 : p < x) : rgB p ((x, y, z) :: r) = rgB x r := by
  simp [rgB, h, h1, h2]

end Go.Proofs.Ytjcoajaoofjjmaa
