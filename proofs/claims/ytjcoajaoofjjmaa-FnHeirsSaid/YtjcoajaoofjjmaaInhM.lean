/- Heirs, in plain Lean. -/
import Derived.Test.YtjcoajaoofjjmaaSpsM
import Derived.Test.YtjcoajaoofjjmaaInts2
namespace Go.Proofs.Ytjcoajaoofjjmaa
set_option linter.unusedSimpArgs false
set_option linter.unusedVariables false
set_option linter.unnecessarySimpa false

def risB : Int → List Int → Bool
  | _, [] => true
  | pr, h :: r => inB h 1 999 && decide (pr < h) && risB h r
def addAll (p q : Int) : List Int → List T3 → Option (List T3)
  | [], us => some us
  | h :: r, us => match addShM us h p q with
    | some vs => addAll p q r vs
    | none => none
def hasO (o : Int) : List Int → Bool
  | [] => false
  | h :: r => h == o || hasO o r

theorem heirL_eq (o p q : Int) : ∀ (hs : List Int) (pr : Int) (us : List T3), heirL o p q pr hs us = if risB pr hs && !hasO o hs then addAll p q hs us else none
  | [], pr, us => by simp [heirL, risB, hasO, addAll]
  | h :: r, pr, us => by
    have ih := fun vs => heirL_eq o p q r h vs
    simp only [heirL, risB, hasO, addAll]
    by_cases hc : inB h 1 999 = true ∧ ¬ h = o ∧ pr < h
    · obtain ⟨h1, h2, h3⟩ := hc
      have e : (h == o) = false := by simpa using h2
      simp only [h1, h2, h3, e, decide_true, Bool.and_self, Bool.true_and, Bool.false_or, ne_eq, not_false_eq_true, if_true]
      cases ha : addShM us h p q with
      | none => simp
      | some vs => simp only [ih vs]
    · have e1 : (inB h 1 999 && decide (h ≠ o) && decide (pr < h)) = false := by
        rw [Bool.eq_false_iff]; intro hx
        simp only [Bool.and_eq_true, decide_eq_true_eq] at hx
        exact hc ⟨hx.1.1, hx.1.2, hx.2⟩
      have e2 : (inB h 1 999 && decide (pr < h) && risB h r && !(h == o || hasO o r)) = false := by
        rw [Bool.eq_false_iff]; intro hx
        simp only [Bool.and_eq_true, decide_eq_true_eq, Bool.not_eq_true', Bool.or_eq_false_iff] at hx
        exact hc ⟨hx.1.1.1, by simpa using hx.2.1, hx.1.1.2⟩
      rw [if_neg (by rw [e1]; simp)]
      exact (if_neg (by rw [e2]; simp)).symm

theorem split_pos {a b n : Int} {s : Int × Int} (ha : 1 ≤ a) (h : splitM a b n = some s) : ¬ s.1 = 0 := by
  unfold splitM at h
  split at h
  · rename_i h1
    simp only [Bool.and_eq_true] at h1
    have e1 := frOk_iff.1 h1.1
    have e2 := inB_iff.1 h1.2
    obtain ⟨e, hf⟩ := redM_eq h (Int.mul_pos (by omega) (by omega))
    have e3 := frOk_iff.1 hf
    intro h0
    rw [h0, Int.zero_mul] at e
    have := Int.mul_pos (show 0 < s.2 by omega) (show 0 < a by omega)
    omega
  · cases h

theorem risB_step (pr : Int) (hs : List Int) (k : Nat) (h : k < hs.length) : risB pr (hs.drop k) = (inB (hs.getD k 0) 1 999 && decide (pr < hs.getD k 0) && risB (hs.getD k 0) (hs.drop (k + 1))) := by
  rw [List.drop_eq_getElem_cons h]
  simp [risB, List.getD_eq_getElem?_getD, h]
theorem hasO_step (o : Int) (hs : List Int) (k : Nat) (h : k < hs.length) : hasO o (hs.drop k) = (hs.getD k 0 == o || hasO o (hs.drop (k + 1))) := by
  rw [List.drop_eq_getElem_cons h]
  simp [hasO, List.getD_eq_getElem?_getD, h]
theorem addAll_step (p q : Int) (hs : List Int) (k : Nat) (us : List T3) (h : k < hs.length) : addAll p q (hs.drop k) us = match addShM us (hs.getD k 0) p q with | some vs => addAll p q (hs.drop (k + 1)) vs | none => none := by
  rw [List.drop_eq_getElem_cons h]
  simp [addAll, List.getD_eq_getElem?_getD, h]
def prevI (hs : List Int) : Nat → Int
  | 0 => 0
  | k + 1 => hs.getD k 0

end Go.Proofs.Ytjcoajaoofjjmaa
