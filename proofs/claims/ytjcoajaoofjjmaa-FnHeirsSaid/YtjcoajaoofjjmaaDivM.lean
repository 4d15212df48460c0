/- Division of water by rights: what is left over, in plain Lean. -/
import Derived.Test.YtjcoajaoofjjmaaT3
namespace Go.Proofs.Ytjcoajaoofjjmaa
set_option linter.unusedSimpArgs false
set_option linter.unusedVariables false

/-- The shares over one bottom: the bottom and the top. -/
def denL : List T3 → Int
  | [] => 1
  | t :: r => t.2.2 * denL r
def numL : List T3 → Int
  | [] => 0
  | t :: r => t.2.1 * denL r + t.2.2 * numL r
def flsL (w : Int) (ts : List T3) : List Int := ts.map fun t => w * t.2.1 / t.2.2
def rstL (w : Int) (ts : List T3) : List Int := ts.map fun t => w * t.2.1 % t.2.2
def rnumL (w : Int) : List T3 → Int
  | [] => 0
  | t :: r => (w * t.2.1 % t.2.2) * denL r + t.2.2 * rnumL w r

theorem den_pos : ∀ ts : List T3, (∀ t ∈ ts, 1 ≤ t.2.2) → 0 < denL ts
  | [], _ => by simp [denL]
  | t :: r, h => by
    have := h t (List.mem_cons_self ..)
    exact Int.mul_pos (by omega) (den_pos r (fun u hu => h u (List.mem_cons_of_mem _ hu)))
theorem div_sum (w : Int) : ∀ ts : List T3, w * numL ts = denL ts * (flsL w ts).sum + rnumL w ts
  | [] => by simp [numL, denL, flsL, rnumL]
  | t :: r => by
    have ih := div_sum w r
    have d := Int.mul_ediv_add_emod (w * t.2.1) t.2.2
    simp only [numL, denL, rnumL, flsL, List.map_cons, List.sum_cons] at *
    generalize w * t.2.1 / t.2.2 = q at *
    generalize w * t.2.1 % t.2.2 = m at *
    generalize (List.map (fun t => w * t.2.1 / t.2.2) r).sum = S at *
    have e1 : w * (t.2.1 * denL r + t.2.2 * numL r) = (w * t.2.1) * denL r + t.2.2 * (w * numL r) := by
      rw [Int.mul_add, ← Int.mul_assoc, Int.mul_left_comm w t.2.2]
    rw [e1, ih, ← d]
    simp only [Int.mul_add, Int.add_mul]
    have c1 : t.2.2 * q * denL r = t.2.2 * denL r * q := by rw [Int.mul_right_comm]
    have c2 : t.2.2 * (denL r * S) = t.2.2 * denL r * S := by rw [Int.mul_assoc]
    rw [c1, c2]
    omega
theorem rnum_bd (w : Int) : ∀ ts : List T3, (∀ t ∈ ts, 1 ≤ t.2.2) → 0 ≤ rnumL w ts ∧ rnumL w ts ≤ ts.length * denL ts
  | [], _ => by simp [rnumL]
  | t :: r, h => by
    have ht := h t (List.mem_cons_self ..)
    have ih := rnum_bd w r (fun u hu => h u (List.mem_cons_of_mem _ hu))
    have dp := den_pos r (fun u hu => h u (List.mem_cons_of_mem _ hu))
    have m0 := Int.emod_nonneg (w * t.2.1) (show t.2.2 ≠ 0 by omega)
    have m1 := Int.emod_lt_of_pos (w * t.2.1) (show 0 < t.2.2 by omega)
    simp only [rnumL, denL, List.length_cons]
    generalize w * t.2.1 % t.2.2 = m at *
    have a1 := Int.mul_nonneg m0 (Int.le_of_lt dp)
    have a2 := Int.mul_nonneg (show 0 ≤ t.2.2 by omega) ih.1
    have a3 : m * denL r ≤ t.2.2 * denL r := Int.mul_le_mul_of_nonneg_right (by omega) (Int.le_of_lt dp)
    have a4 : t.2.2 * rnumL w r ≤ t.2.2 * (r.length * denL r) := Int.mul_le_mul_of_nonneg_left ih.2 (by omega)
    have e : ((r.length + 1 : Nat) : Int) * (t.2.2 * denL r) = t.2.2 * (r.length * denL r) + t.2.2 * denL r := by
      rw [Int.natCast_add, Int.add_mul, Int.mul_left_comm]; simp
    rw [e]
    omega
/-- The shares together are one: what is left is between nothing and one for each. -/
theorem left_bd {w : Int} {ts : List T3} (h : ∀ t ∈ ts, 1 ≤ t.2.2) (h1 : numL ts = denL ts) : 0 ≤ w - (flsL w ts).sum ∧ w - (flsL w ts).sum ≤ ts.length := by
  have hs := div_sum w ts
  have hb := rnum_bd w ts h
  have dp := den_pos ts h
  rw [h1] at hs
  have e : denL ts * (w - (flsL w ts).sum) = rnumL w ts := by rw [Int.mul_sub, Int.mul_comm (denL ts) w, hs]; omega
  generalize w - (flsL w ts).sum = l at *
  rw [← e] at hb
  constructor
  · apply Int.not_lt.1
    intro hl
    have := Int.mul_neg_of_pos_of_neg dp hl
    omega
  · apply Int.le_of_mul_le_mul_left _ dp
    rw [Int.mul_comm (denL ts) (ts.length : Int)]; exact hb.2

end Go.Proofs.Ytjcoajaoofjjmaa
