/- The members of a set of places. -/
import Derived.Test.YtamadhdnblmfhaaRch
namespace Go.Proofs.Ytamadhdnblmfhaa
set_option linter.unusedSimpArgs false
set_option linter.unusedVariables false
open Go.RowKit

def bitsF (s : Int) : Nat → Nat → List Int
  | 0, _ => []
  | m + 1, k => if memB s k then (k : Int) :: bitsF s m (k + 1) else bitsF s m (k + 1)

theorem bitsF_length (s : Int) : ∀ (m k : Nat), (bitsF s m k).length ≤ m
  | 0, _ => by simp [bitsF]
  | m + 1, k => by
    have := bitsF_length s m (k + 1)
    simp only [bitsF]; split <;> simp <;> omega

theorem l08Bits_any (s : Int) (w : World) : Calls Try.prog 72 #[.int .i64 s] w fun e w' => GivesI (bitsF s 8 0) w e w' := by
  go_enter Try.func72, Try.ntmps72
  go_wp2
  go_loopw [3, 4] (fun v i wr => ∃ (k : Nat) (ys : List Int), k ≤ 8 ∧ i = .int .i64 k ∧ ys.length ≤ k ∧ OwnsI w.heap.size wr v ys ∧ bitsF s 8 0 = ys ++ bitsF s (8 - k) k ∧ Below w.heap.size w wr) (fun _ i _ => 8 - (intOf i).toNat)
  case atStart => exact ⟨0, [], by omega, rfl, by simp, OwnsI.empty _ _ (Nat.le_refl _), rfl, (by repeat first | exact Below.refl _ _ | assumption | (refine belA ?_) | (refine belD ?_) | (refine belN ?_) | (refine belS ?_ (by simp <;> omega)) | (refine belT ?_ (by assumption)))⟩
  case round =>
    obtain ⟨k, ys, hk, rfl, hyl, hown, hr, hbel⟩ := hrel
    have HR := hide hr
    clear hr
    by_cases hlt : k < 8
    · have HS := hide (show bitsF s (8 - k) k = if memB s k then (k : Int) :: bitsF s (8 - (k + 1)) (k + 1) else bitsF s (8 - (k + 1)) (k + 1) by
        rw [show 8 - k = (8 - (k + 1)) + 1 by omega]; rfl)
      cases hx : memB s k with
      | false =>
        have hx1 := memB_1 hx
        rw [Int.toNat_natCast] at hx1
        rw [hx] at HS
        clear hx
        go_wp2
        go_roundw
        case rel => exact ⟨k + 1, ys, by omega, by go_num, by omega, hown, by rw [HR.out, HS.out]; rfl, hbel⟩
        case measure => simp [intOf]; omega
      | true =>
        have hx1 := memB_1 hx
        rw [Int.toNat_natCast] at hx1
        rw [hx] at HS
        clear hx
        go_wp2_with (at_builtin; refine append1 rfl _ _ rfl w.heap.size _ ys _ hown rfl rfl (by omega) hbel.size ?_; intro v1 w1 hown1 hbel1)
        go_roundw
        case rel => exact ⟨k + 1, ys ++ [(k : Int)], by omega, by go_num, by simp; omega, hown1, by rw [HR.out, HS.out]; simp, hbel.trans hbel1⟩
        case measure => simp [intOf]; omega
    · go_wp2
      go_ret
      exact ⟨_, rfl, by rw [HR.out, show 8 - k = 0 by omega]; simpa [bitsF] using hown, hbel⟩

theorem bitsF_nil (s : Int) (h0 : 0 ≤ s) : ∀ (m k : Nat), s < 2 ^ k → bitsF s m k = []
  | 0, _, _ => rfl
  | m + 1, k, h => by
    have h2 : s / 2 ^ k = 0 := Int.ediv_eq_zero_of_lt h0 h
    have h3 : memB s (k : Int) = false := by
      simp only [memB, bits1, Int.toNat_natCast, h2]; decide
    have h4 : s < 2 ^ (k + 1) := by rw [Int.pow_succ]; omega
    simp only [bitsF, h3]
    exact bitsF_nil s h0 m (k + 1) h4

theorem membersOf_any (s : Int) (w : World) (h0 : 0 ≤ s) (h1 : s < 256) : Calls Try.prog 73 #[.int .i64 s] w fun e w' => GivesI (bitsF s 8 0) w e w' := by
  have HN := hide (bitsF_nil s h0)
  go_enter Try.func73, Try.ntmps73
  go_wp2
  go_loopw [3, 4] (fun v i wr => ∃ (k : Nat) (ys : List Int), k ≤ 8 ∧ i = .int .i64 k ∧ ys.length ≤ k ∧ OwnsI w.heap.size wr v ys ∧ bitsF s 8 0 = ys ++ bitsF s (8 - k) k ∧ Below w.heap.size w wr) (fun _ i _ => 8 - (intOf i).toNat)
  case atStart => exact ⟨0, [], by omega, rfl, by simp, OwnsI.nil _ _, rfl, (by repeat first | exact Below.refl _ _ | assumption | (refine belA ?_) | (refine belD ?_) | (refine belN ?_) | (refine belS ?_ (by simp <;> omega)) | (refine belT ?_ (by assumption)))⟩
  case round =>
    obtain ⟨k, ys, hk, rfl, hyl, hown, hr, hbel⟩ := hrel
    have HR := hide hr
    clear hr
    have hpp : (0 : Int) < 2 ^ k := Int.pow_pos (by omega)
    by_cases hlt : s < 2 ^ k
    · have h2 : s / 2 ^ k = 0 := Int.ediv_eq_zero_of_lt h0 hlt
      have HE := hide (HN.out (8 - k) k hlt)
      clear hlt hpp
      go_wp2
      go_ret
      exact ⟨_, rfl, by rw [HR.out, HE.out]; simpa using hown, hbel⟩
    · have hk8 : k < 8 := by
        rcases Nat.lt_or_ge k 8 with h | h
        · exact h
        · have : k = 8 := by omega
          subst this; simp at hlt; omega
      have h2 : 0 < s / 2 ^ k := by
        have := Int.le_ediv_of_mul_le hpp (show 1 * 2 ^ k ≤ s by omega)
        omega
      have HS := hide (show bitsF s (8 - k) k = if memB s k then (k : Int) :: bitsF s (8 - (k + 1)) (k + 1) else bitsF s (8 - (k + 1)) (k + 1) by
        rw [show 8 - k = (8 - (k + 1)) + 1 by omega]; rfl)
      clear hlt
      cases hx : memB s k with
      | false =>
        have hx1 := memB_1 hx
        rw [Int.toNat_natCast] at hx1
        rw [hx] at HS
        clear hx
        go_wp2
        go_roundw
        case rel => exact ⟨k + 1, ys, by omega, by go_num, by omega, hown, by rw [HR.out, HS.out]; rfl, hbel⟩
        case measure => simp [intOf]; omega
      | true =>
        have hx1 := memB_1 hx
        rw [Int.toNat_natCast] at hx1
        rw [hx] at HS
        clear hx
        go_wp2_with (at_builtin; refine append1 rfl _ _ rfl w.heap.size _ ys _ hown rfl rfl (by omega) hbel.size ?_; intro v1 w1 hown1 hbel1)
        go_roundw
        case rel => exact ⟨k + 1, ys ++ [(k : Int)], by omega, by go_num, by simp; omega, hown1, by rw [HR.out, HS.out]; simp, hbel.trans hbel1⟩
        case measure => simp [intOf]; omega

end Go.Proofs.Ytamadhdnblmfhaa
