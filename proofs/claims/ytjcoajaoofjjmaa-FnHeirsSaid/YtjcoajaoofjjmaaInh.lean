/- The program's checks of heirs. -/
import Derived.Test.YtjcoajaoofjjmaaInhM
import Derived.Test.YtjcoajaoofjjmaaSell2
namespace Go.Proofs.Ytjcoajaoofjjmaa
set_option linter.unusedSimpArgs false
set_option linter.unusedVariables false
set_option linter.unnecessarySimpa false
open Go.RowKit

set_option maxHeartbeats 1000000 in
theorem rising_any (a : Option Addr) (cap : Nat) (hs : List Int) (w : World) (hc : Rd w a hs) (hn : hs.length ≤ 1048576) :
    Calls Try.prog 76 #[.slice a hs.length cap, .int .i64 1, .int .i64 999] w fun e w' => Rets w (.bool (risB 0 hs)) e w' := by
  go_enter Try.func76, Try.ntmps76
  go_wp2
  go_loop [11] (fun i => ∃ (k : Nat), k ≤ hs.length ∧ i = .int .i64 k ∧ risB 0 hs = risB (prevI hs k) (hs.drop k)) (fun i => hs.length - (intOf i).toNat)
  case atStart => exact ⟨0, Nat.zero_le _, rfl, by simp [prevI]⟩
  case round =>
    obtain ⟨k, hk, rfl, hr⟩ := hrel
    have HR := hide hr
    clear hr
    by_cases hlt : k < hs.length
    · obtain ⟨b, off, rfl, y0⟩ := hc k hlt
      have HS := hide (risB_step (prevI hs k) hs k hlt)
      have HP := hide (show prevI hs (k + 1) = hs.getD k 0 from rfl)
      have hwi := hide (fun W => within_any (hs.getD k 0) 1 999 W)
      cases k with
      | zero =>
        rw [Nat.add_zero] at y0
        have HZ := hide (show prevI hs 0 = 0 from rfl)
        generalize hs.getD 0 0 = x at *
        have hx : inB x 1 999 = true → 0 < x := fun h => by have := inB_iff.1 h; omega
        generalize inB x 1 999 = T at *
        cases T
        · go_wp2_with fail
          (with_reducible refine (hwi.out _).mono ?_)
          rintro e w' ⟨rfl, rfl⟩
          go_wp2
          go_returns
          exact ⟨ret_bool (by rw [HR.out, HS.out]; simp), (by repeat first | exact Below.refl _ _ | assumption | (refine belA ?_) | (refine belD ?_) | (refine belN ?_) | (refine belS ?_ (by simp <;> omega)) | (refine belT ?_ (by assumption)))⟩
        · have hx' := hx rfl
          go_wp2_with fail
          (with_reducible refine (hwi.out _).mono ?_)
          rintro e w' ⟨rfl, rfl⟩
          go_wp2
          go_roundw
          case rel => exact ⟨1, by omega, by go_num, by rw [HR.out, HS.out, HP.out, HZ.out]; simp [hx']⟩
          case measure => simp [intOf]; omega
      | succ j =>
        obtain ⟨b', off', e', y1⟩ := hc j (by omega)
        cases e'
        have HZ := hide (show prevI hs (j + 1) = hs.getD j 0 from rfl)
        generalize hs.getD (j + 1) 0 = x at *
        generalize hs.getD j 0 = z at *
        generalize inB x 1 999 = T at *
        have hw1 : IntKind.i64.wrap (((j + 1 : Nat) : Int) - 1) = (j : Int) := by rw [IntKind.wrap_i64]; omega
        have hj0 : (0 : Int) < ((j + 1 : Nat) : Int) := by omega
        have hj1 : (j : Int) < (hs.length : Int) := by omega
        cases T
        · go_wp2_with fail
          (with_reducible refine (hwi.out _).mono ?_)
          rintro e w' ⟨rfl, rfl⟩
          go_wp2
          go_returns
          exact ⟨ret_bool (by rw [HR.out, HS.out]; simp), (by repeat first | exact Below.refl _ _ | assumption | (refine belA ?_) | (refine belD ?_) | (refine belN ?_) | (refine belS ?_ (by simp <;> omega)) | (refine belT ?_ (by assumption)))⟩
        · by_cases hq : z < x
          · go_wp2_with fail
            (with_reducible refine (hwi.out _).mono ?_)
            rintro e w' ⟨rfl, rfl⟩
            go_wp2
            go_roundw
            case rel => exact ⟨j + 1 + 1, by omega, by go_num, by rw [HR.out, HS.out, HP.out, HZ.out]; simp [hq]⟩
            case measure => simp [intOf]; omega
          · go_wp2_with fail
            (with_reducible refine (hwi.out _).mono ?_)
            rintro e w' ⟨rfl, rfl⟩
            go_wp2
            go_returns
            exact ⟨ret_bool (by rw [HR.out, HS.out, HZ.out]; simp; intros; omega), (by repeat first | exact Below.refl _ _ | assumption | (refine belA ?_) | (refine belD ?_) | (refine belN ?_) | (refine belS ?_ (by simp <;> omega)) | (refine belT ?_ (by assumption)))⟩
    · have hkk : k = hs.length := by omega
      go_wp2
      go_returns
      exact ⟨ret_bool (by rw [HR.out, List.drop_of_length_le (by omega)]; rfl), (by repeat first | exact Below.refl _ _ | assumption | (refine belA ?_) | (refine belD ?_) | (refine belN ?_) | (refine belS ?_ (by simp <;> omega)) | (refine belT ?_ (by assumption)))⟩

theorem hasInt_any (a : Option Addr) (cap : Nat) (hs : List Int) (o : Int) (w : World) (hc : Rd w a hs) (hn : hs.length ≤ 1048576) :
    Calls Try.prog 77 #[.slice a hs.length cap, .int .i64 o] w fun e w' => Rets w (.bool (hasO o hs)) e w' := by
  go_enter Try.func77, Try.ntmps77
  go_wp2
  go_loop [9] (fun i => ∃ (k : Nat), k ≤ hs.length ∧ i = .int .i64 k ∧ hasO o hs = hasO o (hs.drop k)) (fun i => hs.length - (intOf i).toNat)
  case atStart => exact ⟨0, Nat.zero_le _, rfl, by simp⟩
  case round =>
    obtain ⟨k, hk, rfl, hr⟩ := hrel
    have HR := hide hr
    clear hr
    by_cases hlt : k < hs.length
    · obtain ⟨b, off, rfl, y0⟩ := hc k hlt
      have HS := hide (hasO_step o hs k hlt)
      generalize hs.getD k 0 = x at *
      by_cases hq : x = o
      · have hq' : (x == o) = true := by simpa using hq
        go_wp2
        go_returns
        exact ⟨ret_bool (by rw [HR.out, HS.out]; simp [hq]), (by repeat first | exact Below.refl _ _ | assumption | (refine belA ?_) | (refine belD ?_) | (refine belN ?_) | (refine belS ?_ (by simp <;> omega)) | (refine belT ?_ (by assumption)))⟩
      · have hq' : (x == o) = false := by simpa using hq
        have HQ := hide hq'
        go_wp2
        go_roundw
        case rel => exact ⟨k + 1, by omega, by go_num, by rw [HR.out, HS.out, HQ.out]; simp⟩
        case measure => simp [intOf]; omega
    · go_wp2
      go_returns
      exact ⟨ret_bool (by rw [HR.out, List.drop_of_length_le (by omega)]; rfl), (by repeat first | exact Below.refl _ _ | assumption | (refine belA ?_) | (refine belD ?_) | (refine belN ?_) | (refine belS ?_ (by simp <;> omega)) | (refine belT ?_ (by assumption)))⟩

end Go.Proofs.Ytjcoajaoofjjmaa
