/- Claims and water: what is valid, sums, what is missing; the contest of two. -/
import Derived.Test.YtjcemoofnonlkaaInts2
namespace Go.Proofs.Ytjcemoofnonlkaa
set_option linter.unusedSimpArgs false
set_option linter.unusedVariables false
open Go.RowKit

def clOk (xs : List Int) : Bool := inB xs.length 1 12 && allB xs 0 80000
def dryM (xs : List Int) (water : Int) : Bool := clOk xs && inB water 0 1000000

theorem clOk_spec {xs : List Int} (h : clOk xs = true) : 1 ≤ xs.length ∧ xs.length ≤ 12 ∧ ∀ x ∈ xs, 0 ≤ x ∧ x ≤ 80000 := by
  simp only [clOk, Bool.and_eq_true, inB_iff, allB, List.all_eq_true] at h
  exact ⟨by omega, by omega, h.2⟩
theorem dryM_spec {xs : List Int} {water : Int} (h : dryM xs water = true) : (1 ≤ xs.length ∧ xs.length ≤ 12 ∧ ∀ x ∈ xs, 0 ≤ x ∧ x ≤ 80000) ∧ 0 ≤ water ∧ water ≤ 1000000 := by
  simp only [dryM, Bool.and_eq_true, inB_iff] at h
  exact ⟨clOk_spec h.1, h.2⟩
theorem sum_le (xs : List Int) (B : Int) (hB : 0 ≤ B) (hb : ∀ x ∈ xs, 0 ≤ x ∧ x ≤ B) : 0 ≤ xs.sum ∧ xs.sum ≤ B * xs.length := by
  induction xs with
  | nil => simp
  | cons x l ih =>
    have h1 := hb x (by simp)
    have h2 := ih (fun y hy => hb y (by simp [hy]))
    simp only [List.sum_cons, List.length_cons, Int.natCast_add, Int.mul_add]
    omega
theorem dry_sum {xs : List Int} {water : Int} (h : dryM xs water = true) : 0 ≤ xs.sum ∧ xs.sum ≤ 960000 := by
  obtain ⟨⟨h1, h2, h3⟩, _⟩ := dryM_spec h
  have := sum_le xs 80000 (by omega) h3
  omega
theorem dry_big {xs : List Int} {water : Int} (h : dryM xs water = true) : ∀ x ∈ xs, 0 ≤ x ∧ x ≤ 1000000000 := by
  intro x hx
  have := (dryM_spec h).1.2.2 x hx
  omega

theorem implClaimsOk_any (a : Option Addr) (cap : Nat) (xs : List Int) (w : World) (hc : Rd w a xs) (hn : xs.length ≤ 1048576) :
    Calls Try.prog 19 #[.slice a xs.length cap] w fun e w' => e = .returned (.bool (clOk xs)) ∧ w = w' := by
  go_enter Try.func19, Try.ntmps19
  go_wp2_with (first
    | (go_at_call 46; refine (within_any _ _ _ _).mono ?_; rintro e w2 ⟨rfl, rfl⟩)
    | (go_at_call 48; refine (allWithin_any _ _ _ _ _ _ hc hn).mono ?_; rintro e w2 ⟨rfl, rfl⟩))
  all_goals go_ret
  all_goals exact ⟨ret_bool (by simp_all [clOk]), rfl⟩

theorem specClaimsOk_any (a : Option Addr) (cap : Nat) (xs : List Int) (w : World) (hc : Rd w a xs) (hn : xs.length ≤ 1048576) :
    Calls Try.prog 17 #[.slice a xs.length cap] w fun e w' => e = .returned (.bool (clOk xs)) ∧ w = w' := by
  go_enter Try.func17, Try.ntmps17
  go_wp2
  go_loop [3] (fun i => ∃ k : Nat, k ≤ xs.length ∧ i = .int .i64 k ∧ allB xs 0 80000 = allB (xs.drop k) 0 80000) (fun i => xs.length - (intOf i).toNat)
  case atStart => exact ⟨0, Nat.zero_le _, rfl, rfl⟩
  case round =>
    obtain ⟨k, hk, rfl, hr⟩ := hrel
    have HR := hide hr
    clear hr
    by_cases hlt : k < xs.length
    · obtain ⟨b, off, rfl, hcell⟩ := hc k hlt
      have hd := drop_getD xs k hlt
      generalize xs.getD k 0 = x at *
      have HD := hide hd
      clear hd
      go_wp2_with (first | (go_at_call 43; refine (l01In_any _ _ _ _).mono ?_; rintro e w2 ⟨rfl, rfl⟩))
      · go_ret
        exact ⟨ret_bool (by rw [clOk, HR.out, HD.out]; simp_all [allB]), rfl⟩
      · go_round
        case rel => exact ⟨k + 1, by omega, by go_num, by rw [HR.out, HD.out]; simp_all [allB]⟩
        case measure => simp [intOf]; omega
    · go_wp2_with (first | (go_at_call 43; refine (l01In_any _ _ _ _).mono ?_; rintro e w2 ⟨rfl, rfl⟩))
      go_ret
      exact ⟨ret_bool (by rw [clOk, HR.out, List.drop_of_length_le (by omega)]; simp [allB]), rfl⟩

theorem implDryOk_any (a : Option Addr) (cap : Nat) (xs : List Int) (water : Int) (w : World) (hc : Rd w a xs) (hn : xs.length ≤ 1048576) :
    Calls Try.prog 51 #[.slice a xs.length cap, .int .i64 water] w fun e w' => e = .returned (.bool (dryM xs water)) ∧ w = w' := by
  go_enter Try.func51, Try.ntmps51
  go_wp2_with (first
    | (go_at_call 46; refine (within_any _ _ _ _).mono ?_; rintro e w2 ⟨rfl, rfl⟩)
    | (go_at_call 19; refine (implClaimsOk_any _ _ _ _ hc hn).mono ?_; rintro e w2 ⟨rfl, rfl⟩))
  all_goals go_ret
  all_goals exact ⟨ret_bool (by simp_all [dryM]), rfl⟩

theorem l04Water_any (x : Int) (w : World) :
    Calls Try.prog 44 #[.int .i64 x] w fun e w' => e = .returned (.bool (inB x 0 1000000)) ∧ w = w' := by
  go_enter Try.func44, Try.ntmps44
  go_wp2_with (first
    | (go_at_call 43; refine (l01In_any _ _ _ _).mono ?_; rintro e w2 ⟨rfl, rfl⟩))
  all_goals go_ret
  all_goals exact ⟨rfl, rfl⟩

theorem specDryOk_any (a : Option Addr) (cap : Nat) (xs : List Int) (water : Int) (w : World) (hc : Rd w a xs) (hn : xs.length ≤ 1048576) :
    Calls Try.prog 49 #[.slice a xs.length cap, .int .i64 water] w fun e w' => e = .returned (.bool (dryM xs water)) ∧ w = w' := by
  go_enter Try.func49, Try.ntmps49
  go_wp2_with (first
    | (go_at_call 44; refine (l04Water_any _ _).mono ?_; rintro e w2 ⟨rfl, rfl⟩)
    | (go_at_call 17; refine (specClaimsOk_any _ _ _ _ hc hn).mono ?_; rintro e w2 ⟨rfl, rfl⟩))
  all_goals go_ret
  all_goals exact ⟨ret_bool (by simp_all [dryM]), rfl⟩

theorem l06Sum_any (a : Option Addr) (cap : Nat) (xs : List Int) (w : World) (hc : Rd w a xs) (hn : xs.length ≤ 1048576) (hb : ∀ x ∈ xs, 0 ≤ x ∧ x ≤ 1000000000) :
    Calls Try.prog 50 #[.slice a xs.length cap] w fun e w' => e = .returned (.int .i64 xs.sum) ∧ w = w' := by
  have HB := hide hb
  clear hb
  go_enter Try.func50, Try.ntmps50
  go_wp2
  go_loop [3, 4] (fun s i => ∃ k : Nat, k ≤ xs.length ∧ i = .int .i64 k ∧ s = .int .i64 (xs.take k).sum) (fun s i => xs.length - (intOf i).toNat)
  case atStart => exact ⟨0, Nat.zero_le _, rfl, rfl⟩
  case round =>
    obtain ⟨k, hk, rfl, rfl⟩ := hrel
    have hs := sum_le (xs.take k) 1000000000 (by omega) (fun x hx => HB.out x (List.mem_of_mem_take hx))
    have hl : (xs.take k).length ≤ k := List.length_take_le _ _
    by_cases hlt : k < xs.length
    · obtain ⟨b, off, rfl, hcell⟩ := hc k hlt
      have hx := HB.out (xs.getD k 0) (by simp [List.getD_eq_getElem?_getD, hlt])
      have ht : (xs.take (k + 1)).sum = (xs.take k).sum + xs.getD k 0 := by
        rw [List.take_succ_eq_append_getElem hlt, List.sum_append]; simp [List.getD_eq_getElem?_getD, hlt]
      have HT := hide ht
      clear ht
      generalize xs.getD k 0 = x at *
      go_wp2
      go_round
      case rel => exact ⟨k + 1, by omega, by go_num, by rw [HT.out]⟩
      case measure => simp [intOf]; omega
    · go_wp2
      go_ret
      exact ⟨ret_int (by rw [List.take_of_length_le (by omega)]), rfl⟩

def missM (xs : List Int) (water : Int) : Int := if dryM xs water then max 0 (xs.sum - water) else -1
def gladM (xs : List Int) (water : Int) : Bool := dryM xs water && decide (xs.sum ≤ 2 * water)

theorem implMissingWater_any (a : Option Addr) (cap : Nat) (xs : List Int) (water : Int) (w : World) (hc : Rd w a xs) (hn : xs.length ≤ 1048576) :
    Calls Try.prog 24 #[.slice a xs.length cap, .int .i64 water] w fun e w' => e = .returned (.int .i64 (missM xs water)) ∧ w = w' := by
  by_cases hd : dryM xs water = true
  · have hs := dry_sum hd
    have hw := (dryM_spec hd).2
    have HB := hide (dry_big hd)
    have HM := hide (show missM xs water = max 0 (xs.sum - water) by simp [missM, hd])
    go_enter Try.func24, Try.ntmps24
    go_wp2_with (first
      | (go_at_call 51; refine (implDryOk_any _ _ _ _ _ hc hn).mono ?_; rintro e w2 ⟨rfl, rfl⟩)
      | (go_at_call 52; refine (sumOf_any _ _ _ _ hc hn HB.out).mono ?_; rintro e w2 ⟨rfl, rfl⟩))
    all_goals go_ret
    all_goals exact ⟨ret_int (by rw [HM.out]; first | rfl | omega), rfl⟩
  · have HM := hide (show missM xs water = -1 by simp [missM, hd])
    go_enter Try.func24, Try.ntmps24
    go_wp2_with (first
      | (go_at_call 51; refine (implDryOk_any _ _ _ _ _ hc hn).mono ?_; rintro e w2 ⟨rfl, rfl⟩))
    all_goals go_ret
    all_goals exact ⟨ret_int HM.out.symm, rfl⟩

theorem specMissingWater_any (a : Option Addr) (cap : Nat) (xs : List Int) (water : Int) (w : World) (hc : Rd w a xs) (hn : xs.length ≤ 1048576) :
    Calls Try.prog 23 #[.slice a xs.length cap, .int .i64 water] w fun e w' => e = .returned (.int .i64 (missM xs water)) ∧ w = w' := by
  by_cases hd : dryM xs water = true
  · have hs := dry_sum hd
    have hw := (dryM_spec hd).2
    have HB := hide (dry_big hd)
    have HM := hide (show missM xs water = max 0 (xs.sum - water) by simp [missM, hd])
    go_enter Try.func23, Try.ntmps23
    go_wp2_with (first
      | (go_at_call 49; refine (specDryOk_any _ _ _ _ _ hc hn).mono ?_; rintro e w2 ⟨rfl, rfl⟩)
      | (go_at_call 50; refine (l06Sum_any _ _ _ _ hc hn HB.out).mono ?_; rintro e w2 ⟨rfl, rfl⟩))
    all_goals go_ret
    all_goals exact ⟨ret_int (by rw [HM.out]; first | rfl | omega), rfl⟩
  · have HM := hide (show missM xs water = -1 by simp [missM, hd])
    go_enter Try.func23, Try.ntmps23
    go_wp2_with (first
      | (go_at_call 49; refine (specDryOk_any _ _ _ _ _ hc hn).mono ?_; rintro e w2 ⟨rfl, rfl⟩))
    all_goals go_ret
    all_goals exact ⟨ret_int HM.out.symm, rfl⟩

theorem implGladFrom_any (a : Option Addr) (cap : Nat) (xs : List Int) (water : Int) (w : World) (hc : Rd w a xs) (hn : xs.length ≤ 1048576) :
    Calls Try.prog 22 #[.slice a xs.length cap, .int .i64 water] w fun e w' => e = .returned (.bool (gladM xs water)) ∧ w = w' := by
  by_cases hd : dryM xs water = true
  · have hs := dry_sum hd
    have hw := (dryM_spec hd).2
    have HB := hide (dry_big hd)
    have HM := hide (show gladM xs water = decide (xs.sum ≤ 2 * water) by simp [gladM, hd])
    go_enter Try.func22, Try.ntmps22
    go_wp2_with (first
      | (go_at_call 51; refine (implDryOk_any _ _ _ _ _ hc hn).mono ?_; rintro e w2 ⟨rfl, rfl⟩)
      | (go_at_call 52; refine (sumOf_any _ _ _ _ hc hn HB.out).mono ?_; rintro e w2 ⟨rfl, rfl⟩))
    all_goals go_ret
    all_goals exact ⟨ret_bool (by rw [HM.out]), rfl⟩
  · have HM := hide (show gladM xs water = false by simp [gladM, hd])
    go_enter Try.func22, Try.ntmps22
    go_wp2_with (first
      | (go_at_call 51; refine (implDryOk_any _ _ _ _ _ hc hn).mono ?_; rintro e w2 ⟨rfl, rfl⟩))
    all_goals go_ret
    all_goals exact ⟨ret_bool HM.out.symm, rfl⟩

theorem specGladFrom_any (a : Option Addr) (cap : Nat) (xs : List Int) (water : Int) (w : World) (hc : Rd w a xs) (hn : xs.length ≤ 1048576) :
    Calls Try.prog 21 #[.slice a xs.length cap, .int .i64 water] w fun e w' => e = .returned (.bool (gladM xs water)) ∧ w = w' := by
  by_cases hd : dryM xs water = true
  · have hs := dry_sum hd
    have hw := (dryM_spec hd).2
    have HB := hide (dry_big hd)
    have HM := hide (show gladM xs water = decide (xs.sum ≤ 2 * water) by simp [gladM, hd])
    go_enter Try.func21, Try.ntmps21
    go_wp2_with (first
      | (go_at_call 49; refine (specDryOk_any _ _ _ _ _ hc hn).mono ?_; rintro e w2 ⟨rfl, rfl⟩)
      | (go_at_call 50; refine (l06Sum_any _ _ _ _ hc hn HB.out).mono ?_; rintro e w2 ⟨rfl, rfl⟩))
    all_goals go_ret
    all_goals exact ⟨ret_bool (by rw [HM.out]), rfl⟩
  · have HM := hide (show gladM xs water = false by simp [gladM, hd])
    go_enter Try.func21, Try.ntmps21
    go_wp2_with (first
      | (go_at_call 49; refine (specDryOk_any _ _ _ _ _ hc hn).mono ?_; rintro e w2 ⟨rfl, rfl⟩))
    all_goals go_ret
    all_goals exact ⟨ret_bool HM.out.symm, rfl⟩

end Go.Proofs.Ytjcemoofnonlkaa
