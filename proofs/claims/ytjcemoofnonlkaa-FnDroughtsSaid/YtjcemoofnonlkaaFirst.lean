/- First come, first served. -/
import Derived.Test.YtjcemoofnonlkaaGive
import Derived.Test.YtjcemoofnonlkaaDry
namespace Go.Proofs.Ytjcemoofnonlkaa
set_option linter.unusedSimpArgs false
set_option linter.unusedVariables false
open Go.RowKit

def fc : List Int → Int → List Int
  | [], _ => []
  | c :: l, x => min c x :: fc l (x - min c x)
def firstM (xs : List Int) (x : Int) : List Int := if dryM xs x then fc xs x else []

theorem implFirstCome_any (a : Option Addr) (cap : Nat) (xs : List Int) (water : Int) (w : World) (hc : Rd w a xs) (hn : xs.length ≤ 1048576) :
    Calls Try.prog 26 #[.slice a xs.length cap, .int .i64 water] w fun e w' => GivesI (firstM xs water) w e w' := by
  by_cases hd : dryM xs water = true
  · have hs := dryM_spec hd
    have HM := hide (show firstM xs water = fc xs water by simp [firstM, hd])
    have HB := hide hs.1.2.2
    have hw := hs.2
    have hlen := hs.1.2.1
    clear hs
    go_enter Try.func26, Try.ntmps26
    go_wp2_with (first | (go_at_call 51; refine (implDryOk_any _ _ _ _ _ hc hn).mono ?_; rintro e w2 ⟨rfl, rfl⟩))
    go_loopw [1, 5, 15] (fun q v i wr => ∃ (k : Nat) (x : Int) (ys : List Int), k ≤ xs.length ∧ i = .int .i64 k ∧ q = .int .i64 x ∧ 0 ≤ x ∧ x ≤ 1000000 ∧ ys.length = k ∧ OwnsI w.heap.size wr v ys ∧ fc xs water = ys ++ fc (xs.drop k) x ∧ Below w.heap.size w wr) (fun _ _ i _ => xs.length - (intOf i).toNat)
    case atStart => exact ⟨0, water, [], Nat.zero_le _, rfl, rfl, hw.1, hw.2, rfl, OwnsI.nil _ _, rfl, Below.refl _ _⟩
    case round =>
      obtain ⟨k, x, ys, hk, rfl, rfl, hx0, hx1, hyl, hown, hr, hbel⟩ := hrel
      have HR := hide hr
      clear hr
      by_cases hlt : k < xs.length
      · obtain ⟨b, off, rfl, hcell⟩ := hc.below hbel k hlt
        have hx := HB.out _ (getD_mem' hlt)
        have HD := hide (drop_getD xs k hlt)
        generalize xs.getD k 0 = c at *
        have hyl' : ys.length ≤ 12 := by omega
        have HL := hide hyl
        clear hyl
        go_wp2_with (first
          | (at_builtin; refine append1 rfl _ _ rfl w.heap.size _ ys _ hown rfl rfl (by omega) hbel.size ?_; intro v1 w1 hown1 hbel1))
        have hm : (if x < c then x else c) = min c x := by split <;> omega
        rw [hm] at hown1
        go_roundw
        case rel => exact ⟨k + 1, x - min c x, ys ++ [min c x], by omega, by go_num, by rw [hm], by omega, by omega, by simp [HL.out], hown1, by rw [HR.out, HD.out]; simp [fc], hbel.trans hbel1⟩
        case measure => simp [intOf]; omega
      · go_wp2
        go_ret
        refine ⟨_, rfl, ?_, hbel⟩
        rw [HM.out, HR.out, List.drop_of_length_le (by omega)]
        simpa [fc] using hown
  · have HM := hide (show firstM xs water = [] by simp [firstM, hd])
    go_enter Try.func26, Try.ntmps26
    go_wp2_with (first | (go_at_call 51; refine (implDryOk_any _ _ _ _ _ hc hn).mono ?_; rintro e w2 ⟨rfl, rfl⟩))
    go_ret
    exact ⟨_, rfl, by rw [HM.out]; exact OwnsI.nil _ _, Below.refl _ _⟩

theorem specFirstCome_any (a : Option Addr) (cap : Nat) (xs : List Int) (water : Int) (w : World) (hc : Rd w a xs) (hn : xs.length ≤ 1048576) :
    Calls Try.prog 25 #[.slice a xs.length cap, .int .i64 water] w fun e w' => GivesI (firstM xs water) w e w' := by
  by_cases hd : dryM xs water = true
  · have hs := dryM_spec hd
    have HM := hide (show firstM xs water = fc xs water by simp [firstM, hd])
    have HB := hide hs.1.2.2
    have hw := hs.2
    have hlen := hs.1.2.1
    have HD' := hide (show ∀ x, 0 ≤ x → x ≤ 1000000 → dryM xs x = true by
      intro x h0 h1
      simp only [dryM, Bool.and_eq_true] at hd ⊢
      exact ⟨hd.1, inB_iff.2 ⟨h0, h1⟩⟩)
    clear hs hd
    go_enter Try.func25, Try.ntmps25
    go_wp2
    go_loopw [1, 5, 6] (fun q v i wr => ∃ (k : Nat) (x : Int) (ys : List Int), k ≤ xs.length ∧ i = .int .i64 k ∧ q = .int .i64 x ∧ 0 ≤ x ∧ x ≤ 1000000 ∧ ys.length = k ∧ OwnsI w.heap.size wr v ys ∧ fc xs water = ys ++ fc (xs.drop k) x ∧ Below w.heap.size w wr) (fun _ _ i _ => xs.length - (intOf i).toNat)
    case atStart => exact ⟨0, water, [], Nat.zero_le _, rfl, rfl, hw.1, hw.2, rfl, OwnsI.empty _ _ (Nat.le_refl _), rfl, (by repeat first | exact Below.refl _ _ | assumption | (refine belA ?_) | (refine belD ?_) | (refine belN ?_) | (refine belS ?_ (by simp <;> omega)) | (refine belT ?_ (by assumption)))⟩
    case round =>
      obtain ⟨k, x, ys, hk, rfl, rfl, hx0, hx1, hyl, hown, hr, hbel⟩ := hrel
      have HR := hide hr
      clear hr
      by_cases hlt : k < xs.length
      · have hcr := hc.below hbel
        obtain ⟨b, off, rfl, hcell⟩ := hcr k hlt
        have hx := HB.out _ (getD_mem' hlt)
        have HD := hide (drop_getD xs k hlt)
        have hdx := HD'.out x hx0 hx1
        generalize xs.getD k 0 = c at *
        have hyl' : ys.length ≤ 12 := by omega
        have HL := hide hyl
        clear hyl
        go_wp2_with (first
          | (go_at_call 49; refine (specDryOk_any _ _ _ _ _ hcr hn).mono ?_; rintro e w2 ⟨rfl, rfl⟩)
          | (at_builtin; refine append1 rfl _ _ rfl w.heap.size _ ys _ hown rfl rfl (by omega) hbel.size ?_; intro v1 w1 hown1 hbel1))
        have hm : (if c < x then c else x) = min c x := by split <;> omega
        rw [hm] at hown1
        go_roundw
        case rel => exact ⟨k + 1, x - min c x, ys ++ [min c x], by omega, by go_num, by rw [hm], by omega, by omega, by simp [HL.out], hown1, by rw [HR.out, HD.out]; simp [fc], hbel.trans hbel1⟩
        case measure => simp [intOf]; omega
      · go_wp2
        go_ret
        refine ⟨_, rfl, ?_, hbel⟩
        rw [HM.out, HR.out, List.drop_of_length_le (by omega)]
        simpa [fc] using hown
  · have HM := hide (show firstM xs water = [] by simp [firstM, hd])
    go_enter Try.func25, Try.ntmps25
    go_wp2
    refine wp_loop_rounds 1 ?_
    rw [rounds_succ]
    have hca := hc.below (w' := w.alloc (.cells #[] 3)) (by repeat first | exact Below.refl _ _ | assumption | (refine belA ?_) | (refine belD ?_) | (refine belN ?_) | (refine belS ?_ (by simp <;> omega)) | (refine belT ?_ (by assumption)))
    go_wp2_with (first
      | (go_at_call 49; refine (specDryOk_any _ _ _ _ _ hca hn).mono ?_; rintro e w2 ⟨rfl, rfl⟩))
    all_goals go_ret
    all_goals exact ⟨_, rfl, by rw [HM.out]; exact OwnsI.empty _ _ (Nat.le_refl _), (by repeat first | exact Below.refl _ _ | assumption | (refine belA ?_) | (refine belD ?_) | (refine belN ?_) | (refine belS ?_ (by simp <;> omega)) | (refine belT ?_ (by assumption)))⟩

theorem fc_length (xs : List Int) (x : Int) : (fc xs x).length = xs.length := by
  induction xs generalizing x with
  | nil => rfl
  | cons c l ih => simp [fc, ih]
theorem firstM_length (xs : List Int) (x : Int) (h : xs.length ≤ 1048576) : (firstM xs x).length ≤ 1048576 := by
  unfold firstM; split
  · rw [fc_length]; exact h
  · simp

end Go.Proofs.Ytjcemoofnonlkaa
