/- The rule of halves; equal losses. -/
import Derived.Test.YtjcemoofnonlkaaEq3
import Derived.Test.YtjcemoofnonlkaaReg3
namespace Go.Proofs.Ytjcemoofnonlkaa
set_option linter.unusedSimpArgs false
set_option linter.unusedVariables false
open Go.RowKit

def halfM (xs : List Int) (water : Int) : List Int :=
  if dryM xs water then (if 2 * water ≤ xs.sum then epM xs (2 * water) else List.zipWith (fun c l => 2 * c - l) xs (epM xs (max 0 (2 * xs.sum - 2 * water)))) else []

/-- Of equal parts each is between nothing and the claim. -/
theorem epGo_in (l : List Int) (h left : Int) (h0 : 0 ≤ h) (hb : ∀ x ∈ l, 0 ≤ x) (k : Nat) (hk : k < l.length) : 0 ≤ (epGo l h left).getD k 0 ∧ (epGo l h left).getD k 0 ≤ l.getD k 0 := by
  induction l generalizing left k with
  | nil => simp at hk
  | cons c l ih =>
    have hc := hb c (by simp)
    cases k with
    | zero =>
      rw [epGo]
      split
      · simp; omega
      · simp; omega
    | succ k =>
      have hk' : k < l.length := by simpa using hk
      rw [epGo]
      split
      · simpa using ih (left - 1) (fun x hx => hb x (by simp [hx])) k hk'
      · simpa using ih left (fun x hx => hb x (by simp [hx])) k hk'

theorem epM_in {xs : List Int} {water : Int} (hd : dryM xs water = true) (k : Nat) (hk : k < xs.length) : 0 ≤ (epM xs water).getD k 0 ∧ (epM xs water).getD k 0 ≤ xs.getD k 0 := by
  have hs := (dryM_spec hd).1.2.2
  unfold epM
  rw [if_pos hd]
  split
  · exact ⟨(hs _ (getD_mem' hk)).1, Int.le_refl _⟩
  · rename_i hle
    exact epGo_in xs _ _ (lev_at hd hle).1 (fun x hx => (hs x hx).1) k hk

theorem zip_drop (f : Int → Int → Int) (xs ys : List Int) (k : Nat) (h1 : k < xs.length) (h2 : k < ys.length) :
    List.zipWith f (xs.drop k) (ys.drop k) = f (xs.getD k 0) (ys.getD k 0) :: List.zipWith f (xs.drop (k + 1)) (ys.drop (k + 1)) := by
  rw [drop_getD xs k h1, drop_getD ys k h2]; rfl

theorem dry_water {xs : List Int} {water x : Int} (hd : dryM xs water = true) (h0 : 0 ≤ x) (h1 : x ≤ 1000000) : dryM xs x = true := by
  simp only [dryM, Bool.and_eq_true] at hd ⊢
  exact ⟨hd.1, inB_iff.2 ⟨h0, h1⟩⟩

set_option maxHeartbeats 1000000 in
theorem implHalfRule_any (a : Option Addr) (cap : Nat) (xs : List Int) (water : Int) (w : World) (hc : Rd w a xs) (hn : xs.length ≤ 1048576) :
    Calls Try.prog 34 #[.slice a xs.length cap, .int .i64 water] w fun e w' => GivesI (halfM xs water) w e w' := by
  by_cases hd : dryM xs water = true
  · have hs := dryM_spec hd
    have hsum := dry_sum hd
    have HB := hide hs.1.2.2
    have HBB := hide (dry_big hd)
    have hw := hs.2
    have hlen' := hs.1.2.1
    have HD := hide hd
    clear hs
    by_cases hle : 2 * water ≤ xs.sum
    · have HM := hide (show halfM xs water = epM xs (2 * water) by simp [halfM, HD.out, hle])
      go_enter Try.func34, Try.ntmps34
      go_wp2_with (first
        | (go_at_call 51; refine (implDryOk_any _ _ _ _ _ hc hn).mono ?_; rintro e w2 ⟨rfl, rfl⟩)
        | (go_at_call 52; refine (sumOf_any _ _ _ _ hc hn HBB.out).mono ?_; rintro e w2 ⟨rfl, rfl⟩)
        | (go_at_call 32; refine (implEqualParts_any a cap xs (2 * water) _ hc hn).mono ?_; rintro e w1 ⟨v1, rfl, hown1, hb1⟩))
      go_ret
      exact ⟨v1, rfl, by rw [HM.out]; exact hown1, hb1⟩
    · have HD2 := hide (dry_water (x := max 0 (2 * xs.sum - 2 * water)) hd (by omega) (by omega))
      have HM := hide (show halfM xs water = List.zipWith (fun c l => 2 * c - l) xs (epM xs (max 0 (2 * xs.sum - 2 * water))) by simp [halfM, HD.out, hle])
      have HL := hide (epM_pos HD2.out)
      have HIN := hide (fun k hk => epM_in HD2.out k hk)
      have HEQ := hide (show ∀ x, (x = 2 * xs.sum - 2 * water ∧ 0 ≤ x ∨ x = 0 ∧ 2 * xs.sum - 2 * water ≤ 0) → epM xs x = epM xs (max 0 (2 * xs.sum - 2 * water)) from fun x hx => by congr 1; omega)
      generalize epM xs (max 0 (2 * xs.sum - 2 * water)) = L at *
      clear HD2
      go_enter Try.func34, Try.ntmps34
      go_wp2_with (first
        | (go_at_call 51; refine (implDryOk_any _ _ _ _ _ hc hn).mono ?_; rintro e w2 ⟨rfl, rfl⟩)
        | (go_at_call 52; refine (sumOf_any _ _ _ _ hc hn HBB.out).mono ?_; rintro e w2 ⟨rfl, rfl⟩)
        | fail)
      all_goals
        refine (implEqualParts_any a cap xs _ _ hc hn).mono ?_
        rintro e w1 ⟨v1, rfl, hown1, hb1⟩
        rw [HEQ.out _ (by omega)] at hown1
        obtain ⟨a1, c1, rfl, hr1⟩ := hown1.slice
        rw [HL.out]
        go_wp2_with fail
        clear hown1
        have hc1 := hc.below hb1
        go_loopw [6, 32] (fun v i wr => ∃ (k : Nat) (ys : List Int), k ≤ xs.length ∧ i = .int .i64 k ∧ ys.length = k ∧ OwnsI w1.heap.size wr v ys ∧ List.zipWith (fun c l => 2 * c - l) xs L = ys ++ List.zipWith (fun c l => 2 * c - l) (xs.drop k) (L.drop k) ∧ Below w1.heap.size w1 wr) (fun _ i _ => xs.length - (intOf i).toNat)
        case atStart => exact ⟨0, [], Nat.zero_le _, rfl, rfl, OwnsI.nil _ _, rfl, Below.refl _ _⟩
        case round =>
          obtain ⟨k, ys, hk, rfl, hyl, hown, hr, hbel⟩ := hrel
          have HR := hide hr
          clear hr
          by_cases hlt : k < xs.length
          · have hltL : k < L.length := by rw [HL.out]; exact hlt
            obtain ⟨b, off, rfl, hcell⟩ := hc1.below hbel k hlt
            obtain ⟨b', off', rfl, hcell'⟩ := hr1.below hbel k hltL
            have hx := HB.out _ (getD_mem' hlt)
            have hl := HIN.out k hlt
            have HD' := hide (zip_drop (fun c l => 2 * c - l) xs L k hlt hltL)
            generalize xs.getD k 0 = c at *
            generalize L.getD k 0 = l at *
            have hyl' : ys.length ≤ 12 := by omega
            have HL' := hide hyl
            clear hyl
            go_wp2_with (first
              | (at_builtin; refine append1 rfl _ _ rfl w1.heap.size _ ys _ hown rfl rfl (by omega) hbel.size ?_; intro v2 w2 hown2 hbel2))
            go_roundw
            case rel => exact ⟨k + 1, ys ++ [2 * c - l], by omega, by go_num, by simp [HL'.out], hown2, by rw [HR.out, HD'.out]; simp, hbel.trans hbel2⟩
            case measure => simp [intOf]; omega
          · go_wp2
            go_ret
            refine ⟨_, rfl, ?_, belT hb1 hbel⟩
            rw [HM.out, HR.out, List.drop_of_length_le (by omega)]
            simpa using hown.mono hb1.size
  · have HM := hide (show halfM xs water = [] by simp [halfM, hd])
    go_enter Try.func34, Try.ntmps34
    go_wp2_with (first | (go_at_call 51; refine (implDryOk_any _ _ _ _ _ hc hn).mono ?_; rintro e w2 ⟨rfl, rfl⟩))
    go_ret
    exact ⟨_, rfl, by rw [HM.out]; exact OwnsI.nil _ _, Below.refl _ _⟩

theorem halfM_length (xs : List Int) (water : Int) (hn : xs.length ≤ 1048576) : (halfM xs water).length ≤ 1048576 := by
  unfold halfM; split
  · split
    · exact epM_length _ _ hn
    · simp; omega
  · simp

end Go.Proofs.Ytjcemoofnonlkaa
