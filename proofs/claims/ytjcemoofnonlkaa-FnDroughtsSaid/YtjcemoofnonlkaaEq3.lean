/- Equal parts: the reference's function. -/
import Derived.Test.YtjcemoofnonlkaaEq2
namespace Go.Proofs.Ytjcemoofnonlkaa
set_option linter.unusedSimpArgs false
set_option linter.unusedVariables false
open Go.RowKit

theorem l15Under_any (h : Int) (cap : Nat) (a : Option Addr) (xs : List Int) (w : World) (hc : Rd w a xs) (hn : xs.length ≤ 1048576) (h0 : 0 ≤ h) (h1 : h ≤ 1000000) (hb : ∀ x ∈ xs, 0 ≤ x ∧ x ≤ 80000) :
    Calls Try.prog 54 #[.slice a xs.length cap, .int .i64 h] w fun e w' => e = .returned (.int .i64 (under xs h)) ∧ w = w' := by
  have HB := hide hb
  clear hb
  go_enter Try.func54, Try.ntmps54
  go_wp2
  go_loop [5, 6] (fun s i => ∃ k : Nat, k ≤ xs.length ∧ i = .int .i64 k ∧ s = .int .i64 (under (xs.take k) h)) (fun s i => xs.length - (intOf i).toNat)
  case atStart => exact ⟨0, Nat.zero_le _, rfl, rfl⟩
  case round =>
    obtain ⟨k, hk, rfl, rfl⟩ := hrel
    have hs := under_bound (xs.take k) h 80000 h0 (by omega) (fun x hx => HB.out x (List.mem_of_mem_take hx))
    have hl : (xs.take k).length ≤ k := List.length_take_le _ _
    by_cases hlt : k < xs.length
    · obtain ⟨b, off, rfl, hcell⟩ := hc k hlt
      have hx := HB.out (xs.getD k 0) (getD_mem' hlt)
      have ht := under_take xs h k hlt
      have HT := hide ht
      clear ht
      generalize xs.getD k 0 = x at *
      go_wp2
      go_round
      case rel => exact ⟨k + 1, by omega, by go_num, by rw [HT.out]; first | rfl | (congr 1; omega)⟩
      case measure => simp [intOf]; omega
    · go_wp2
      go_ret
      exact ⟨ret_int (by rw [List.take_of_length_le (by omega)]), rfl⟩

set_option maxHeartbeats 1000000 in
theorem specEqualParts_any (a : Option Addr) (cap : Nat) (xs : List Int) (water : Int) (w : World) (hc : Rd w a xs) (hn : xs.length ≤ 1048576) :
    Calls Try.prog 31 #[.slice a xs.length cap, .int .i64 water] w fun e w' => GivesI (epM xs water) w e w' := by
  have b0 : Below w.heap.size w (w.alloc (.cells #[] 3)) := (by repeat first | exact Below.refl _ _ | assumption | (refine belA ?_) | (refine belD ?_) | (refine belN ?_) | (refine belS ?_ (by simp <;> omega)) | (refine belT ?_ (by assumption)))
  have hc0 := hc.below b0
  have own0 := OwnsI.empty w.heap.size w (Nat.le_refl _)
  by_cases hd : dryM xs water = true
  · have hs := dryM_spec hd
    have hsum := dry_sum hd
    have HB := hide hs.1.2.2
    have HBB := hide (dry_big hd)
    have hw := hs.2
    have hlen := hs.1.1
    have hlen' := hs.1.2.1
    have HD := hide hd
    have HN := hide (show xs ≠ [] by intro e; subst e; simp at hlen)
    clear hs
    by_cases hle : xs.sum ≤ water
    · have HM := hide (show epM xs water = xs by simp [epM, HD.out, hle])
      go_enter Try.func31, Try.ntmps31
      go_wp2_with (first
        | (go_at_call 49; refine (specDryOk_any _ _ _ _ _ hc0 hn).mono ?_; rintro e w2 ⟨rfl, rfl⟩)
        | (go_at_call 50; refine (l06Sum_any _ _ _ _ hc0 hn HBB.out).mono ?_; rintro e w2 ⟨rfl, rfl⟩)
        | (at_builtin; refine appendAll rfl _ _ rfl w.heap.size _ [] xs a cap own0 hc0 rfl rfl HN.out (by simp; omega) (by simp) ?_; intro v1 w1 hown1 hbel1))
      go_ret
      exact ⟨_, rfl, by rw [HM.out]; simpa using hown1, b0.trans hbel1⟩
    · have HL := hide (lev_at HD.out hle)
      have HM := hide (show epM xs water = epGo xs (lev xs water 80000) (water - under xs (lev xs water 80000)) by simp [epM, HD.out, hle])
      go_enter Try.func31, Try.ntmps31
      go_wp2_with (first
        | (go_at_call 49; refine (specDryOk_any _ _ _ _ _ hc0 hn).mono ?_; rintro e w2 ⟨rfl, rfl⟩)
        | (go_at_call 50; refine (l06Sum_any _ _ _ _ hc0 hn HBB.out).mono ?_; rintro e w2 ⟨rfl, rfl⟩))
      obtain ⟨wz, hwz⟩ : ∃ wz : World, wz = w.alloc (.cells #[] 3) := ⟨_, rfl⟩
      rw [← hwz] at hc0 own0 b0
      rw [← hwz]
      clear hwz
      have HZ := hide (under_zero xs (fun x hx => (HB.out x hx).1))
      go_loop [6, 7] (fun x y => ∃ l h : Int, 0 ≤ l ∧ l ≤ h ∧ h ≤ 100000 ∧ x = .int .i64 l ∧ y = .int .i64 h ∧ under xs l ≤ water ∧ (h = 100000 ∨ water < under xs (h + 1))) (fun x y => (intOf y - intOf x).toNat)
      case atStart => exact ⟨0, 100000, Int.le_refl _, by omega, Int.le_refl _, rfl, rfl, by rw [HZ.out]; exact hw.1, .inl rfl⟩
      case round =>
        obtain ⟨l, h, hl, hlh, hh, rfl, rfl, hp, hq⟩ := hrel
        have HQ := hide hq
        have HP := hide hp
        clear hp hq
        by_cases hlt : l < h
        · have hm1 : l < (l + h + 1) / 2 := by omega
          have hm2 : (l + h + 1) / 2 ≤ h := by omega
          have hub := under_bound xs ((l + h + 1) / 2) 80000 (by omega) (by omega) HB.out
          go_wp2_with (first
            | (go_at_call 54; refine (l15Under_any ((l + h + 1) / 2) _ _ _ _ hc0 hn (by omega) (by omega) HB.out).mono ?_; rintro e w2 ⟨rfl, rfl⟩))
          · have hpm : under xs ((l + h + 1) / 2) ≤ water := by assumption
            go_round
            case rel => exact ⟨(l + h + 1) / 2, h, by omega, hm2, hh, rfl, rfl, hpm, HQ.out⟩
            case measure => simp [intOf]; omega
          · have hpm : water < under xs ((l + h + 1) / 2) := by omega
            go_round
            case rel => exact ⟨l, (l + h + 1) / 2 - 1, hl, by omega, by omega, rfl, rfl, HP.out, .inr (by rw [Int.sub_add_cancel]; exact hpm)⟩
            case measure => simp [intOf]; omega
        · have : h = l := by omega
          subst this
          have ht := under_top xs 80000 (h + 1) (fun x hx => (HB.out x hx).2)
          have ht' := under_top xs 80000 h (fun x hx => (HB.out x hx).2)
          have hp := HP.out
          have h8 : h < 80000 := by
            rcases Int.lt_or_le h 80000 with h8 | h8
            · exact h8
            · have := ht' h8; omega
          have h9 : water < under xs (h + 1) := by
            rcases HQ.out with h9 | h9
            · omega
            · exact h9
          have HV := hide (lev_unique xs water 80000 h hl (by simp; omega) hp h9)
          have hub := under_bound xs h 80000 hl (by omega) HB.out
          clear ht ht' hp h9 hlt HQ
          have HPP := HP
          clear HP
          have hpp := HPP.out
          generalize hu : under xs h = u at *
          have HU := hide hu
          clear hu
          have hu1 : 0 ≤ water - u := by omega
          have hu2 : water - u ≤ 1000000 := by omega
          go_wp2_with (first
            | (go_at_call 54; refine (l15Under_any h _ _ _ _ hc0 hn (by omega) (by omega) HB.out).mono ?_; rintro e w2 ⟨rfl, rfl⟩; rw [HU.out]))
          go_loopw [5, 9, 10] (fun v q i wr => ∃ (k : Nat) (x : Int) (ys : List Int), k ≤ xs.length ∧ i = .int .i64 k ∧ q = .int .i64 x ∧ 0 ≤ x ∧ x ≤ 1000000 ∧ ys.length = k ∧ OwnsI w.heap.size wr v ys ∧ epGo xs h (water - u) = ys ++ epGo (xs.drop k) h x ∧ Below w.heap.size w wr) (fun _ _ i _ => xs.length - (intOf i).toNat)
          case atStart => exact ⟨0, water - u, [], Nat.zero_le _, rfl, rfl, hu1, hu2, rfl, own0, rfl, b0⟩
          case round =>
            obtain ⟨k, x, ys, hk, rfl, rfl, hx0, hx1, hyl, hown, hr, hbel⟩ := hrel
            have HR := hide hr
            clear hr
            by_cases hlt : k < xs.length
            · obtain ⟨b, off, rfl, hcell⟩ := hc.below hbel k hlt
              have hx := HB.out _ (getD_mem' hlt)
              have HD' := hide (drop_getD xs k hlt)
              generalize xs.getD k 0 = c at *
              have hyl' : ys.length ≤ 12 := by omega
              have HL' := hide hyl
              clear hyl
              by_cases htake : h < c ∧ 0 < x
              · have HE := hide (show epGo (c :: xs.drop (k + 1)) h x = (min h c + 1) :: epGo (xs.drop (k + 1)) h (x - 1) by rw [epGo_step, if_pos htake])
                obtain ⟨ht1, ht2⟩ := htake
                have HMI := hide (show min h c = h by omega)
                go_wp2_with (first
                  | (at_builtin; refine append1 rfl _ _ rfl w.heap.size _ ys _ hown rfl rfl (by omega) hbel.size ?_; intro v1 w1 hown1 hbel1))
                go_roundw
                case rel => exact ⟨k + 1, x - 1, ys ++ [h + 1], by omega, by go_num, rfl, by omega, by omega, by simp [HL'.out], hown1, by rw [HR.out, HD'.out, HE.out, HMI.out]; simp, hbel.trans hbel1⟩
                case measure => simp [intOf]; omega
              · have HE := hide (show epGo (c :: xs.drop (k + 1)) h x = min h c :: epGo (xs.drop (k + 1)) h x by rw [epGo_step, if_neg htake])
                go_wp2_with (first
                  | (at_builtin; refine append1 rfl _ _ rfl w.heap.size _ ys _ hown rfl rfl (by omega) hbel.size ?_; intro v1 w1 hown1 hbel1))
                all_goals
                  go_roundw
                  case rel => exact ⟨k + 1, x, ys ++ [min h c], by omega, by go_num, rfl, by omega, by omega, by simp [HL'.out], by first | (rw [show min h c = h by omega]; exact hown1) | (rw [show min h c = c by omega]; exact hown1) | (rw [show min h c = (if c < h then c else h) by split <;> omega]; exact hown1), by rw [HR.out, HD'.out, HE.out]; simp, hbel.trans hbel1⟩
                  case measure => simp [intOf]; omega
            · go_wp2
              go_ret
              refine ⟨_, rfl, ?_, hbel⟩
              rw [HM.out, HV.out, HU.out, HR.out, List.drop_of_length_le (by omega)]
              simpa [epGo] using hown
  · have HM := hide (show epM xs water = [] by simp [epM, hd])
    go_enter Try.func31, Try.ntmps31
    go_wp2_with (first | (go_at_call 49; refine (specDryOk_any _ _ _ _ _ hc0 hn).mono ?_; rintro e w2 ⟨rfl, rfl⟩))
    go_ret
    exact ⟨_, rfl, by rw [HM.out]; exact own0, b0⟩

end Go.Proofs.Ytjcemoofnonlkaa
