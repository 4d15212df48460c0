/- The rule of halves: the reference. -/
import Derived.Test.YtjcemoofnonlkaaHalf
namespace Go.Proofs.Ytjcemoofnonlkaa
set_option linter.unusedSimpArgs false
set_option linter.unusedVariables false
open Go.RowKit

set_option maxHeartbeats 1000000 in
theorem specHalfRule_any (a : Option Addr) (cap : Nat) (xs : List Int) (water : Int) (w : World) (hc : Rd w a xs) (hn : xs.length ≤ 1048576) :
    Calls Try.prog 33 #[.slice a xs.length cap, .int .i64 water] w fun e w' => GivesI (halfM xs water) w e w' := by
  have b0 : Below w.heap.size w (w.alloc (.cells #[] 3)) := (by repeat first | exact Below.refl _ _ | assumption | (refine belA ?_) | (refine belD ?_) | (refine belN ?_) | (refine belS ?_ (by simp <;> omega)) | (refine belT ?_ (by assumption)))
  have hc0 := hc.below b0
  have own0 := OwnsI.empty w.heap.size w (Nat.le_refl _)
  by_cases hd : dryM xs water = true
  · have hs := dryM_spec hd
    have hsum := dry_sum hd
    have HB := hide hs.1.2.2
    have HBB := hide (dry_big hd)
    have hw := hs.2
    have hlen' := hs.1.2.1
    have hlen := hs.1.1
    have HD := hide hd
    clear hs
    by_cases hle : 2 * water ≤ xs.sum
    · have HM := hide (show halfM xs water = epM xs (2 * water) by simp [halfM, HD.out, hle])
      go_enter Try.func33, Try.ntmps33
      go_wp2_with (first
        | (go_at_call 49; refine (specDryOk_any _ _ _ _ _ hc0 hn).mono ?_; rintro e w2 ⟨rfl, rfl⟩)
        | (go_at_call 50; refine (l06Sum_any _ _ _ _ hc0 hn HBB.out).mono ?_; rintro e w2 ⟨rfl, rfl⟩)
        | (go_at_call 31; refine (specEqualParts_any a cap xs (2 * water) _ hc0 hn).mono ?_; rintro e w1 ⟨v1, rfl, hown1, hb1⟩))
      go_ret
      exact ⟨v1, rfl, by rw [HM.out]; exact hown1.mono b0.size, (by repeat first | exact Below.refl _ _ | assumption | (refine belA ?_) | (refine belD ?_) | (refine belN ?_) | (refine belS ?_ (by simp <;> omega)) | (refine belT ?_ (by assumption)))⟩
    · have HD2 := hide (dry_water (x := max 0 (2 * xs.sum - 2 * water)) hd (by omega) (by omega))
      have HM := hide (show halfM xs water = List.zipWith (fun c l => 2 * c - l) xs (epM xs (max 0 (2 * xs.sum - 2 * water))) by simp [halfM, HD.out, hle])
      have HL := hide (epM_pos HD2.out)
      have HIN := hide (fun k hk => epM_in HD2.out k hk)
      have HEQ := hide (show ∀ x, (x = 2 * xs.sum - 2 * water ∧ 0 ≤ x ∨ x = 0 ∧ 2 * xs.sum - 2 * water ≤ 0) → epM xs x = epM xs (max 0 (2 * xs.sum - 2 * water)) from fun x hx => by congr 1; omega)
      generalize epM xs (max 0 (2 * xs.sum - 2 * water)) = L at *
      clear HD2
      go_enter Try.func33, Try.ntmps33
      go_wp2_with (first
        | (go_at_call 49; refine (specDryOk_any _ _ _ _ _ hc0 hn).mono ?_; rintro e w2 ⟨rfl, rfl⟩)
        | (go_at_call 50; refine (l06Sum_any _ _ _ _ hc0 hn HBB.out).mono ?_; rintro e w2 ⟨rfl, rfl⟩)
        | fail)
      all_goals
        refine (specEqualParts_any a cap xs _ _ hc0 hn).mono ?_
        rintro e w1 ⟨v1, rfl, hown1, hb1⟩
        rw [HEQ.out _ (by omega)] at hown1
        obtain ⟨a1, c1, rfl, hr1⟩ := hown1.slice
        rw [HL.out]
        go_wp2_with fail
        clear hown1
        have hc1 := hc0.below hb1
        have b1 := belT b0 hb1
        go_loopw [5, 8] (fun v i wr => ∃ (k : Nat) (ys : List Int), k ≤ xs.length ∧ i = .int .i64 k ∧ ys.length = k ∧ OwnsE w1.heap.size wr v ys ∧ List.zipWith (fun c l => 2 * c - l) xs L = ys ++ List.zipWith (fun c l => 2 * c - l) (xs.drop k) (L.drop k) ∧ Below w1.heap.size w1 wr) (fun _ i _ => xs.length - (intOf i).toNat)
        case atStart => exact ⟨0, [], Nat.zero_le _, rfl, rfl, .inr ⟨rfl, _, rfl⟩, rfl, Below.refl _ _⟩
        case round =>
          obtain ⟨k, ys, hk, rfl, hyl, hown, hr, hbel⟩ := hrel
          have HR := hide hr
          clear hr
          by_cases hlt : k < xs.length
          · have hltL : k < L.length := by rw [HL.out]; exact hlt
            obtain ⟨b, off, rfl, hcw⟩ := hc1 k hlt
            obtain ⟨b', off', rfl, hcw'⟩ := hr1 k hltL
            have bl := World.block_lt_of_cell? _ _ hcw
            have bl' := World.block_lt_of_cell? _ _ hcw'
            simp only at bl bl'
            have hcell := cellB hbel hcw
            have hcell' := cellB hbel hcw'
            clear hcw hcw'
            have hx := HB.out _ (getD_mem' hlt)
            have hl := HIN.out k hlt
            have HD' := hide (zip_drop (fun c l => 2 * c - l) xs L k hlt hltL)
            generalize xs.getD k 0 = c at *
            generalize L.getD k 0 = l at *
            have hyl' : ys.length ≤ 12 := by omega
            have HL' := hide hyl
            clear hyl
            have hBw := hbel.size
            go_wp2
            have i1 : (0 : Int) ≤ (k : Int) := by omega
            have i2 : (k : Int) < (xs.length : Int) := by omega
            have HI3 := hide (show (k : Int) < (L.length : Int) by omega)
            have i3 := HI3.out
            have s1 := IntWalk.i64_in (2 * c) (by omega)
            have s2 := IntWalk.i64_in (2 * c - l) (by omega)
            (have hcgB := fun p b o h => cell_grewB wr (w1.heap.size) p b o hBw h; refine wp_region_u (InB wr (w1.heap.size)) (OwnF wr (w1.heap.size) (w1.heap.size) _ ys) (up_inB hBw) (up_ownF hBw _ _) (inB_below hBw ⟨rfl, rfl, rfl, Nat.le_refl _, fun _ _ => rfl⟩) ⟨⟨rfl, rfl, rfl, Nat.le_refl _, fun _ _ => rfl⟩, hown⟩ [0, 1, 2, 3, 4, 5, 6, 7, 8, 9, 10] [11, 12, 13] (by kernel_rfl) (by kernel_rfl) ?_; simp only [pick, List.map_cons, List.map_nil, Array.getD_eq_getD_getElem?, List.getElem?_toArray, List.getElem?_cons_zero, List.getElem?_cons_succ, Option.getD_some]; (iterate 11 (refine wpG_step (fun K hK => ?_); go_simp; first | (refine hK _ ?_; clear hK K) | (apply Exists.intro; refine ⟨fun _ => ?_, hK _ ?_⟩; (fail); clear hK K))); refine wpG_nil ?_; clear hcgB; refine wpT_app (y := 2 * c - l) hBw (Nat.le_refl _) hBw (by omega) rfl rfl (fun wq => by go_simp) _ _ rfl (fun _ => rfl) (fun _ => rfl) ?_; intro bq vq; simp only [Act.put, List.setIfInBounds_toArray, List.set_cons_zero, List.set_cons_succ]; refine wpT_pureU (up_ownF hBw _ _) rfl (fun wq => by (go_simp; rfl)) ?_; simp only [Act.put, List.setIfInBounds_toArray, List.set_cons_zero, List.set_cons_succ]; intro w2 hCq hFq; obtain ⟨hbelq, hownq⟩ := hFq; clear hCq)
            clear s1 s2
            go_wp2
            go_roundw
            case rel => exact ⟨k + 1, ys ++ [2 * c - l], by omega, by go_num, by simp [HL'.out], hownq, by rw [HR.out, HD'.out]; simp, hbel.trans hbelq⟩
            case measure => simp [intOf]; omega
          · go_wp2
            go_ret
            refine ⟨_, rfl, ?_, belT b1 hbel⟩
            rw [HM.out, HR.out, List.drop_of_length_le (by omega)]
            rcases hown with hown | ⟨hown, _⟩
            · simpa using hown.mono b1.size
            · subst hown; simp at hyl; omega
  · have HM := hide (show halfM xs water = [] by simp [halfM, hd])
    go_enter Try.func33, Try.ntmps33
    go_wp2_with (first | (go_at_call 49; refine (specDryOk_any _ _ _ _ _ hc0 hn).mono ?_; rintro e w2 ⟨rfl, rfl⟩))
    go_ret
    exact ⟨_, rfl, by rw [HM.out]; exact own0, b0⟩

end Go.Proofs.Ytjcemoofnonlkaa
