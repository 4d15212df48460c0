/- Equal losses: the contracts. -/
import Derived.Test.YtjcemoofnonlkaaLossM
namespace Go.Proofs.Ytjcemoofnonlkaa
set_option linter.unusedSimpArgs false
set_option linter.unusedVariables false
open Go.RowKit

set_option maxHeartbeats 1000000 in
theorem implEqualLosses_any (a : Option Addr) (cap : Nat) (xs : List Int) (water : Int) (w : World) (hc : Rd w a xs) (hn : xs.length ≤ 1048576) :
    Calls Try.prog 36 #[.slice a xs.length cap, .int .i64 water] w fun e w' => GivesI (lossM xs water) w e w' := by
  by_cases hd : dryM xs water = true
  · have hs := dryM_spec hd
    have hsum := dry_sum hd
    have HB := hide hs.1.2.2
    have HBB := hide (dry_big hd)
    have hw := hs.2
    have hlen' := hs.1.2.1
    have hlen := hs.1.1
    have hne : xs ≠ [] := by intro e; subst e; simp at hlen
    have HNE := hide hne
    have HD := hide hd
    clear hs hne
    by_cases hle : xs.sum ≤ water
    · have HM := hide (loss_all HD.out hle)
      go_enter Try.func36, Try.ntmps36
      go_wp2_with (first
        | (go_at_call 51; refine (implDryOk_any _ _ _ _ _ hc hn).mono ?_; rintro e w2 ⟨rfl, rfl⟩)
        | (go_at_call 55; refine (copyInts_any a cap xs _ hc hn HNE.out).mono ?_; rintro e w1 ⟨v1, rfl, hown1, hb1⟩; have hc1 := hc.below hb1)
        | (go_at_call 52; refine (sumOf_any _ _ _ _ hc1 hn HBB.out).mono ?_; rintro e w2 ⟨rfl, rfl⟩))
      go_ret
      exact ⟨_, rfl, by rw [HM.out]; exact hown1, hb1⟩
    · have HM := hide (show lossM xs water = List.zipWith (fun c l => c - l) xs (epM xs (xs.sum - water)) by
        rw [lossM, if_pos HD.out, show max 0 (xs.sum - water) = xs.sum - water by omega])
      have hd2 := loss_dry HD.out
      rw [show max 0 (xs.sum - water) = xs.sum - water by omega] at hd2
      have HL := hide (epM_pos hd2)
      have HIN := hide (fun k hk => epM_in hd2 k hk)
      clear hd2
      go_enter Try.func36, Try.ntmps36
      go_wp2_with (first
        | (go_at_call 51; refine (implDryOk_any _ _ _ _ _ hc hn).mono ?_; rintro e w2 ⟨rfl, rfl⟩)
        | (go_at_call 55; refine (copyInts_any a cap xs _ hc hn HNE.out).mono ?_; rintro e w1 ⟨v1, rfl, hown1, hb1⟩; have hc1 := hc.below hb1)
        | (go_at_call 52; refine (sumOf_any _ _ _ _ hc1 hn HBB.out).mono ?_; rintro e w2 ⟨rfl, rfl⟩)
        | fail)
      rcases hown1.cases with ⟨_, h0⟩ | ⟨g, c1, rfl, hg, ho1⟩
      · exact absurd h0 HNE.out
      · refine (implEqualParts_any a cap xs _ _ hc1 hn).mono ?_
        rintro e w2 ⟨v2, rfl, hown2, hb2⟩
        obtain ⟨a2, c2, rfl, hr2⟩ := hown2.slice
        have hne2 : ∀ x, a2 = some x → x.block ≠ g := fun x hx => by
          have h1 := (hown2.lt x.block (by rw [hx]; rfl)).1
          have h2 := ho1.lt
          omega
        have HNE2 := hide hne2
        clear hne2 hown2
        have ho2 := hown1.below hb2
        clear hown1 ho1
        have b2 := belT hb1 hb2
        generalize epM xs (xs.sum - water) = L at *
        rw [HL.out]
        go_wp2_with fail
        go_loopw [26] (fun i wr => ∃ (k : Nat), k ≤ xs.length ∧ i = .int .i64 k ∧ OwnsI w.heap.size wr (.slice (some ⟨g, 0, none⟩) xs.length c1) (zipK xs L k) ∧ w2.grownBy wr (some g)) (fun i _ => xs.length - (intOf i).toNat)
        case atStart => exact ⟨0, Nat.zero_le _, rfl, by simpa [zipK] using ho2, grownBy_refl _ _⟩
        case round =>
          obtain ⟨k, hk, rfl, hown, hgr⟩ := hrel
          by_cases hlt : k < xs.length
          · have hltL : k < L.length := by rw [HL.out]; exact hlt
            have hrr := rd_grown hr2 hgr HNE2.out
            obtain ⟨b', off', rfl, hcell'⟩ := hrr k hltL
            have hzl := zipK_length xs L k hk (by omega)
            have hown' := hown
            rw [← hzl] at hown'
            have hop := hown.ownP.2.2
            have hcell := hop.cell k (by omega)
            rw [zipK_getD xs L k hlt (by omega)] at hcell
            have hset := hown'.stored k (xs.getD k 0 - L.getD k 0)
            rw [zipK_step xs L k hlt hltL, hzl] at hset
            have hf := hop.frozen k
            clear hown'
            have hx := HB.out _ (getD_mem' hlt)
            have hl := HIN.out k hlt
            have HZ := hide hzl
            clear hzl
            generalize xs.getD k 0 = c at *
            generalize L.getD k 0 = l at *
            go_wp2
            go_roundw
            case rel => exact ⟨k + 1, by omega, by go_num, hset, grownBy_trans hgr (grownBy_set _ _ _ _)⟩
            case measure => simp [intOf]; omega
          · go_wp2
            go_ret
            have hkk : k = xs.length := by omega
            subst hkk
            refine ⟨_, rfl, ?_, belG b2 hgr hg⟩
            rw [HM.out]
            have e : zipK xs L xs.length = List.zipWith (fun c l => c - l) xs L := by
              have hLL := HL.out
              unfold zipK
              rw [List.take_of_length_le (Nat.le_refl _), List.take_of_length_le (by omega), List.drop_of_length_le (Nat.le_refl _), List.append_nil]
            rw [← e]
            exact hown
  · have HM := hide (show lossM xs water = [] by simp [lossM, hd])
    go_enter Try.func36, Try.ntmps36
    go_wp2_with (first | (go_at_call 51; refine (implDryOk_any _ _ _ _ _ hc hn).mono ?_; rintro e w2 ⟨rfl, rfl⟩))
    go_ret
    exact ⟨_, rfl, by rw [HM.out]; exact OwnsI.nil _ _, Below.refl _ _⟩

set_option maxHeartbeats 1000000 in
theorem specEqualLosses_any (a : Option Addr) (cap : Nat) (xs : List Int) (water : Int) (w : World) (hc : Rd w a xs) (hn : xs.length ≤ 1048576) :
    Calls Try.prog 35 #[.slice a xs.length cap, .int .i64 water] w fun e w' => GivesI (lossM xs water) w e w' := by
  have b0 : Below w.heap.size w (w.alloc (.cells #[] 3)) := (by repeat first | exact Below.refl _ _ | assumption | (refine belA ?_) | (refine belD ?_) | (refine belN ?_) | (refine belS ?_ (by simp <;> omega)) | (refine belT ?_ (by assumption)))
  have hc0 := hc.below b0
  have own0 := OwnsI.empty w.heap.size w (Nat.le_refl _)
  by_cases hd : dryM xs water = true
  · have hs := dryM_spec hd
    have HB := hide hs.1.2.2
    have hlen' := hs.1.2.1
    have hlen := hs.1.1
    have HD := hide hd
    have hd2 := loss_dry HD.out
    have HMM := hide (show missM xs water = max 0 (xs.sum - water) by simp [missM, hd])
    have HM := hide (show lossM xs water = List.zipWith (fun c l => c - l) xs (epM xs (max 0 (xs.sum - water))) by rw [lossM, if_pos HD.out])
    have HL := hide (epM_pos hd2)
    have HIN := hide (fun k hk => epM_in hd2 k hk)
    clear hs hd2
    go_enter Try.func35, Try.ntmps35
    go_wp2_with (first
      | (go_at_call 49; refine (specDryOk_any _ _ _ _ _ hc0 hn).mono ?_; rintro e w2 ⟨rfl, rfl⟩)
      | (go_at_call 23; refine (specMissingWater_any _ _ _ _ _ hc0 hn).mono ?_; rintro e w1 ⟨rfl, rfl⟩; rw [HMM.out])
      | fail)
    refine (specEqualParts_any a cap xs _ _ hc0 hn).mono ?_
    rintro e w1 ⟨v1, rfl, hown1, hb1⟩
    generalize epM xs (max 0 (xs.sum - water)) = L at *
    obtain ⟨a1, c1, rfl, hr1⟩ := hown1.slice
    rw [HL.out]
    go_wp2_with fail
    clear hown1
    have hc1 := hc0.below hb1
    have b1 := belT b0 hb1
    go_loopw [5, 7] (fun v i wr => ∃ (k : Nat) (ys : List Int), k ≤ xs.length ∧ i = .int .i64 k ∧ ys.length = k ∧ OwnsE w1.heap.size wr v ys ∧ List.zipWith (fun c l => c - l) xs L = ys ++ List.zipWith (fun c l => c - l) (xs.drop k) (L.drop k) ∧ Below w1.heap.size w1 wr) (fun _ i _ => xs.length - (intOf i).toNat)
    case atStart => exact ⟨0, [], Nat.zero_le _, rfl, rfl, .inr ⟨rfl, _, rfl⟩, rfl, Below.refl _ _⟩
    case round =>
      obtain ⟨k, ys, hk, rfl, hyl, hown, hr, hbel⟩ := hrel
      have HR := hide hr
      clear hr
      by_cases hlt : k < xs.length
      · have hltL : k < L.length := by rw [HL.out]; exact hlt
        obtain ⟨b, off, rfl, hcw⟩ := hc1 k hlt
        obtain ⟨b', off', rfl, hcw'⟩ := hr1 k hltL
        have bl := World.block_lt_of_cell? _ _ hcw
        have bl' := World.block_lt_of_cell? _ _ hcw'
        simp only at bl bl'
        have hcell := cellB hbel hcw
        have hcell' := cellB hbel hcw'
        clear hcw hcw'
        have hx := HB.out _ (getD_mem' hlt)
        have hl := HIN.out k hlt
        have HD' := hide (zip_drop (fun c l => c - l) xs L k hlt hltL)
        generalize xs.getD k 0 = c at *
        generalize L.getD k 0 = l at *
        have hyl' : ys.length ≤ 12 := by omega
        have HL' := hide hyl
        clear hyl
        have hBw := hbel.size
        go_wp2
        have i1 : (0 : Int) ≤ (k : Int) := by omega
        have i2 : (k : Int) < (xs.length : Int) := by omega
        have HI3 := hide (show (k : Int) < (L.length : Int) by omega)
        have i3 := HI3.out
        have s2 := IntWalk.i64_in (c - l) (by omega)
        (have hcgB := fun p b o h => cell_grewB wr (w1.heap.size) p b o hBw h; refine wp_region_u (InB wr (w1.heap.size)) (OwnF wr (w1.heap.size) (w1.heap.size) _ ys) (up_inB hBw) (up_ownF hBw _ _) (inB_below hBw ⟨rfl, rfl, rfl, Nat.le_refl _, fun _ _ => rfl⟩) ⟨⟨rfl, rfl, rfl, Nat.le_refl _, fun _ _ => rfl⟩, hown⟩ [0, 1, 2, 3, 4, 5, 6, 7, 8, 9] [10, 11, 12] (by kernel_rfl) (by kernel_rfl) ?_; simp only [pick, List.map_cons, List.map_nil, Array.getD_eq_getD_getElem?, List.getElem?_toArray, List.getElem?_cons_zero, List.getElem?_cons_succ, Option.getD_some]; (iterate 10 (refine wpG_step (fun K hK => ?_); go_simp; first | (refine hK _ ?_; clear hK K) | (apply Exists.intro; refine ⟨fun _ => ?_, hK _ ?_⟩; (fail); clear hK K))); refine wpG_nil ?_; clear hcgB; refine wpT_app (y := c - l) hBw (Nat.le_refl _) hBw (by omega) rfl rfl (fun wq => by go_simp) _ _ rfl (fun _ => rfl) (fun _ => rfl) ?_; intro bq vq; simp only [Act.put, List.setIfInBounds_toArray, List.set_cons_zero, List.set_cons_succ]; refine wpT_pureU (up_ownF hBw _ _) rfl (fun wq => by (go_simp; rfl)) ?_; simp only [Act.put, List.setIfInBounds_toArray, List.set_cons_zero, List.set_cons_succ]; intro w2 hCq hFq; obtain ⟨hbelq, hownq⟩ := hFq; clear hCq)
        clear s2
        go_wp2
        go_roundw
        case rel => exact ⟨k + 1, ys ++ [c - l], by omega, by go_num, by simp [HL'.out], hownq, by rw [HR.out, HD'.out]; simp, hbel.trans hbelq⟩
        case measure => simp [intOf]; omega
      · go_wp2
        go_ret
        refine ⟨_, rfl, ?_, belT b1 hbel⟩
        rw [HM.out, HR.out, List.drop_of_length_le (by omega)]
        rcases hown with hown | ⟨hown, _⟩
        · simpa using hown.mono b1.size
        · subst hown; simp at hyl; omega
  · have HM := hide (show lossM xs water = [] by simp [lossM, hd])
    go_enter Try.func35, Try.ntmps35
    go_wp2_with (first | (go_at_call 49; refine (specDryOk_any _ _ _ _ _ hc0 hn).mono ?_; rintro e w2 ⟨rfl, rfl⟩))
    go_ret
    exact ⟨_, rfl, by rw [HM.out]; exact own0, b0⟩

end Go.Proofs.Ytjcemoofnonlkaa
