/- Whether halves are pairwise right: the reference. -/
import Derived.Test.YtjcemoofnonlkaaPair2
namespace Go.Proofs.Ytjcemoofnonlkaa
set_option linter.unusedSimpArgs false
set_option linter.unusedVariables false
open Go.RowKit

set_option maxHeartbeats 1000000 in
theorem specIsPairwise_any (a a' : Option Addr) (cap cap' : Nat) (xs hs : List Int) (w : World) (hc : Rd w a xs) (hc' : Rd w a' hs) (hn : xs.length ≤ 1048576) (hn' : hs.length ≤ 1048576) :
    Calls Try.prog 29 #[.slice a xs.length cap, .slice a' hs.length cap'] w fun e w' => Asks (PairP xs hs) w e w' := by
  by_cases hcl : clOk xs = true
  · by_cases hlen : hs.length = xs.length
    · have hl2 : ((hs.length : Int) != (xs.length : Int)) = false := by simp [hlen]
      have HL := hide hlen
      have HC := hide hcl
      obtain ⟨hc1, hc2, hc3⟩ := clOk_spec hcl
      have HB := hide hc3
      clear hlen hc3
      go_enter Try.func29, Try.ntmps29
      go_wp2_with (first | (go_at_call 17; refine (specClaimsOk_any _ _ _ _ hc hn).mono ?_; rintro e w2 ⟨rfl, rfl⟩))
      clear hl2
      go_loopw [5] (fun i wr => ∃ k : Nat, k ≤ xs.length ∧ i = .int .i64 k ∧ (∀ i, i < k → inP xs hs i) ∧ Below w.heap.size w wr) (fun i _ => xs.length - (intOf i).toNat)
      case atStart => exact ⟨0, Nat.zero_le _, rfl, fun i hi => by omega, Below.refl _ _⟩
      case round =>
        obtain ⟨k, hk, rfl, hr, hbel⟩ := hrel
        have HR := hide hr
        clear hr
        by_cases hlt : k < xs.length
        · obtain ⟨b, off, rfl, hcell⟩ := hc.below hbel k hlt
          obtain ⟨b', off', rfl, hcell'⟩ := hc'.below hbel k (by rw [HL.out]; exact hlt)
          have bl := World.block_lt_of_cell? wr _ hcell
          have bl' := World.block_lt_of_cell? wr _ hcell'
          simp at bl bl'
          have hx := HB.out _ (getD_mem hlt)
          have HP := hide (show inP xs hs k ↔ 0 ≤ hs.getD k 0 ∧ hs.getD k 0 ≤ 2 * xs.getD k 0 from Iff.rfl)
          generalize xs.getD k 0 = x at *
          generalize hs.getD k 0 = y at *
          have i1 : (0 : Int) ≤ (k : Int) := by omega
          have i2 : (k : Int) < (xs.length : Int) := by omega
          have HI3 := hide (show (k : Int) < (hs.length : Int) by rw [HL.out]; omega)
          have i3 := HI3.out
          go_wp2
          have s1 := IntWalk.i64_in (2 * x) (by omega)
          (refine wp_region_g [0, 1, 2, 3, 4, 5, 6, 7, 8, 9, 10] [] (by kernel_rfl) (by kernel_rfl) ?_; simp only [pick, List.map_cons, List.map_nil, Array.getD_eq_getD_getElem?, List.getElem?_toArray, List.getElem?_cons_zero, List.getElem?_cons_succ, Option.getD_some]; (iterate 11 (refine wpG_step (fun K hK => ?_); go_simp; first | (refine hK _ ?_; clear hK K) | (apply Exists.intro; refine ⟨fun _ => ?_, hK _ ?_⟩; ((go_at_call 43; exact same_g (l01In_any _ _ _ _))); clear hK K))); refine wpG_nil ?_)
          clear s1
          (refine wpT_end ?_; intro w2 hbr _; obtain ⟨hcb, hfb⟩ := bcell hbr; have hzr := hbr.size; (try simp at hzr); (try (refine ltk (a := w.heap.size) (b := w2.heap.size) ?_ ?_; (focus omega); intro _ _)); (try (refine ltk (a := w.heap.size + 1) (b := w2.heap.size) ?_ ?_; (focus omega); intro _ _)); (try (refine ltk (a := w.heap.size + 2) (b := w2.heap.size) ?_ ?_; (focus omega); intro _ _)); (try (refine ltk (a := w.heap.size + 3) (b := w2.heap.size) ?_ ?_; (focus omega); intro _ _)))
          go_wp2
          · go_ret
            have h0 : inB y 0 (2 * x) = false := by simp_all
            refine Asks.no (fun hp => ?_) (by repeat first | exact Below.refl _ _ | assumption | (refine belA ?_) | (refine belD ?_) | (refine belN ?_) | (refine belS ?_ (by simp <;> omega)) | (refine belT ?_ (by assumption)))
            have h1 := HP.out.1 (hp.2.2.1 k hlt)
            rw [← inB_iff, h0] at h1
            cases h1
          · go_roundw
            case rel =>
              refine ⟨k + 1, by omega, by go_num, fun i hi => ?_, (by repeat first | exact Below.refl _ _ | assumption | (refine belA ?_) | (refine belD ?_) | (refine belN ?_) | (refine belS ?_ (by simp <;> omega)) | (refine belT ?_ (by assumption)))⟩
              have h0 : inB y 0 (2 * x) = true := by simp_all
              by_cases hik : i = k
              · subst hik; exact HP.out.2 (inB_iff.1 h0)
              · exact HR.out i (by omega)
            case measure => simp [intOf]; omega
        · have hkk : k = xs.length := by omega
          subst hkk
          go_wp2
          have HIN := hide (show ∀ i, i < xs.length → inP xs hs i by intro i hi; exact HR.out i hi)
          clear HR
          obtain ⟨wz, rfl⟩ : ∃ wz : World, wz = wr := ⟨_, rfl⟩
          obtain ⟨wo, rfl⟩ : ∃ wo : World, wo = w := ⟨_, rfl⟩
          go_loopw [6] (fun i wr => ∃ k : Nat, k ≤ xs.length ∧ i = .int .i64 k ∧ (∀ i j, i < k → j < i → prP xs hs i j) ∧ Below wo.heap.size wo wr) (fun i _ => xs.length - (intOf i).toNat)
          case atStart => exact ⟨0, Nat.zero_le _, rfl, fun i j hi => by omega, hbel⟩
          case round =>
            obtain ⟨i, hi, rfl, hr, hbel⟩ := hrel
            have HR := hide hr
            clear hr
            by_cases hlt : i < xs.length
            · obtain ⟨wp, rfl⟩ : ∃ wp : World, wp = wr := ⟨_, rfl⟩
              go_wp2
              go_loopw [7] (fun q wr => ∃ j : Nat, j ≤ i ∧ q = .int .i64 j ∧ (∀ k, k < j → prP xs hs i k) ∧ Below wo.heap.size wo wr) (fun q _ => i - (intOf q).toNat)
              case atStart => exact ⟨0, Nat.zero_le _, rfl, fun k hk => by omega, hbel⟩
              case round =>
                obtain ⟨j, hj2, rfl, hrj, hbelj⟩ := hrel
                have HJ := hide hrj
                clear hrj
                by_cases hltj' : j < i
                · have hltj : j < xs.length := by omega
                  obtain ⟨b, off, rfl, cxi⟩ := hc.below hbelj i hlt
                  obtain ⟨b1, off1, e1, cxj⟩ := hc.below hbelj j hltj
                  cases e1
                  obtain ⟨b', off', rfl, chi⟩ := hc'.below hbelj i (by rw [HL.out]; exact hlt)
                  obtain ⟨b1, off1, e1, chj⟩ := hc'.below hbelj j (by rw [HL.out]; exact hltj)
                  cases e1
                  have bl := World.block_lt_of_cell? wr _ cxi
                  have bl' := World.block_lt_of_cell? wr _ chi
                  simp at bl bl'
                  have x1 := HB.out _ (getD_mem hlt)
                  have x2 := HB.out _ (getD_mem hltj)
                  have y1 : 0 ≤ hs.getD i 0 ∧ hs.getD i 0 ≤ 2 * xs.getD i 0 := HIN.out i hlt
                  have y2 : 0 ≤ hs.getD j 0 ∧ hs.getD j 0 ≤ 2 * xs.getD j 0 := HIN.out j hltj
                  have HP := hide (show prP xs hs i j ↔ pairOk (xs.getD i 0) (hs.getD i 0) (xs.getD j 0) (hs.getD j 0) from Iff.rfl)
                  generalize xs.getD i 0 = xi at *
                  generalize xs.getD j 0 = xj at *
                  generalize hs.getD i 0 = yi at *
                  generalize hs.getD j 0 = yj at *
                  have i1 : (0 : Int) ≤ (i : Int) := by omega
                  have i2 : (i : Int) < (xs.length : Int) := by omega
                  have i4 : (0 : Int) ≤ (j : Int) := by omega
                  have i5 : (j : Int) < (xs.length : Int) := by omega
                  have HI3 := hide (show (i : Int) < (hs.length : Int) by rw [HL.out]; omega)
                  have HI6 := hide (show (j : Int) < (hs.length : Int) by rw [HL.out]; omega)
                  have i3 := HI3.out
                  have i6 := HI6.out
                  have hb := con_bound (a := 2 * xi) (b := 2 * xj) (w := yi + yj) (by omega) (by omega) (by omega)
                  go_wp2
                  have s1 := IntWalk.i64_in (2 * xi) (by omega)
                  have s2 := IntWalk.i64_in (2 * xj) (by omega)
                  have s3 := IntWalk.i64_in (yi + yj) (by omega)
                  (refine wp_region_g [0, 1, 2, 3, 4, 5, 6, 7, 8, 9, 10, 11, 12, 13, 14, 15, 16, 17, 18, 19, 20, 21, 22, 23, 24] [] (by kernel_rfl) (by kernel_rfl) ?_; simp only [pick, List.map_cons, List.map_nil, Array.getD_eq_getD_getElem?, List.getElem?_toArray, List.getElem?_cons_zero, List.getElem?_cons_succ, Option.getD_some]; (iterate 25 (refine wpG_step (fun K hK => ?_); go_simp; first | (refine hK _ ?_; clear hK K) | (apply Exists.intro; refine ⟨fun _ => ?_, hK _ ?_⟩; ((go_at_call 45; exact same_g (l16Two_any (2 * xi) (2 * xj) (yi + yj) _ (by omega) (by omega) (by omega)))); clear hK K))); refine wpG_nil ?_)
                  clear s1 s2 s3
                  (refine wpT_end ?_; intro w2 hbr _; obtain ⟨hcb, hfb⟩ := bcell hbr; have hzr := hbr.size; (try simp at hzr); (try (refine ltk (a := w.heap.size) (b := w2.heap.size) ?_ ?_; (focus omega); intro _ _)); (try (refine ltk (a := w.heap.size + 1) (b := w2.heap.size) ?_ ?_; (focus omega); intro _ _)); (try (refine ltk (a := w.heap.size + 2) (b := w2.heap.size) ?_ ?_; (focus omega); intro _ _)); (try (refine ltk (a := w.heap.size + 3) (b := w2.heap.size) ?_ ?_; (focus omega); intro _ _)))
                  have HX := hide (pairOk_def xi yi xj yj)
                  generalize conX (2 * xi) (2 * xj) (yi + yj) = cx at *
                  generalize conY (2 * xi) (2 * xj) (yi + yj) = cy at *
                  go_wp2_with (first | (go_at_call 43; refine (l01In_any _ _ _ _).mono ?_; rintro e w2 ⟨rfl, rfl⟩))
                  · have e2 : inB (2 * yj - cy) (-4) 4 = false := by simpa using (show (!inB (2 * yj - cy) (-4) 4) = true by assumption)
                    go_ret
                    refine Asks.no (fun hp => ?_) (by repeat first | exact Below.refl _ _ | assumption | (refine belA ?_) | (refine belD ?_) | (refine belN ?_) | (refine belS ?_ (by simp <;> omega)) | (refine belT ?_ (by assumption)))
                    have h1 := HX.out.1 (HP.out.1 (pairOk_swap (hp.2.2.2 j i (by omega) hlt)))
                    have h2 := inB_not.1 e2
                    omega
                  · have e1 := inB_iff.1 (show inB (2 * yi - cx) (-4) 4 = true by assumption)
                    have e2 := inB_iff.1 (show inB (2 * yj - cy) (-4) 4 = true by simpa using (show (!inB (2 * yj - cy) (-4) 4) = false by assumption))
                    go_roundw
                    case rel =>
                      refine ⟨j + 1, by omega, by go_num, fun k hk => ?_, (by repeat first | exact Below.refl _ _ | assumption | (refine belA ?_) | (refine belD ?_) | (refine belN ?_) | (refine belS ?_ (by simp <;> omega)) | (refine belT ?_ (by assumption)))⟩
                      by_cases e : k = j
                      · subst e; exact HP.out.2 (HX.out.2 (by omega))
                      · exact HJ.out k (by omega)
                    case measure => simp [intOf]; omega
                  · have e1 : inB (2 * yi - cx) (-4) 4 = false := by simpa using (show ¬ inB (2 * yi - cx) (-4) 4 = true by assumption)
                    go_ret
                    refine Asks.no (fun hp => ?_) (by repeat first | exact Below.refl _ _ | assumption | (refine belA ?_) | (refine belD ?_) | (refine belN ?_) | (refine belS ?_ (by simp <;> omega)) | (refine belT ?_ (by assumption)))
                    have h1 := HX.out.1 (HP.out.1 (pairOk_swap (hp.2.2.2 j i (by omega) hlt)))
                    have h2 := inB_not.1 e1
                    omega
                · go_wp2
                  go_roundw
                  case rel => exact ⟨i + 1, by omega, by go_num, fun i' k' hi' hik => by
                    by_cases e : i' = i
                    · subst e; exact HJ.out k' (by omega)
                    · exact HR.out i' k' (by omega) hik, hbelj⟩
                  case measure => simp [intOf]; omega
            · go_wp2
              go_ret
              exact Asks.yes ⟨HC.out, HL.out, HIN.out, fun i' k' hik hk' => pairOk_swap (HR.out k' i' (by omega) hik)⟩ hbel
    · have hl2 : ((hs.length : Int) != (xs.length : Int)) = true := by simp; omega
      have HN := hide (show ¬ PairP xs hs from fun h => hlen h.2.1)
      clear hlen
      go_enter Try.func29, Try.ntmps29
      go_wp2_with (first | (go_at_call 17; refine (specClaimsOk_any _ _ _ _ hc hn).mono ?_; rintro e w2 ⟨rfl, rfl⟩))
      go_ret
      exact Asks.no HN.out (Below.refl _ _)
  · have HN := hide (show ¬ PairP xs hs from fun h => hcl h.1)
    go_enter Try.func29, Try.ntmps29
    go_wp2_with (first | (go_at_call 17; refine (specClaimsOk_any _ _ _ _ hc hn).mono ?_; rintro e w2 ⟨rfl, rfl⟩))
    go_ret
    exact Asks.no HN.out (Below.refl _ _)

theorem law_IsPairwise (a : Option Addr) (cap : Nat) (xs : List Int) (a' : Option Addr) (cap' : Nat) (hs : List Int) (w : World) (hc : Rd w a xs) (hc' : Rd w a' hs) :
    Calls Try.prog 8 #[.slice a xs.length cap, .slice a' hs.length cap'] w fun e w' => Rets w (.bool true) e w' := by
  go_enter Try.func8, Try.ntmps8
  go_wp2_with fail
  · go_ret; exact ⟨rfl, (by repeat first | exact Below.refl _ _ | assumption | (refine belA ?_) | (refine belD ?_) | (refine belN ?_) | (refine belS ?_ (by simp <;> omega)) | (refine belT ?_ (by assumption)))⟩
  · go_ret; exact ⟨rfl, (by repeat first | exact Below.refl _ _ | assumption | (refine belA ?_) | (refine belD ?_) | (refine belN ?_) | (refine belS ?_ (by simp <;> omega)) | (refine belT ?_ (by assumption)))⟩
  · have hn : xs.length ≤ 1048576 := by omega
    have hn' : hs.length ≤ 1048576 := by omega
    refine (toIntS_any a cap xs w hc hn).mono ?_
    rintro e w1 ⟨g1, hg1, rfl, ho1, hb1⟩
    go_wp2_with fail
    refine (toIntS_any a' cap' hs w1 (hc'.below hb1) hn').mono ?_
    rintro e w2 ⟨g2, hg2, rfl, ho2, hb2⟩
    go_wp2_with fail
    refine (specIsPairwise_any _ _ _ _ xs hs _ (ho1.below hb2).rd ho2.rd hn hn').mono ?_
    rintro e w3 ⟨r1, rfl, hr1, hb3⟩
    go_wp2_with fail
    refine (toIntS_any a cap xs w3 (hc.below (belT (belT hb1 hb2) hb3)) hn).mono ?_
    rintro e w4 ⟨g4, hg4, rfl, ho4, hb4⟩
    go_wp2_with fail
    refine (toIntS_any a' cap' hs w4 (hc'.below (belT (belT (belT hb1 hb2) hb3) hb4)) hn').mono ?_
    rintro e w5 ⟨g5, hg5, rfl, ho5, hb5⟩
    go_wp2_with fail
    refine (implIsPairwise_any _ _ _ _ xs hs _ (ho4.below hb5).rd ho5.rd hn hn').mono ?_
    rintro e w6 ⟨r2, rfl, hr2, hb6⟩
    obtain rfl : r1 = r2 := Bool.eq_iff_iff.2 (hr1.trans hr2.symm)
    have h56 := belT (belT (belT (belT (belT hb1 hb2) hb3) hb4) hb5) hb6
    clear hr1 hr2
    go_wp2_with fail
    refine (toIntS_any a cap xs w6 (hc.below h56) hn).mono ?_
    rintro e w7 ⟨g7, hg7, rfl, ho7, hb7⟩
    go_wp2_with fail
    refine (eqIntS_any _ _ _ _ xs xs w7 (ho4.below (belT (belT hb5 hb6) hb7)).rd ho7.rd hn).mono ?_
    rintro e w8 ⟨rfl, hb8⟩
    go_wp2_with fail
    refine (toIntS_any a' cap' hs w8 (hc'.below (belT (belT h56 hb7) hb8)) hn').mono ?_
    rintro e w9 ⟨g9, hg9, rfl, ho9, hb9⟩
    go_wp2_with fail
    refine (eqIntS_any _ _ _ _ hs hs w9 (ho5.below (belT (belT (belT hb6 hb7) hb8) hb9)).rd ho9.rd hn').mono ?_
    rintro e w10 ⟨rfl, hb10⟩
    go_wp2
    all_goals go_ret
    all_goals exact ⟨rfl, (by repeat first | exact Below.refl _ _ | assumption | (refine belA ?_) | (refine belD ?_) | (refine belN ?_) | (refine belS ?_ (by simp <;> omega)) | (refine belT ?_ (by assumption)))⟩

end Go.Proofs.Ytjcemoofnonlkaa
