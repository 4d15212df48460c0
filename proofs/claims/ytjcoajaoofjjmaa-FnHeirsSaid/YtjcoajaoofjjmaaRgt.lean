/- RightsOk of the program. -/
import Derived.Test.YtjcoajaoofjjmaaRgtM
namespace Go.Proofs.Ytjcoajaoofjjmaa
set_option linter.unusedSimpArgs false
set_option linter.unusedVariables false
open Go.RowKit

set_option maxHeartbeats 8000000 in
theorem implRightsOk_any (a : Option Addr) (cap : Nat) (ts : List T3) (w : World) (hc : Rd3 w a ts) (hn : ts.length ≤ 1048576) :
    Calls Try.prog 22 #[.slice a ts.length cap] w fun e w' => Rets w (.bool (rightsM ts)) e w' := by
  by_cases h12 : inB ts.length 1 12 = true
  case neg =>
    have h12' : inB ts.length 1 12 = false := by simpa using h12
    have HM := hide (show rightsM ts = false by simp [rightsM, h12'])
    go_enter Try.func22, Try.ntmps22
    go_wp2_with (first | (go_at_call 58; refine (within_any _ _ _ _).mono ?_; rintro e w2 ⟨rfl, rfl⟩))
    go_ret
    exact ⟨ret_bool HM.out.symm, (by repeat first | exact Below.refl _ _ | assumption | (refine belA ?_) | (refine belD ?_) | (refine belN ?_) | (refine belS ?_ (by simp <;> omega)) | (refine belT ?_ (by assumption)))⟩
  have H12 := hide h12
  obtain ⟨l1, l2⟩ := inB_iff.1 h12
  go_enter Try.func22, Try.ntmps22
  go_wp2_with (first | (go_at_call 58; refine (within_any _ _ _ _).mono ?_; rintro e w2 ⟨rfl, rfl⟩))
  clear h12
  go_loopw [13] (fun i wr => ∃ k : Nat, k ≤ ts.length ∧ i = .int .i64 k ∧ rgA 0 ts = rgA (prevO ts k) (ts.drop k) ∧ Below w.heap.size w wr) (fun i _ => ts.length - (intOf i).toNat)
  case atStart => exact ⟨0, Nat.zero_le _, rfl, rfl, Below.refl _ _⟩
  case round =>
    obtain ⟨k, hk, rfl, hr, hbel⟩ := hrel
    have HR := hide hr
    clear hr
    by_cases hlt : k < ts.length
    · obtain ⟨b, off, rfl, hcell, hcell1, hcell2⟩ := hc.below hbel k hlt
      have hd := drop_getD3 ts k hlt
      have HN := hide (show prevO ts (k + 1) = (ts.getD k default).1 from rfl)
      generalize ts.getD k default = x at *
      obtain ⟨x, y, z⟩ := x
      rw [hd] at HR
      clear hd
      simp only at hcell hcell1 hcell2 HN
      have bl := World.block_lt_of_cell? wr _ hcell
      simp at bl
      by_cases c1 : inB x 1 999 = true
      case neg =>
        have HF := hide (HR.out.trans (rgA_no (by rintro ⟨q1, q2, q3, q4⟩; exact c1 q1)))
        have c1x : inB x 1 999 = false := by simpa using c1
        go_wp2
        (refine wp_region_g [0, 1, 2, 3, 4, 5, 6, 7, 8, 9, 10, 11, 12, 13, 14, 15, 16, 17, 18, 19, 20, 21, 22, 23, 24, 25, 26, 27, 28, 29, 30] [] (by kernel_rfl) (by kernel_rfl) ?_; simp only [pick, List.map_cons, List.map_nil, Array.getD_eq_getD_getElem?, List.getElem?_toArray, List.getElem?_cons_zero, List.getElem?_cons_succ, Option.getD_some]; (iterate 31 (refine wpG_step (fun K hK => ?_); go_simp; first | (refine hK _ ?_; clear hK K) | (apply Exists.intro; refine ⟨fun _ => ?_, hK _ ?_⟩; ((first | (go_at_call 58; exact same_g (within_any _ _ _ _)) | (go_at_call 59; exact implFractionOk_any _ _ _))); clear hK K))); refine wpG_nil ?_)
        (refine wpT_end ?_; intro w2 hbr _; obtain ⟨hcb, hfb⟩ := bcell hbr; have hzr := hbr.size; (try simp at hzr); (try (refine ltk (a := w.heap.size) (b := w2.heap.size) ?_ ?_; (focus omega); intro _ _)); (try (refine ltk (a := w.heap.size + 1) (b := w2.heap.size) ?_ ?_; (focus omega); intro _ _)); (try (refine ltk (a := w.heap.size + 2) (b := w2.heap.size) ?_ ?_; (focus omega); intro _ _)); (try (refine ltk (a := w.heap.size + 3) (b := w2.heap.size) ?_ ?_; (focus omega); intro _ _)); (try (refine ltk (a := b) (b := w2.heap.size) ?_ ?_; (focus omega); intro _ _)))
        go_wp2
        go_returns
        exact ⟨ret_bool (by rw [rightsM, HF.out]; simp), (by repeat first | exact Below.refl _ _ | assumption | (refine belA ?_) | (refine belD ?_) | (refine belN ?_) | (refine belS ?_ (by simp <;> omega)) | (refine belT ?_ (by assumption)))⟩
      rcases Nat.eq_zero_or_pos k with hk0 | hk0
      · subst hk0
        simp only [Nat.zero_mul, Nat.add_zero] at hcell hcell1 hcell2
        by_cases c2 : frOk y z = true
        case neg =>
          have HF := hide (HR.out.trans (rgA_no (by rintro ⟨q1, q2, q3, q4⟩; exact c2 q3)))
          have c2x : frOk y z = false := by simpa using c2
          go_wp2
          (refine wp_region_g [0, 1, 2, 3, 4, 5, 6, 7, 8, 9, 10, 11, 12, 13, 14, 15, 16, 17, 18, 19, 20, 21, 22, 23, 24, 25, 26, 27, 28, 29, 30] [] (by kernel_rfl) (by kernel_rfl) ?_; simp only [pick, List.map_cons, List.map_nil, Array.getD_eq_getD_getElem?, List.getElem?_toArray, List.getElem?_cons_zero, List.getElem?_cons_succ, Option.getD_some]; (iterate 31 (refine wpG_step (fun K hK => ?_); go_simp; first | (refine hK _ ?_; clear hK K) | (apply Exists.intro; refine ⟨fun _ => ?_, hK _ ?_⟩; ((first | (go_at_call 58; exact same_g (within_any _ _ _ _)) | (go_at_call 59; exact implFractionOk_any _ _ _))); clear hK K))); refine wpG_nil ?_)
          (refine wpT_end ?_; intro w2 hbr _; obtain ⟨hcb, hfb⟩ := bcell hbr; have hzr := hbr.size; (try simp at hzr); (try (refine ltk (a := w.heap.size) (b := w2.heap.size) ?_ ?_; (focus omega); intro _ _)); (try (refine ltk (a := w.heap.size + 1) (b := w2.heap.size) ?_ ?_; (focus omega); intro _ _)); (try (refine ltk (a := w.heap.size + 2) (b := w2.heap.size) ?_ ?_; (focus omega); intro _ _)); (try (refine ltk (a := w.heap.size + 3) (b := w2.heap.size) ?_ ?_; (focus omega); intro _ _)); (try (refine ltk (a := b) (b := w2.heap.size) ?_ ?_; (focus omega); intro _ _)))
          go_wp2
          go_returns
          exact ⟨ret_bool (by rw [rightsM, HF.out]; simp), (by repeat first | exact Below.refl _ _ | assumption | (refine belA ?_) | (refine belD ?_) | (refine belN ?_) | (refine belS ?_ (by simp <;> omega)) | (refine belT ?_ (by assumption)))⟩
        by_cases c3 : y = 0
        · have HF := hide (HR.out.trans (rgA_no (by rintro ⟨q1, q2, q3, q4⟩; exact q4 c3)))
          subst c3
          go_wp2
          (refine wp_region_g [0, 1, 2, 3, 4, 5, 6, 7, 8, 9, 10, 11, 12, 13, 14, 15, 16, 17, 18, 19, 20, 21, 22, 23, 24, 25, 26, 27, 28, 29, 30] [] (by kernel_rfl) (by kernel_rfl) ?_; simp only [pick, List.map_cons, List.map_nil, Array.getD_eq_getD_getElem?, List.getElem?_toArray, List.getElem?_cons_zero, List.getElem?_cons_succ, Option.getD_some]; (iterate 31 (refine wpG_step (fun K hK => ?_); go_simp; first | (refine hK _ ?_; clear hK K) | (apply Exists.intro; refine ⟨fun _ => ?_, hK _ ?_⟩; ((first | (go_at_call 58; exact same_g (within_any _ _ _ _)) | (go_at_call 59; exact implFractionOk_any _ _ _))); clear hK K))); refine wpG_nil ?_)
          (refine wpT_end ?_; intro w2 hbr _; obtain ⟨hcb, hfb⟩ := bcell hbr; have hzr := hbr.size; (try simp at hzr); (try (refine ltk (a := w.heap.size) (b := w2.heap.size) ?_ ?_; (focus omega); intro _ _)); (try (refine ltk (a := w.heap.size + 1) (b := w2.heap.size) ?_ ?_; (focus omega); intro _ _)); (try (refine ltk (a := w.heap.size + 2) (b := w2.heap.size) ?_ ?_; (focus omega); intro _ _)); (try (refine ltk (a := w.heap.size + 3) (b := w2.heap.size) ?_ ?_; (focus omega); intro _ _)); (try (refine ltk (a := b) (b := w2.heap.size) ?_ ?_; (focus omega); intro _ _)))
          go_wp2
          go_returns
          exact ⟨ret_bool (by rw [rightsM, HF.out]; simp), (by repeat first | exact Below.refl _ _ | assumption | (refine belA ?_) | (refine belD ?_) | (refine belN ?_) | (refine belS ?_ (by simp <;> omega)) | (refine belT ?_ (by assumption)))⟩
        · have HY := hide (HR.out.trans (rgA_yes c1 (by have := inB_iff.1 c1; show (0 : Int) < x; omega) c2 c3))
          have c3x : (y == 0) = false := by simpa using c3
          go_wp2
          (refine wp_region_g [0, 1, 2, 3, 4, 5, 6, 7, 8, 9, 10, 11, 12, 13, 14, 15, 16, 17, 18, 19, 20, 21, 22, 23, 24, 25, 26, 27, 28, 29, 30] [] (by kernel_rfl) (by kernel_rfl) ?_; simp only [pick, List.map_cons, List.map_nil, Array.getD_eq_getD_getElem?, List.getElem?_toArray, List.getElem?_cons_zero, List.getElem?_cons_succ, Option.getD_some]; (iterate 31 (refine wpG_step (fun K hK => ?_); go_simp; first | (refine hK _ ?_; clear hK K) | (apply Exists.intro; refine ⟨fun _ => ?_, hK _ ?_⟩; ((first | (go_at_call 58; exact same_g (within_any _ _ _ _)) | (go_at_call 59; exact implFractionOk_any _ _ _))); clear hK K))); refine wpG_nil ?_)
          (refine wpT_end ?_; intro w2 hbr _; obtain ⟨hcb, hfb⟩ := bcell hbr; have hzr := hbr.size; (try simp at hzr); (try (refine ltk (a := w.heap.size) (b := w2.heap.size) ?_ ?_; (focus omega); intro _ _)); (try (refine ltk (a := w.heap.size + 1) (b := w2.heap.size) ?_ ?_; (focus omega); intro _ _)); (try (refine ltk (a := w.heap.size + 2) (b := w2.heap.size) ?_ ?_; (focus omega); intro _ _)); (try (refine ltk (a := w.heap.size + 3) (b := w2.heap.size) ?_ ?_; (focus omega); intro _ _)); (try (refine ltk (a := b) (b := w2.heap.size) ?_ ?_; (focus omega); intro _ _)))
          go_wp2
          go_roundw
          case rel => exact ⟨0 + 1, by omega, by go_num, by rw [HY.out, HN.out], (by repeat first | exact Below.refl _ _ | assumption | (refine belA ?_) | (refine belD ?_) | (refine belN ?_) | (refine belS ?_ (by simp <;> omega)) | (refine belT ?_ (by assumption)))⟩
          case measure => simp [intOf]; omega
      · obtain ⟨m, rfl⟩ : ∃ m, k = m + 1 := ⟨k - 1, by omega⟩
        obtain ⟨b', off', hbb, hcellp, _, _⟩ := hc.below hbel m (by omega)
        cases hbb
        have bl' : b < wr.heap.size + 1 := by omega
        have i1 : (0 : Int) ≤ (m : Int) := by omega
        have i2 : (m : Int) < (ts.length : Int) := by omega
        have HP := hide (show prevO ts (m + 1) = (ts.getD m default).1 from rfl)
        generalize (ts.getD m default).1 = pz at *
        have iw : IntKind.i64.wrap (m : Int) = (m : Int) := IntWalk.i64_in _ (by omega)
        by_cases c5 : pz < x
        case neg =>
          have HF := hide (HR.out.trans (rgA_no (by rw [HP.out]; rintro ⟨q1, q2, q3, q4⟩; exact c5 q2)))
          have c5x : x ≤ pz := by omega
          go_wp2
          (refine wp_region_g [0, 1, 2, 3, 4, 5, 6, 7, 8, 9, 10, 11, 12, 13, 14, 15, 16, 17, 18, 19, 20, 21, 22, 23, 24, 25, 26, 27, 28, 29, 30] [] (by kernel_rfl) (by kernel_rfl) ?_; simp only [pick, List.map_cons, List.map_nil, Array.getD_eq_getD_getElem?, List.getElem?_toArray, List.getElem?_cons_zero, List.getElem?_cons_succ, Option.getD_some]; (iterate 31 (refine wpG_step (fun K hK => ?_); go_simp; first | (refine hK _ ?_; clear hK K) | (apply Exists.intro; refine ⟨fun _ => ?_, hK _ ?_⟩; ((first | (go_at_call 58; exact same_g (within_any _ _ _ _)) | (go_at_call 59; exact implFractionOk_any _ _ _))); clear hK K))); refine wpG_nil ?_)
          (refine wpT_end ?_; intro w2 hbr _; obtain ⟨hcb, hfb⟩ := bcell hbr; have hzr := hbr.size; (try simp at hzr); (try (refine ltk (a := w.heap.size) (b := w2.heap.size) ?_ ?_; (focus omega); intro _ _)); (try (refine ltk (a := w.heap.size + 1) (b := w2.heap.size) ?_ ?_; (focus omega); intro _ _)); (try (refine ltk (a := w.heap.size + 2) (b := w2.heap.size) ?_ ?_; (focus omega); intro _ _)); (try (refine ltk (a := w.heap.size + 3) (b := w2.heap.size) ?_ ?_; (focus omega); intro _ _)); (try (refine ltk (a := b) (b := w2.heap.size) ?_ ?_; (focus omega); intro _ _)))
          go_wp2
          go_returns
          exact ⟨ret_bool (by rw [rightsM, HF.out]; simp), (by repeat first | exact Below.refl _ _ | assumption | (refine belA ?_) | (refine belD ?_) | (refine belN ?_) | (refine belS ?_ (by simp <;> omega)) | (refine belT ?_ (by assumption)))⟩
        by_cases c2 : frOk y z = true
        case neg =>
          have HF := hide (HR.out.trans (rgA_no (by rintro ⟨q1, q2, q3, q4⟩; exact c2 q3)))
          have c2x : frOk y z = false := by simpa using c2
          go_wp2
          (refine wp_region_g [0, 1, 2, 3, 4, 5, 6, 7, 8, 9, 10, 11, 12, 13, 14, 15, 16, 17, 18, 19, 20, 21, 22, 23, 24, 25, 26, 27, 28, 29, 30] [] (by kernel_rfl) (by kernel_rfl) ?_; simp only [pick, List.map_cons, List.map_nil, Array.getD_eq_getD_getElem?, List.getElem?_toArray, List.getElem?_cons_zero, List.getElem?_cons_succ, Option.getD_some]; (iterate 31 (refine wpG_step (fun K hK => ?_); go_simp; first | (refine hK _ ?_; clear hK K) | (apply Exists.intro; refine ⟨fun _ => ?_, hK _ ?_⟩; ((first | (go_at_call 58; exact same_g (within_any _ _ _ _)) | (go_at_call 59; exact implFractionOk_any _ _ _))); clear hK K))); refine wpG_nil ?_)
          (refine wpT_end ?_; intro w2 hbr _; obtain ⟨hcb, hfb⟩ := bcell hbr; have hzr := hbr.size; (try simp at hzr); (try (refine ltk (a := w.heap.size) (b := w2.heap.size) ?_ ?_; (focus omega); intro _ _)); (try (refine ltk (a := w.heap.size + 1) (b := w2.heap.size) ?_ ?_; (focus omega); intro _ _)); (try (refine ltk (a := w.heap.size + 2) (b := w2.heap.size) ?_ ?_; (focus omega); intro _ _)); (try (refine ltk (a := w.heap.size + 3) (b := w2.heap.size) ?_ ?_; (focus omega); intro _ _)); (try (refine ltk (a := b) (b := w2.heap.size) ?_ ?_; (focus omega); intro _ _)))
          go_wp2
          go_returns
          exact ⟨ret_bool (by rw [rightsM, HF.out]; simp), (by repeat first | exact Below.refl _ _ | assumption | (refine belA ?_) | (refine belD ?_) | (refine belN ?_) | (refine belS ?_ (by simp <;> omega)) | (refine belT ?_ (by assumption)))⟩
        by_cases c3 : y = 0
        · have HF := hide (HR.out.trans (rgA_no (by rintro ⟨q1, q2, q3, q4⟩; exact q4 c3)))
          subst c3
          go_wp2
          (refine wp_region_g [0, 1, 2, 3, 4, 5, 6, 7, 8, 9, 10, 11, 12, 13, 14, 15, 16, 17, 18, 19, 20, 21, 22, 23, 24, 25, 26, 27, 28, 29, 30] [] (by kernel_rfl) (by kernel_rfl) ?_; simp only [pick, List.map_cons, List.map_nil, Array.getD_eq_getD_getElem?, List.getElem?_toArray, List.getElem?_cons_zero, List.getElem?_cons_succ, Option.getD_some]; (iterate 31 (refine wpG_step (fun K hK => ?_); go_simp; first | (refine hK _ ?_; clear hK K) | (apply Exists.intro; refine ⟨fun _ => ?_, hK _ ?_⟩; ((first | (go_at_call 58; exact same_g (within_any _ _ _ _)) | (go_at_call 59; exact implFractionOk_any _ _ _))); clear hK K))); refine wpG_nil ?_)
          (refine wpT_end ?_; intro w2 hbr _; obtain ⟨hcb, hfb⟩ := bcell hbr; have hzr := hbr.size; (try simp at hzr); (try (refine ltk (a := w.heap.size) (b := w2.heap.size) ?_ ?_; (focus omega); intro _ _)); (try (refine ltk (a := w.heap.size + 1) (b := w2.heap.size) ?_ ?_; (focus omega); intro _ _)); (try (refine ltk (a := w.heap.size + 2) (b := w2.heap.size) ?_ ?_; (focus omega); intro _ _)); (try (refine ltk (a := w.heap.size + 3) (b := w2.heap.size) ?_ ?_; (focus omega); intro _ _)); (try (refine ltk (a := b) (b := w2.heap.size) ?_ ?_; (focus omega); intro _ _)))
          go_wp2
          go_returns
          exact ⟨ret_bool (by rw [rightsM, HF.out]; simp), (by repeat first | exact Below.refl _ _ | assumption | (refine belA ?_) | (refine belD ?_) | (refine belN ?_) | (refine belS ?_ (by simp <;> omega)) | (refine belT ?_ (by assumption)))⟩
        · have HY := hide (HR.out.trans (rgA_yes c1 (by rw [HP.out]; exact c5) c2 c3))
          have c3x : (y == 0) = false := by simpa using c3
          go_wp2
          (refine wp_region_g [0, 1, 2, 3, 4, 5, 6, 7, 8, 9, 10, 11, 12, 13, 14, 15, 16, 17, 18, 19, 20, 21, 22, 23, 24, 25, 26, 27, 28, 29, 30] [] (by kernel_rfl) (by kernel_rfl) ?_; simp only [pick, List.map_cons, List.map_nil, Array.getD_eq_getD_getElem?, List.getElem?_toArray, List.getElem?_cons_zero, List.getElem?_cons_succ, Option.getD_some]; (iterate 31 (refine wpG_step (fun K hK => ?_); go_simp; first | (refine hK _ ?_; clear hK K) | (apply Exists.intro; refine ⟨fun _ => ?_, hK _ ?_⟩; ((first | (go_at_call 58; exact same_g (within_any _ _ _ _)) | (go_at_call 59; exact implFractionOk_any _ _ _))); clear hK K))); refine wpG_nil ?_)
          (refine wpT_end ?_; intro w2 hbr _; obtain ⟨hcb, hfb⟩ := bcell hbr; have hzr := hbr.size; (try simp at hzr); (try (refine ltk (a := w.heap.size) (b := w2.heap.size) ?_ ?_; (focus omega); intro _ _)); (try (refine ltk (a := w.heap.size + 1) (b := w2.heap.size) ?_ ?_; (focus omega); intro _ _)); (try (refine ltk (a := w.heap.size + 2) (b := w2.heap.size) ?_ ?_; (focus omega); intro _ _)); (try (refine ltk (a := w.heap.size + 3) (b := w2.heap.size) ?_ ?_; (focus omega); intro _ _)); (try (refine ltk (a := b) (b := w2.heap.size) ?_ ?_; (focus omega); intro _ _)))
          go_wp2
          go_roundw
          case rel => exact ⟨m + 1 + 1, by omega, by go_num, by rw [HY.out, HN.out], (by repeat first | exact Below.refl _ _ | assumption | (refine belA ?_) | (refine belD ?_) | (refine belN ?_) | (refine belS ?_ (by simp <;> omega)) | (refine belT ?_ (by assumption)))⟩
          case measure => simp [intOf]; omega
    · have HE := hide (rights_impl ts H12.out (by rw [HR.out, List.drop_of_length_le (by omega)]; rfl))
      have hcr := hc.below hbel
      have HS := hide (fun W (h : Rd3 W a ts) => implSumOfShares_any a cap ts W h hn)
      generalize sumM ts = S at *
      go_wp2_with fail
      (with_reducible refine (HS.out _ hcr).mono ?_)
      rintro e w2 ⟨rfl, hb2⟩
      rcases S with _ | ⟨s1, s2⟩
      · simp only [oT, oB, Option.isSome_none]
        go_wp2
        go_returns
        exact ⟨ret_bool (by rw [← HE.out]; rfl), (by repeat first | exact Below.refl _ _ | assumption | (refine belA ?_) | (refine belD ?_) | (refine belN ?_) | (refine belS ?_ (by simp <;> omega)) | (refine belT ?_ (by assumption)))⟩
      · simp only [oT, oB, Option.isSome_some]
        go_wp2
        all_goals go_returns
        all_goals exact ⟨ret_bool (by rw [← HE.out]; clear HE HS; simp_all [oT, oB]), (by repeat first | exact Below.refl _ _ | assumption | (refine belA ?_) | (refine belD ?_) | (refine belN ?_) | (refine belS ?_ (by simp <;> omega)) | (refine belT ?_ (by assumption)))⟩

end Go.Proofs.Ytjcoajaoofjjmaa
