/- TurnsOk of the program. -/
import Derived.Test.YtnemccmjaanmnaaTrnM
import Derived.IntWalk
namespace Go.Proofs.Ytnemccmjaanmnaa
set_option linter.unusedSimpArgs false
set_option linter.unusedVariables false
open Go.RowKit

set_option maxHeartbeats 4000000 in
theorem implTurnsOk_any (a : Option Addr) (cap : Nat) (ts : List T3) (w : World) (hc : Rd3 w a ts) (hn : ts.length ≤ 1048576) :
    Calls Try.prog 13 #[.slice a ts.length cap] w fun e w' => Rets w (.bool (tsOk ts)) e w' := by
  go_enter Try.func13, Try.ntmps13
  go_wp2
  · go_returns
    exact ⟨ret_bool (by simp [tsOk]; omega), (by repeat first | exact Below.refl _ _ | assumption | (refine belA ?_) | (refine belD ?_) | (refine belN ?_) | (refine belS ?_ (by simp <;> omega)) | (refine belT ?_ (by assumption)))⟩
  go_loopw [10] (fun i wr => ∃ k : Nat, k ≤ ts.length ∧ i = .int .i64 k ∧ trOk 0 ts = trOk (prevTo ts k) (ts.drop k) ∧ Below w.heap.size w wr) (fun i _ => ts.length - (intOf i).toNat)
  case atStart => exact ⟨0, Nat.zero_le _, rfl, rfl, Below.refl _ _⟩
  case round =>
    obtain ⟨k, hk, rfl, hr, hbel⟩ := hrel
    have HR := hide hr
    clear hr
    by_cases hlt : k < ts.length
    · obtain ⟨b, off, rfl, hcell, hcell1, hcell2⟩ := hc.below hbel k hlt
      have hd := drop_getD3 ts k hlt
      have HN := hide (show prevTo ts (k + 1) = (ts.getD k default).2.2 from rfl)
      generalize ts.getD k default = x at *
      obtain ⟨x, y, z⟩ := x
      rw [hd] at HR
      clear hd
      simp only at hcell hcell1 hcell2 HN
      have bl := World.block_lt_of_cell? wr _ hcell
      simp at bl
      by_cases c1 : inB x 1 999 = true
      case neg =>
        have HF := hide (HR.out.trans (trOk_no (by rintro ⟨q1, q2, q3, q4, q5⟩; first | omega | simp_all)))
        have c1x : inB x 1 999 = false := by simpa using c1
        go_wp2
        (refine wp_region_g [0, 1, 2, 3, 4, 5, 6, 7, 8, 9, 10, 11, 12, 13, 14, 15, 16, 17, 18, 19, 20, 21, 22, 23, 24, 25, 26, 27, 28, 29, 30, 31, 32, 33, 34, 35] [] (by kernel_rfl) (by kernel_rfl) ?_; simp only [pick, List.map_cons, List.map_nil, Array.getD_eq_getD_getElem?, List.getElem?_toArray, List.getElem?_cons_zero, List.getElem?_cons_succ, Option.getD_some]; (iterate 36 (refine wpG_step (fun K hK => ?_); go_simp; first | (refine hK _ ?_; clear hK K) | (apply Exists.intro; refine ⟨fun _ => ?_, hK _ ?_⟩; ((go_at_call 33; exact same_g (within_any _ _ _ _))); clear hK K))); refine wpG_nil ?_)
        (refine wpT_end ?_; intro w2 hbr _; obtain ⟨hcb, hfb⟩ := bcell hbr; have hzr := hbr.size; (try simp at hzr); (try (refine ltk (a := w.heap.size) (b := w2.heap.size) ?_ ?_; (focus omega); intro _ _)); (try (refine ltk (a := w.heap.size + 1) (b := w2.heap.size) ?_ ?_; (focus omega); intro _ _)); (try (refine ltk (a := w.heap.size + 2) (b := w2.heap.size) ?_ ?_; (focus omega); intro _ _)); (try (refine ltk (a := w.heap.size + 3) (b := w2.heap.size) ?_ ?_; (focus omega); intro _ _)); (try (refine ltk (a := b) (b := w2.heap.size) ?_ ?_; (focus omega); intro _ _)))
        go_wp2
        go_returns
        exact ⟨ret_bool (by rw [tsOk, HF.out]; simp), (by repeat first | exact Below.refl _ _ | assumption | (refine belA ?_) | (refine belD ?_) | (refine belN ?_) | (refine belS ?_ (by simp <;> omega)) | (refine belT ?_ (by assumption)))⟩
      by_cases c2 : 0 ≤ y
      case neg =>
        have HF := hide (HR.out.trans (trOk_no (by rintro ⟨q1, q2, q3, q4, q5⟩; first | omega | simp_all)))
        have c2x : y < 0 := by omega
        go_wp2
        (refine wp_region_g [0, 1, 2, 3, 4, 5, 6, 7, 8, 9, 10, 11, 12, 13, 14, 15, 16, 17, 18, 19, 20, 21, 22, 23, 24, 25, 26, 27, 28, 29, 30, 31, 32, 33, 34, 35] [] (by kernel_rfl) (by kernel_rfl) ?_; simp only [pick, List.map_cons, List.map_nil, Array.getD_eq_getD_getElem?, List.getElem?_toArray, List.getElem?_cons_zero, List.getElem?_cons_succ, Option.getD_some]; (iterate 36 (refine wpG_step (fun K hK => ?_); go_simp; first | (refine hK _ ?_; clear hK K) | (apply Exists.intro; refine ⟨fun _ => ?_, hK _ ?_⟩; ((go_at_call 33; exact same_g (within_any _ _ _ _))); clear hK K))); refine wpG_nil ?_)
        (refine wpT_end ?_; intro w2 hbr _; obtain ⟨hcb, hfb⟩ := bcell hbr; have hzr := hbr.size; (try simp at hzr); (try (refine ltk (a := w.heap.size) (b := w2.heap.size) ?_ ?_; (focus omega); intro _ _)); (try (refine ltk (a := w.heap.size + 1) (b := w2.heap.size) ?_ ?_; (focus omega); intro _ _)); (try (refine ltk (a := w.heap.size + 2) (b := w2.heap.size) ?_ ?_; (focus omega); intro _ _)); (try (refine ltk (a := w.heap.size + 3) (b := w2.heap.size) ?_ ?_; (focus omega); intro _ _)); (try (refine ltk (a := b) (b := w2.heap.size) ?_ ?_; (focus omega); intro _ _)))
        go_wp2
        go_returns
        exact ⟨ret_bool (by rw [tsOk, HF.out]; simp), (by repeat first | exact Below.refl _ _ | assumption | (refine belA ?_) | (refine belD ?_) | (refine belN ?_) | (refine belS ?_ (by simp <;> omega)) | (refine belT ?_ (by assumption)))⟩
      by_cases c3 : y < z
      case neg =>
        have HF := hide (HR.out.trans (trOk_no (by rintro ⟨q1, q2, q3, q4, q5⟩; first | omega | simp_all)))
        have c3x : z ≤ y := by omega
        go_wp2
        (refine wp_region_g [0, 1, 2, 3, 4, 5, 6, 7, 8, 9, 10, 11, 12, 13, 14, 15, 16, 17, 18, 19, 20, 21, 22, 23, 24, 25, 26, 27, 28, 29, 30, 31, 32, 33, 34, 35] [] (by kernel_rfl) (by kernel_rfl) ?_; simp only [pick, List.map_cons, List.map_nil, Array.getD_eq_getD_getElem?, List.getElem?_toArray, List.getElem?_cons_zero, List.getElem?_cons_succ, Option.getD_some]; (iterate 36 (refine wpG_step (fun K hK => ?_); go_simp; first | (refine hK _ ?_; clear hK K) | (apply Exists.intro; refine ⟨fun _ => ?_, hK _ ?_⟩; ((go_at_call 33; exact same_g (within_any _ _ _ _))); clear hK K))); refine wpG_nil ?_)
        (refine wpT_end ?_; intro w2 hbr _; obtain ⟨hcb, hfb⟩ := bcell hbr; have hzr := hbr.size; (try simp at hzr); (try (refine ltk (a := w.heap.size) (b := w2.heap.size) ?_ ?_; (focus omega); intro _ _)); (try (refine ltk (a := w.heap.size + 1) (b := w2.heap.size) ?_ ?_; (focus omega); intro _ _)); (try (refine ltk (a := w.heap.size + 2) (b := w2.heap.size) ?_ ?_; (focus omega); intro _ _)); (try (refine ltk (a := w.heap.size + 3) (b := w2.heap.size) ?_ ?_; (focus omega); intro _ _)); (try (refine ltk (a := b) (b := w2.heap.size) ?_ ?_; (focus omega); intro _ _)))
        go_wp2
        go_returns
        exact ⟨ret_bool (by rw [tsOk, HF.out]; simp), (by repeat first | exact Below.refl _ _ | assumption | (refine belA ?_) | (refine belD ?_) | (refine belN ?_) | (refine belS ?_ (by simp <;> omega)) | (refine belT ?_ (by assumption)))⟩
      by_cases c4 : z ≤ 168
      case neg =>
        have HF := hide (HR.out.trans (trOk_no (by rintro ⟨q1, q2, q3, q4, q5⟩; first | omega | simp_all)))
        have c4x : 168 < z := by omega
        go_wp2
        (refine wp_region_g [0, 1, 2, 3, 4, 5, 6, 7, 8, 9, 10, 11, 12, 13, 14, 15, 16, 17, 18, 19, 20, 21, 22, 23, 24, 25, 26, 27, 28, 29, 30, 31, 32, 33, 34, 35] [] (by kernel_rfl) (by kernel_rfl) ?_; simp only [pick, List.map_cons, List.map_nil, Array.getD_eq_getD_getElem?, List.getElem?_toArray, List.getElem?_cons_zero, List.getElem?_cons_succ, Option.getD_some]; (iterate 36 (refine wpG_step (fun K hK => ?_); go_simp; first | (refine hK _ ?_; clear hK K) | (apply Exists.intro; refine ⟨fun _ => ?_, hK _ ?_⟩; ((go_at_call 33; exact same_g (within_any _ _ _ _))); clear hK K))); refine wpG_nil ?_)
        (refine wpT_end ?_; intro w2 hbr _; obtain ⟨hcb, hfb⟩ := bcell hbr; have hzr := hbr.size; (try simp at hzr); (try (refine ltk (a := w.heap.size) (b := w2.heap.size) ?_ ?_; (focus omega); intro _ _)); (try (refine ltk (a := w.heap.size + 1) (b := w2.heap.size) ?_ ?_; (focus omega); intro _ _)); (try (refine ltk (a := w.heap.size + 2) (b := w2.heap.size) ?_ ?_; (focus omega); intro _ _)); (try (refine ltk (a := w.heap.size + 3) (b := w2.heap.size) ?_ ?_; (focus omega); intro _ _)); (try (refine ltk (a := b) (b := w2.heap.size) ?_ ?_; (focus omega); intro _ _)))
        go_wp2
        go_returns
        exact ⟨ret_bool (by rw [tsOk, HF.out]; simp), (by repeat first | exact Below.refl _ _ | assumption | (refine belA ?_) | (refine belD ?_) | (refine belN ?_) | (refine belS ?_ (by simp <;> omega)) | (refine belT ?_ (by assumption)))⟩
      rcases Nat.eq_zero_or_pos k with hk0 | hk0
      · subst hk0
        simp only [Nat.zero_mul, Nat.add_zero] at hcell hcell1 hcell2
        have HY := hide (HR.out.trans (trOk_yes c1 c2 c3 c4 c2))
        go_wp2
        (refine wp_region_g [0, 1, 2, 3, 4, 5, 6, 7, 8, 9, 10, 11, 12, 13, 14, 15, 16, 17, 18, 19, 20, 21, 22, 23, 24, 25, 26, 27, 28, 29, 30, 31, 32, 33, 34, 35] [] (by kernel_rfl) (by kernel_rfl) ?_; simp only [pick, List.map_cons, List.map_nil, Array.getD_eq_getD_getElem?, List.getElem?_toArray, List.getElem?_cons_zero, List.getElem?_cons_succ, Option.getD_some]; (iterate 36 (refine wpG_step (fun K hK => ?_); go_simp; first | (refine hK _ ?_; clear hK K) | (apply Exists.intro; refine ⟨fun _ => ?_, hK _ ?_⟩; ((go_at_call 33; exact same_g (within_any _ _ _ _))); clear hK K))); refine wpG_nil ?_)
        (refine wpT_end ?_; intro w2 hbr _; obtain ⟨hcb, hfb⟩ := bcell hbr; have hzr := hbr.size; (try simp at hzr); (try (refine ltk (a := w.heap.size) (b := w2.heap.size) ?_ ?_; (focus omega); intro _ _)); (try (refine ltk (a := w.heap.size + 1) (b := w2.heap.size) ?_ ?_; (focus omega); intro _ _)); (try (refine ltk (a := w.heap.size + 2) (b := w2.heap.size) ?_ ?_; (focus omega); intro _ _)); (try (refine ltk (a := w.heap.size + 3) (b := w2.heap.size) ?_ ?_; (focus omega); intro _ _)); (try (refine ltk (a := b) (b := w2.heap.size) ?_ ?_; (focus omega); intro _ _)))
        go_wp2
        go_roundw
        case rel => exact ⟨0 + 1, by omega, by go_num, by rw [HY.out, HN.out], (by repeat first | exact Below.refl _ _ | assumption | (refine belA ?_) | (refine belD ?_) | (refine belN ?_) | (refine belS ?_ (by simp <;> omega)) | (refine belT ?_ (by assumption)))⟩
        case measure => simp [intOf]; omega
      · obtain ⟨m, rfl⟩ : ∃ m, k = m + 1 := ⟨k - 1, by omega⟩
        obtain ⟨b', off', hbb, _, _, hcellp⟩ := hc.below hbel m (by omega)
        cases hbb
        have bl' : b < wr.heap.size + 1 := by omega
        have i1 : (0 : Int) ≤ (m : Int) := by omega
        have i2 : (m : Int) < (ts.length : Int) := by omega
        have HP := hide (show prevTo ts (m + 1) = (ts.getD m default).2.2 from rfl)
        generalize (ts.getD m default).2.2 = pz at *
        have iw : IntKind.i64.wrap (m : Int) = (m : Int) := IntWalk.i64_in _ (by omega)
        by_cases c5 : pz ≤ y
        · have HY := hide (HR.out.trans (trOk_yes c1 c2 c3 c4 (by rw [HP.out]; exact c5)))
          go_wp2
          (refine wp_region_g [0, 1, 2, 3, 4, 5, 6, 7, 8, 9, 10, 11, 12, 13, 14, 15, 16, 17, 18, 19, 20, 21, 22, 23, 24, 25, 26, 27, 28, 29, 30, 31, 32, 33, 34, 35] [] (by kernel_rfl) (by kernel_rfl) ?_; simp only [pick, List.map_cons, List.map_nil, Array.getD_eq_getD_getElem?, List.getElem?_toArray, List.getElem?_cons_zero, List.getElem?_cons_succ, Option.getD_some]; (iterate 36 (refine wpG_step (fun K hK => ?_); go_simp; first | (refine hK _ ?_; clear hK K) | (apply Exists.intro; refine ⟨fun _ => ?_, hK _ ?_⟩; ((go_at_call 33; exact same_g (within_any _ _ _ _))); clear hK K))); refine wpG_nil ?_)
          (refine wpT_end ?_; intro w2 hbr _; obtain ⟨hcb, hfb⟩ := bcell hbr; have hzr := hbr.size; (try simp at hzr); (try (refine ltk (a := w.heap.size) (b := w2.heap.size) ?_ ?_; (focus omega); intro _ _)); (try (refine ltk (a := w.heap.size + 1) (b := w2.heap.size) ?_ ?_; (focus omega); intro _ _)); (try (refine ltk (a := w.heap.size + 2) (b := w2.heap.size) ?_ ?_; (focus omega); intro _ _)); (try (refine ltk (a := w.heap.size + 3) (b := w2.heap.size) ?_ ?_; (focus omega); intro _ _)); (try (refine ltk (a := b) (b := w2.heap.size) ?_ ?_; (focus omega); intro _ _)))
          go_wp2
          go_roundw
          case rel => exact ⟨m + 1 + 1, by omega, by go_num, by rw [HY.out, HN.out], (by repeat first | exact Below.refl _ _ | assumption | (refine belA ?_) | (refine belD ?_) | (refine belN ?_) | (refine belS ?_ (by simp <;> omega)) | (refine belT ?_ (by assumption)))⟩
          case measure => simp [intOf]; omega
        · have HF := hide (HR.out.trans (trOk_no (by rw [HP.out]; rintro ⟨q1, q2, q3, q4, q5⟩; omega)))
          have c5x : y < pz := by omega
          go_wp2
          (refine wp_region_g [0, 1, 2, 3, 4, 5, 6, 7, 8, 9, 10, 11, 12, 13, 14, 15, 16, 17, 18, 19, 20, 21, 22, 23, 24, 25, 26, 27, 28, 29, 30, 31, 32, 33, 34, 35] [] (by kernel_rfl) (by kernel_rfl) ?_; simp only [pick, List.map_cons, List.map_nil, Array.getD_eq_getD_getElem?, List.getElem?_toArray, List.getElem?_cons_zero, List.getElem?_cons_succ, Option.getD_some]; (iterate 36 (refine wpG_step (fun K hK => ?_); go_simp; first | (refine hK _ ?_; clear hK K) | (apply Exists.intro; refine ⟨fun _ => ?_, hK _ ?_⟩; ((go_at_call 33; exact same_g (within_any _ _ _ _))); clear hK K))); refine wpG_nil ?_)
          (refine wpT_end ?_; intro w2 hbr _; obtain ⟨hcb, hfb⟩ := bcell hbr; have hzr := hbr.size; (try simp at hzr); (try (refine ltk (a := w.heap.size) (b := w2.heap.size) ?_ ?_; (focus omega); intro _ _)); (try (refine ltk (a := w.heap.size + 1) (b := w2.heap.size) ?_ ?_; (focus omega); intro _ _)); (try (refine ltk (a := w.heap.size + 2) (b := w2.heap.size) ?_ ?_; (focus omega); intro _ _)); (try (refine ltk (a := w.heap.size + 3) (b := w2.heap.size) ?_ ?_; (focus omega); intro _ _)); (try (refine ltk (a := b) (b := w2.heap.size) ?_ ?_; (focus omega); intro _ _)))
          go_wp2
          go_returns
          exact ⟨ret_bool (by rw [tsOk, HF.out]; simp), (by repeat first | exact Below.refl _ _ | assumption | (refine belA ?_) | (refine belD ?_) | (refine belN ?_) | (refine belS ?_ (by simp <;> omega)) | (refine belT ?_ (by assumption)))⟩
    · go_wp2
      go_returns
      exact ⟨ret_bool (by rw [tsOk, HR.out, List.drop_of_length_le (by omega)]; simp [trOk]; omega), (by repeat first | exact Below.refl _ _ | assumption | (refine belA ?_) | (refine belD ?_) | (refine belN ?_) | (refine belS ?_ (by simp <;> omega)) | (refine belT ?_ (by assumption)))⟩
end Go.Proofs.Ytnemccmjaanmnaa
