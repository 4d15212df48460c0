/- The largest owner, the smallest share. -/
import Derived.Test.YtjcoajaoofjjmaaRgt2
namespace Go.Proofs.Ytjcoajaoofjjmaa
set_option linter.unusedSimpArgs false
set_option linter.unusedVariables false
open Go.RowKit

/-- Which right is the largest, from the k-th on; the b-th is so far. -/
def lgL (ts : List T3) : Nat → Nat → Nat → Nat
  | 0, _, b => b
  | m + 1, k, b => lgL ts m (k + 1) (if 0 < cmpM (ts.getD k default).2.1 (ts.getD k default).2.2 (ts.getD b default).2.1 (ts.getD b default).2.2 then k else b)
def largestM (ts : List T3) : Int := if rightsM ts then (ts.getD (lgL ts ts.length 0 0) default).1 else -1

theorem cmpM_self (a b : Int) : cmpM a b a b = 0 := by
  simp only [cmpM]; split
  · rw [if_neg (by omega), if_neg (by omega)]
  · rfl

set_option maxHeartbeats 1000000 in
theorem implLargestOwner_any (a : Option Addr) (cap : Nat) (ts : List T3) (w : World) (hc : Rd3 w a ts) (hn : ts.length ≤ 1048576) :
    Calls Try.prog 28 #[.slice a ts.length cap] w fun e w' => Rets w (.int .i64 (largestM ts)) e w' := by
  by_cases hr : rightsM ts = true
  · have HM := hide (show largestM ts = (ts.getD (lgL ts ts.length 0 0) default).1 by simp [largestM, hr])
    have hl1 := (rights_parts hr).1
    have HC := hide (show Calls Try.prog 22 #[.slice a ts.length cap] w (Rets w (.bool true)) by rw [← hr]; exact implRightsOk_any a cap ts w hc hn)
    clear hr
    go_enter Try.func28, Try.ntmps28
    go_wp2_with fail
    (with_reducible refine HC.out.mono ?_)
    rintro e w1 ⟨rfl, hb1⟩
    go_wp2
    go_loopw [3, 11] (fun q i wr => ∃ (k b : Nat), k ≤ ts.length ∧ b < ts.length ∧ i = .int .i64 k ∧ q = .int .i64 b ∧ lgL ts ts.length 0 0 = lgL ts (ts.length - k) k b ∧ Below w.heap.size w wr) (fun _ i _ => ts.length - (intOf i).toNat)
    case atStart => exact ⟨0, 0, Nat.zero_le _, hl1, rfl, rfl, rfl, hb1⟩
    case round =>
      obtain ⟨k, bt, hk, hbt, rfl, rfl, hr, hbel⟩ := hrel
      have HR := hide hr
      clear hr
      by_cases hlt : k < ts.length
      · obtain ⟨b, off, rfl, hcell, hcell1, hcell2⟩ := hc.below hbel k hlt
        obtain ⟨b', off', hab, hd0, hd1, hd2⟩ := hc.below hbel bt hbt
        cases hab
        have bl := World.block_lt_of_cell? wr _ hcell
        simp at bl
        have bl' : b < wr.heap.size + 1 := by omega
        have HS := hide (show lgL ts (ts.length - k) k bt = lgL ts (ts.length - (k + 1)) (k + 1) (if 0 < cmpM (ts.getD k default).2.1 (ts.getD k default).2.2 (ts.getD bt default).2.1 (ts.getD bt default).2.2 then k else bt) by
          rw [show ts.length - k = (ts.length - (k + 1)) + 1 by omega]; rfl)
        generalize ts.getD k default = x at *
        generalize ts.getD bt default = y at *
        obtain ⟨x0, x1, x2⟩ := x
        obtain ⟨y0, y1, y2⟩ := y
        simp only at hcell hcell1 hcell2 hd0 hd1 hd2 HS
        have i1 : (0 : Int) ≤ (bt : Int) := by omega
        have i2 : (bt : Int) < (ts.length : Int) := by omega
        have HC2 := hide (fun W => implCompareFractions_any x1 x2 y1 y2 W)
        generalize cmpM x1 x2 y1 y2 = q at *
        go_wp2
        (refine wp_region_g [0, 1, 2, 3, 4, 5, 6, 7, 8] [] (by kernel_rfl) (by kernel_rfl) ?_; simp only [pick, List.map_cons, List.map_nil, Array.getD_eq_getD_getElem?, List.getElem?_toArray, List.getElem?_cons_zero, List.getElem?_cons_succ, Option.getD_some]; (iterate 9 (refine wpG_step (fun K hK => ?_); go_simp; first | (refine hK _ ?_; clear hK K) | (apply Exists.intro; refine ⟨fun _ => ?_, hK _ ?_⟩; ((go_at_call 62; exact HC2.out _)); clear hK K))); refine wpG_nil ?_)
        (refine wpT_end ?_; intro w2 hbr _; obtain ⟨hcb, hfb⟩ := bcell hbr; have hzr := hbr.size; (try simp at hzr); (try (refine ltk (a := w.heap.size) (b := w2.heap.size) ?_ ?_; (focus omega); intro _ _)); (try (refine ltk (a := w.heap.size + 1) (b := w2.heap.size) ?_ ?_; (focus omega); intro _ _)); (try (refine ltk (a := w.heap.size + 2) (b := w2.heap.size) ?_ ?_; (focus omega); intro _ _)); (try (refine ltk (a := w.heap.size + 3) (b := w2.heap.size) ?_ ?_; (focus omega); intro _ _)); (try (refine ltk (a := b) (b := w2.heap.size) ?_ ?_; (focus omega); intro _ _)))
        by_cases hq : 0 < q
        · go_wp2
          go_roundw
          case rel => exact ⟨k + 1, k, by omega, hlt, by go_num, rfl, by rw [HR.out, HS.out, if_pos hq], (by repeat first | exact Below.refl _ _ | assumption | (refine belA ?_) | (refine belD ?_) | (refine belN ?_) | (refine belS ?_ (by simp <;> omega)) | (refine belT ?_ (by assumption)))⟩
          case measure => simp [intOf]; omega
        · go_wp2
          go_roundw
          case rel => exact ⟨k + 1, bt, by omega, hbt, by go_num, rfl, by rw [HR.out, HS.out, if_neg (by omega)], (by repeat first | exact Below.refl _ _ | assumption | (refine belA ?_) | (refine belD ?_) | (refine belN ?_) | (refine belS ?_ (by simp <;> omega)) | (refine belT ?_ (by assumption)))⟩
          case measure => simp [intOf]; omega
      · obtain ⟨b', off', rfl, hd0, hd1, hd2⟩ := hc.below hbel bt hbt
        have i1 : (0 : Int) ≤ (bt : Int) := by omega
        have i2 : (bt : Int) < (ts.length : Int) := by omega
        have HE := hide (show (ts.getD bt default).1 = largestM ts by rw [HM.out, HR.out, show ts.length - k = 0 by omega]; rfl)
        generalize (ts.getD bt default).1 = y at *
        go_wp2
        go_ret
        exact ⟨ret_int HE.out, (by repeat first | exact Below.refl _ _ | assumption | (refine belA ?_) | (refine belD ?_) | (refine belN ?_) | (refine belS ?_ (by simp <;> omega)) | (refine belT ?_ (by assumption)))⟩
  · have hr' : rightsM ts = false := by simpa using hr
    have HM := hide (show largestM ts = -1 by simp [largestM, hr'])
    have HC := hide (show Calls Try.prog 22 #[.slice a ts.length cap] w (Rets w (.bool false)) by rw [← hr']; exact implRightsOk_any a cap ts w hc hn)
    clear hr hr'
    go_enter Try.func28, Try.ntmps28
    go_wp2_with fail
    (with_reducible refine HC.out.mono ?_)
    rintro e w1 ⟨rfl, hb1⟩
    go_wp2
    go_ret
    exact ⟨ret_int HM.out.symm, hb1⟩

set_option maxHeartbeats 1000000 in
theorem specLargestOwner_any (a : Option Addr) (cap : Nat) (ts : List T3) (w : World) (hc : Rd3 w a ts) (hn : ts.length ≤ 1048576) :
    Calls Try.prog 27 #[.slice a ts.length cap] w fun e w' => Rets w (.int .i64 (largestM ts)) e w' := by
  by_cases hr : rightsM ts = true
  · have HM := hide (show largestM ts = (ts.getD (lgL ts ts.length 0 0) default).1 by simp [largestM, hr])
    have hl1 := (rights_parts hr).1
    have HC := hide (show ∀ W, Rd3 W a ts → Calls Try.prog 21 #[.slice a ts.length cap] W (Rets W (.bool true)) from fun W hc => by rw [← hr]; exact specRightsOk_any a cap ts W hc hn)
    clear hr
    go_enter Try.func27, Try.ntmps27
    go_wp2
    go_loopw [3, 4] (fun q i wr => ∃ (k b : Nat), k ≤ ts.length ∧ b < ts.length ∧ i = .int .i64 k ∧ ((k = 0 ∧ b = 0 ∧ q = .int .i64 (-1)) ∨ (0 < k ∧ q = .int .i64 b)) ∧ lgL ts ts.length 0 0 = lgL ts (ts.length - k) k b ∧ Below w.heap.size w wr) (fun _ i _ => ts.length - (intOf i).toNat)
    case atStart => exact ⟨0, 0, Nat.zero_le _, hl1, rfl, .inl ⟨rfl, rfl, rfl⟩, rfl, Below.refl _ _⟩
    case round =>
      obtain ⟨k, bt, hk, hbt, rfl, hq, hr, hbel⟩ := hrel
      have HR := hide hr
      clear hr
      have hcr := hc.below hbel
      by_cases hlt : k < ts.length
      · rcases hq with ⟨rfl, rfl, rfl⟩ | ⟨hk0, rfl⟩
        · have HS := hide (show lgL ts (ts.length - 0) 0 0 = lgL ts (ts.length - (0 + 1)) (0 + 1) 0 by
            rw [show ts.length - 0 = (ts.length - (0 + 1)) + 1 by omega]
            show lgL ts _ (0 + 1) (if _ then 0 else 0) = _
            split <;> rfl)
          go_wp2_with fail
          (with_reducible refine (HC.out _ hcr).mono ?_)
          rintro e w2 ⟨rfl, hb2⟩
          go_wp2
          (refine wp_region_g [0, 1, 2, 3, 4, 5, 6, 7, 8, 9, 10, 11, 12, 13, 14, 15] [] (by kernel_rfl) (by kernel_rfl) ?_; simp only [pick, List.map_cons, List.map_nil, Array.getD_eq_getD_getElem?, List.getElem?_toArray, List.getElem?_cons_zero, List.getElem?_cons_succ, Option.getD_some]; (iterate 16 (refine wpG_step (fun K hK => ?_); go_simp; first | (refine hK _ ?_; clear hK K) | (apply Exists.intro; refine ⟨fun _ => ?_, hK _ ?_⟩; (fail); clear hK K))); refine wpG_nil ?_)
          (refine wpT_end ?_; intro w3 hbr _; obtain ⟨hcb, hfb⟩ := bcell hbr; have hzr := hbr.size; (try simp at hzr); (try (refine ltk (a := w.heap.size) (b := w3.heap.size) ?_ ?_; (focus omega); intro _ _)); (try (refine ltk (a := w.heap.size + 1) (b := w3.heap.size) ?_ ?_; (focus omega); intro _ _)); (try (refine ltk (a := w.heap.size + 2) (b := w3.heap.size) ?_ ?_; (focus omega); intro _ _)); (try (refine ltk (a := w.heap.size + 3) (b := w3.heap.size) ?_ ?_; (focus omega); intro _ _)))
          go_wp2
          go_roundw
          case rel => exact ⟨0 + 1, 0, by omega, hlt, by go_num, .inr ⟨by omega, rfl⟩, by rw [HR.out, HS.out], (by repeat first | exact Below.refl _ _ | assumption | (refine belA ?_) | (refine belD ?_) | (refine belN ?_) | (refine belS ?_ (by simp <;> omega)) | (refine belT ?_ (by assumption)))⟩
          case measure => simp [intOf]; omega
        · go_wp2_with fail
          (with_reducible refine (HC.out _ hcr).mono ?_)
          rintro e w2 ⟨rfl, hb2⟩
          have hbel2 := belT hbel hb2
          obtain ⟨b, off, rfl, hcell, hcell1, hcell2⟩ := hc.below hbel2 k hlt
          obtain ⟨b', off', hab, hd0, hd1, hd2⟩ := hc.below hbel2 bt hbt
          cases hab
          have bl := World.block_lt_of_cell? w2 _ hcell
          simp at bl
          have HS := hide (show lgL ts (ts.length - k) k bt = lgL ts (ts.length - (k + 1)) (k + 1) (if 0 < cmpM (ts.getD k default).2.1 (ts.getD k default).2.2 (ts.getD bt default).2.1 (ts.getD bt default).2.2 then k else bt) by
            rw [show ts.length - k = (ts.length - (k + 1)) + 1 by omega]; rfl)
          generalize ts.getD k default = x at *
          generalize ts.getD bt default = y at *
          obtain ⟨x0, x1, x2⟩ := x
          obtain ⟨y0, y1, y2⟩ := y
          simp only at hcell hcell1 hcell2 hd0 hd1 hd2 HS
          have i1 : (0 : Int) ≤ (bt : Int) := by omega
          have i2 : (bt : Int) < (ts.length : Int) := by omega
          have i3 : (0 : Int) ≤ (k : Int) := by omega
          have i4 : (k : Int) < (ts.length : Int) := by omega
          have i5 : decide ((bt : Int) < 0) = false := by simp
          have HC2 := hide (fun W => specCompareFractions_any x1 x2 y1 y2 W)
          generalize cmpM x1 x2 y1 y2 = q at *
          go_wp2
          (refine wp_region_g [0, 1, 2, 3, 4, 5, 6, 7, 8, 9, 10, 11, 12, 13, 14, 15] [] (by kernel_rfl) (by kernel_rfl) ?_; simp only [pick, List.map_cons, List.map_nil, Array.getD_eq_getD_getElem?, List.getElem?_toArray, List.getElem?_cons_zero, List.getElem?_cons_succ, Option.getD_some]; (iterate 16 (refine wpG_step (fun K hK => ?_); go_simp; first | (refine hK _ ?_; clear hK K) | (apply Exists.intro; refine ⟨fun _ => ?_, hK _ ?_⟩; ((go_at_call 50; exact HC2.out _)); clear hK K))); refine wpG_nil ?_)
          (refine wpT_end ?_; intro w3 hbr _; obtain ⟨hcb, hfb⟩ := bcell hbr; have hzr := hbr.size; (try simp at hzr); (try (refine ltk (a := w.heap.size) (b := w3.heap.size) ?_ ?_; (focus omega); intro _ _)); (try (refine ltk (a := w.heap.size + 1) (b := w3.heap.size) ?_ ?_; (focus omega); intro _ _)); (try (refine ltk (a := w.heap.size + 2) (b := w3.heap.size) ?_ ?_; (focus omega); intro _ _)); (try (refine ltk (a := w.heap.size + 3) (b := w3.heap.size) ?_ ?_; (focus omega); intro _ _)); (try (refine ltk (a := b) (b := w3.heap.size) ?_ ?_; (focus omega); intro _ _)))
          by_cases hq : 0 < q
          · go_wp2
            go_roundw
            case rel => exact ⟨k + 1, k, by omega, hlt, by go_num, .inr ⟨by omega, rfl⟩, by rw [HR.out, HS.out, if_pos hq], (by repeat first | exact Below.refl _ _ | assumption | (refine belA ?_) | (refine belD ?_) | (refine belN ?_) | (refine belS ?_ (by simp <;> omega)) | (refine belT ?_ (by assumption)))⟩
            case measure => simp [intOf]; omega
          · go_wp2
            go_roundw
            case rel => exact ⟨k + 1, bt, by omega, hbt, by go_num, .inr ⟨by omega, rfl⟩, by rw [HR.out, HS.out, if_neg (by omega)], (by repeat first | exact Below.refl _ _ | assumption | (refine belA ?_) | (refine belD ?_) | (refine belN ?_) | (refine belS ?_ (by simp <;> omega)) | (refine belT ?_ (by assumption)))⟩
            case measure => simp [intOf]; omega
      · rcases hq with ⟨rfl, rfl, rfl⟩ | ⟨hk0, rfl⟩
        · omega
        obtain ⟨b', off', rfl, hd0, hd1, hd2⟩ := hcr bt hbt
        have i1 : (0 : Int) ≤ (bt : Int) := by omega
        have i2 : (bt : Int) < (ts.length : Int) := by omega
        have HE := hide (show (ts.getD bt default).1 = largestM ts by rw [HM.out, HR.out, show ts.length - k = 0 by omega]; rfl)
        generalize (ts.getD bt default).1 = y at *
        go_wp2
        go_ret
        exact ⟨ret_int HE.out, (by repeat first | exact Below.refl _ _ | assumption | (refine belA ?_) | (refine belD ?_) | (refine belN ?_) | (refine belS ?_ (by simp <;> omega)) | (refine belT ?_ (by assumption)))⟩
  · have hr' : rightsM ts = false := by simpa using hr
    have HM := hide (show largestM ts = -1 by simp [largestM, hr'])
    have HC := hide (show ∀ W, Rd3 W a ts → Calls Try.prog 21 #[.slice a ts.length cap] W (Rets W (.bool false)) from fun W hc => by rw [← hr']; exact specRightsOk_any a cap ts W hc hn)
    clear hr hr'
    by_cases h0 : 0 < ts.length
    · go_enter Try.func27, Try.ntmps27
      go_wp2
      refine wp_loop_rounds 1 ?_
      rw [rounds_succ]
      go_wp2_with fail
      (with_reducible refine (HC.out _ hc).mono ?_)
      rintro e w1 ⟨rfl, hb1⟩
      go_wp2
      go_ret
      exact ⟨ret_int HM.out.symm, hb1⟩
    · go_enter Try.func27, Try.ntmps27
      go_wp2
      refine wp_loop_rounds 1 ?_
      rw [rounds_succ]
      go_wp2
      go_ret
      exact ⟨ret_int HM.out.symm, (by repeat first | exact Below.refl _ _ | assumption | (refine belA ?_) | (refine belD ?_) | (refine belN ?_) | (refine belS ?_ (by simp <;> omega)) | (refine belT ?_ (by assumption)))⟩

end Go.Proofs.Ytjcoajaoofjjmaa
