/- The smallest share. -/
import Derived.Test.YtjcoajaoofjjmaaRgt2
namespace Go.Proofs.Ytjcoajaoofjjmaa
set_option linter.unusedSimpArgs false
set_option linter.unusedVariables false
open Go.RowKit

def smL (p q : Int) : List T3 → Int × Int
  | [] => (p, q)
  | t :: r => if cmpM t.2.1 t.2.2 p q < 0 then smL t.2.1 t.2.2 r else smL p q r
def smallM (ts : List T3) : Option (Int × Int) := if rightsM ts then some (smL (ts.getD 0 default).2.1 (ts.getD 0 default).2.2 ts) else none

set_option maxHeartbeats 1000000 in
theorem implSmallestShare_any (a : Option Addr) (cap : Nat) (ts : List T3) (w : World) (hc : Rd3 w a ts) (hn : ts.length ≤ 1048576) :
    Calls Try.prog 30 #[.slice a ts.length cap] w fun e w' => Rets w (frV (smallM ts)) e w' := by
  by_cases hr : rightsM ts = true
  · have hM := show smallM ts = some (smL (ts.getD 0 default).2.1 (ts.getD 0 default).2.2 ts) by simp [smallM, hr]
    have hl1 : 0 < ts.length := (rights_parts hr).1
    have HC := hide (show ∀ W, Rd3 W a ts → Calls Try.prog 22 #[.slice a ts.length cap] W (Rets W (.bool true)) from fun W hc => by rw [← hr]; exact implRightsOk_any a cap ts W hc hn)
    clear hr
    obtain ⟨b0, off0, rfl, e0, e1, e2⟩ := hc 0 hl1
    generalize hz : ts.getD 0 default = z at *
    obtain ⟨z0, z1, z2⟩ := z
    have HM := hide hM
    clear hM hz
    simp only [Nat.zero_mul, Nat.add_zero] at e0 e1 e2 HM
    have bl0 := World.block_lt_of_cell? w _ e0
    simp at bl0
    have hcA := hc.below (w' := w.alloc (.cells #[.int .i64 0, .int .i64 0] 25)) ((Below.refl _ _).alloc (Nat.le_refl _) _)
    go_enter Try.func30, Try.ntmps30
    go_wp2_with fail
    (with_reducible refine (HC.out _ hcA).mono ?_)
    rintro e w1 ⟨rfl, hb1⟩
    have hB0 := heap_grow (blk_new w #[.int .i64 0, .int .i64 0] 25) hb1
    have bel1 := belT (belA (Below.refl w.heap.size w)) hb1
    have hl01 : w.heap.size < w1.heap.size := (Array.getElem?_eq_some_iff.1 hB0).1
    have q0 := (bel1.cell (p := ⟨b0, off0, none⟩) bl0).trans e0
    have q1 := (bel1.cell (p := ⟨b0, off0 + 1, none⟩) bl0).trans e1
    have q2 := (bel1.cell (p := ⟨b0, off0 + 2, none⟩) bl0).trans e2
    clear hcA hb1
    go_wp2
    go_loopw [17] (fun i wr => ∃ (k : Nat) (x y : Int), k ≤ ts.length ∧ i = .int .i64 k ∧ wr.heap[w1.heap.size]? = some (.cells #[.int .i64 x, .int .i64 y] 25 (0, 0)) ∧ wr.heap[w.heap.size]? = some (.cells #[.int .i64 0, .int .i64 0] 25 (0, 0)) ∧ smL z1 z2 ts = smL x y (ts.drop k) ∧ Below w.heap.size w wr) (fun i _ => ts.length - (intOf i).toNat)
    case atStart => exact ⟨0, z1, z2, Nat.zero_le _, rfl, blk_new w1 _ _, blk_alloc hB0, rfl, (by repeat first | exact Below.refl _ _ | assumption | (refine belA ?_) | (refine belD ?_) | (refine belN ?_) | (refine belS ?_ (by simp <;> omega)) | (refine belT ?_ (by assumption)))⟩
    case round =>
      obtain ⟨k, x, y, hk, rfl, hB1, hB0', hr, hbel⟩ := hrel
      have HR := hide hr
      clear hr q0 q1 q2 hB0
      have hbl1 : w1.heap.size < wr.heap.size := (Array.getElem?_eq_some_iff.1 hB1).1
      have c0 := cell_of_block hB1 0
      have c1 := cell_of_block hB1 1
      simp at c0 c1
      by_cases hlt : k < ts.length
      · obtain ⟨b, off, hab, hcell, hcell1, hcell2⟩ := hc.below hbel k hlt
        cases hab
        have bl := World.block_lt_of_cell? wr _ hcell
        simp at bl
        have HD := hide (drop_getD3 ts k hlt)
        generalize ts.getD k default = t at *
        obtain ⟨t0, t1, t2⟩ := t
        simp only at hcell hcell1 hcell2
        have HS := hide (show smL x y ((t0, t1, t2) :: ts.drop (k + 1)) = if cmpM t1 t2 x y < 0 then smL t1 t2 (ts.drop (k + 1)) else smL x y (ts.drop (k + 1)) from rfl)
        have HC2 := hide (fun W => implCompareFractions_any t1 t2 x y W)
        generalize cmpM t1 t2 x y = q at *
        go_wp2_with fail
        (with_reducible refine (HC2.out _).mono ?_)
        rintro e w2 ⟨rfl, hb2⟩
        have hT := heap_grow (blk_new wr #[.int .i64 t0, .int .i64 t1, .int .i64 t2] 56) hb2
        have hB1' := heap_grow (blk_alloc hB1) hb2
        have hB0'' := heap_grow (blk_alloc hB0') hb2
        have hbel2 := belT (belA hbel) hb2
        have f1 := frozen_of_block hB1'
        have d10 := cell_of_block hB1' 0
        have d11 := cell_of_block hB1' 1
        have d1 := cell_of_block hT 1
        have d2 := cell_of_block hT 2
        simp at d10 d11 d1 d2
        clear c0 c1 hcell hcell1 hcell2 hB1 hB0' hbel
        by_cases hq : q < 0
        · go_wp2
          go_roundw
          case rel =>
            refine ⟨k + 1, t1, t2, by omega, by go_num, ?_, ?_, by rw [HR.out, HD.out, HS.out, if_pos hq], (by repeat first | exact Below.refl _ _ | assumption | (refine belA ?_) | (refine belD ?_) | (refine belN ?_) | (refine belS ?_ (by simp <;> omega)) | (refine belT ?_ (by assumption)))⟩
            · have := setCell_block (i := 1) (v := .int .i64 t2) (setCell_block (i := 0) (v := .int .i64 t1) hB1')
              simpa using this
            · exact blk_other (blk_other hB0'' (by omega)) (by omega)
          case measure => simp [intOf]; omega
        · go_wp2
          go_roundw
          case rel => exact ⟨k + 1, x, y, by omega, by go_num, hB1', hB0'', by rw [HR.out, HD.out, HS.out, if_neg (by omega)], (by repeat first | exact Below.refl _ _ | assumption | (refine belA ?_) | (refine belD ?_) | (refine belN ?_) | (refine belS ?_ (by simp <;> omega)) | (refine belT ?_ (by assumption)))⟩
          case measure => simp [intOf]; omega
      · have d00 := cell_of_block hB0' 0
        have d01 := cell_of_block hB0' 1
        simp at d00 d01
        have f0 := frozen_of_block hB0'
        go_wp2
        refine bodyPost_ret (by simp [results, Try.results30, go_sem, *]; try rfl) rfl ?_
        exact ⟨by rw [HM.out, HR.out, List.drop_of_length_le (by omega)]; rfl, (by repeat first | exact Below.refl _ _ | assumption | (refine belA ?_) | (refine belD ?_) | (refine belN ?_) | (refine belS ?_ (by simp <;> omega)) | (refine belT ?_ (by assumption)))⟩
  · have hr' : rightsM ts = false := by simpa using hr
    have HM := hide (show smallM ts = none by simp [smallM, hr'])
    have HC := hide (show ∀ W, Rd3 W a ts → Calls Try.prog 22 #[.slice a ts.length cap] W (Rets W (.bool false)) from fun W hc => by rw [← hr']; exact implRightsOk_any a cap ts W hc hn)
    clear hr hr'
    have hcA := hc.below (w' := w.alloc (.cells #[.int .i64 0, .int .i64 0] 25)) ((Below.refl _ _).alloc (Nat.le_refl _) _)
    go_enter Try.func30, Try.ntmps30
    go_wp2_with fail
    (with_reducible refine (HC.out _ hcA).mono ?_)
    rintro e w1 ⟨rfl, hb1⟩
    have hB0 := heap_grow (blk_new w #[.int .i64 0, .int .i64 0] 25) hb1
    have bel1 := belT (belA (Below.refl w.heap.size w)) hb1
    have d00 := cell_of_block hB0 0
    have d01 := cell_of_block hB0 1
    simp at d00 d01
    have f0 := frozen_of_block hB0
    go_wp2
    refine bodyPost_ret (by simp [results, Try.results30, go_sem, *]; try rfl) rfl ?_
    exact ⟨by rw [HM.out]; rfl, (by repeat first | exact Below.refl _ _ | assumption | (refine belA ?_) | (refine belD ?_) | (refine belN ?_) | (refine belS ?_ (by simp <;> omega)) | (refine belT ?_ (by assumption)))⟩

set_option maxHeartbeats 1000000 in
theorem specSmallestShare_any (a : Option Addr) (cap : Nat) (ts : List T3) (w : World) (hc : Rd3 w a ts) (hn : ts.length ≤ 1048576) :
    Calls Try.prog 29 #[.slice a ts.length cap] w fun e w' => Rets w (frV (smallM ts)) e w' := by
  by_cases hr : rightsM ts = true
  · have hM := show smallM ts = some (smL (ts.getD 0 default).2.1 (ts.getD 0 default).2.2 ts) by simp [smallM, hr]
    have hl1 : 0 < ts.length := (rights_parts hr).1
    have HC := hide (show ∀ W, Rd3 W a ts → Calls Try.prog 21 #[.slice a ts.length cap] W (Rets W (.bool true)) from fun W hc => by rw [← hr]; exact specRightsOk_any a cap ts W hc hn)
    clear hr
    obtain ⟨b0, off0, rfl, e0, e1, e2⟩ := hc 0 hl1
    generalize hz : ts.getD 0 default = z at *
    obtain ⟨z0, z1, z2⟩ := z
    have HM := hide hM
    clear hM hz
    simp only [Nat.zero_mul, Nat.add_zero] at e0 e1 e2 HM
    have bl0 := World.block_lt_of_cell? w _ e0
    simp at bl0
    have hcA := hc.below (w' := w.alloc (.cells #[.int .i64 0, .int .i64 0] 25)) ((Below.refl _ _).alloc (Nat.le_refl _) _)
    go_enter Try.func29, Try.ntmps29
    go_wp2_with fail
    (with_reducible refine (HC.out _ hcA).mono ?_)
    rintro e w1 ⟨rfl, hb1⟩
    have hB0 := heap_grow (blk_new w #[.int .i64 0, .int .i64 0] 25) hb1
    have bel1 := belT (belA (Below.refl w.heap.size w)) hb1
    have hl01 : w.heap.size < w1.heap.size := (Array.getElem?_eq_some_iff.1 hB0).1
    have q0 := (bel1.cell (p := ⟨b0, off0, none⟩) bl0).trans e0
    have q1 := (bel1.cell (p := ⟨b0, off0 + 1, none⟩) bl0).trans e1
    have q2 := (bel1.cell (p := ⟨b0, off0 + 2, none⟩) bl0).trans e2
    clear hcA hb1
    go_wp2
    go_loopw [5] (fun i wr => ∃ (k : Nat) (x y : Int), k ≤ ts.length ∧ i = .int .i64 k ∧ wr.heap[w1.heap.size]? = some (.cells #[.int .i64 x, .int .i64 y] 25 (0, 0)) ∧ wr.heap[w.heap.size]? = some (.cells #[.int .i64 0, .int .i64 0] 25 (0, 0)) ∧ smL z1 z2 ts = smL x y (ts.drop k) ∧ Below w.heap.size w wr) (fun i _ => ts.length - (intOf i).toNat)
    case atStart => exact ⟨0, z1, z2, Nat.zero_le _, rfl, blk_new w1 _ _, blk_alloc hB0, rfl, (by repeat first | exact Below.refl _ _ | assumption | (refine belA ?_) | (refine belD ?_) | (refine belN ?_) | (refine belS ?_ (by simp <;> omega)) | (refine belT ?_ (by assumption)))⟩
    case round =>
      obtain ⟨k, x, y, hk, rfl, hB1, hB0', hr, hbel⟩ := hrel
      have HR := hide hr
      clear hr q0 q1 q2 hB0
      have hbl1 : w1.heap.size < wr.heap.size := (Array.getElem?_eq_some_iff.1 hB1).1
      have c0 := cell_of_block hB1 0
      have c1 := cell_of_block hB1 1
      simp at c0 c1
      by_cases hlt : k < ts.length
      · obtain ⟨b, off, hab, hcell, hcell1, hcell2⟩ := hc.below hbel k hlt
        cases hab
        have bl := World.block_lt_of_cell? wr _ hcell
        simp at bl
        have HD := hide (drop_getD3 ts k hlt)
        generalize ts.getD k default = t at *
        obtain ⟨t0, t1, t2⟩ := t
        simp only at hcell hcell1 hcell2
        have i3 : (0 : Int) ≤ (k : Int) := by omega
        have i4 : (k : Int) < (ts.length : Int) := by omega
        have HS := hide (show smL x y ((t0, t1, t2) :: ts.drop (k + 1)) = if cmpM t1 t2 x y < 0 then smL t1 t2 (ts.drop (k + 1)) else smL x y (ts.drop (k + 1)) from rfl)
        have HC2 := hide (fun W => specCompareFractions_any t1 t2 x y W)
        generalize cmpM t1 t2 x y = q at *
        go_wp2
        (refine wp_region_g [0, 1, 2, 3, 4, 5, 6, 7] [] (by kernel_rfl) (by kernel_rfl) ?_; simp only [pick, List.map_cons, List.map_nil, Array.getD_eq_getD_getElem?, List.getElem?_toArray, List.getElem?_cons_zero, List.getElem?_cons_succ, Option.getD_some]; (iterate 8 (refine wpG_step (fun K hK => ?_); go_simp; first | (refine hK _ ?_; clear hK K) | (apply Exists.intro; refine ⟨fun _ => ?_, hK _ ?_⟩; ((go_at_call 50; exact HC2.out _)); clear hK K))); refine wpG_nil ?_)
        (refine wpT_end ?_; intro w2 hbr _; obtain ⟨hcb, hfb⟩ := bcell hbr; have hzr := hbr.size; (try simp at hzr); (try (refine ltk (a := w.heap.size) (b := w2.heap.size) ?_ ?_; (focus omega); intro _ _)); (try (refine ltk (a := w.heap.size + 1) (b := w2.heap.size) ?_ ?_; (focus omega); intro _ _)); (try (refine ltk (a := w.heap.size + 2) (b := w2.heap.size) ?_ ?_; (focus omega); intro _ _)); (try (refine ltk (a := w.heap.size + 3) (b := w2.heap.size) ?_ ?_; (focus omega); intro _ _)); (try (refine ltk (a := w1.heap.size) (b := w2.heap.size) ?_ ?_; (focus omega); intro _ _)); (try (refine ltk (a := b0) (b := w2.heap.size) ?_ ?_; (focus omega); intro _ _)))
        have hB1' := heap_grow hB1 hbr
        have hB0'' := heap_grow hB0' hbr
        have hbel2 := belT hbel hbr
        have f1 := frozen_of_block hB1'
        have d10 := cell_of_block hB1' 0
        have d11 := cell_of_block hB1' 1
        simp at d10 d11
        have d0 := (hcb b0 (off0 + k * 3) bl).trans hcell
        have d1 := (hcb b0 (off0 + k * 3 + 1) bl).trans hcell1
        have d2 := (hcb b0 (off0 + k * 3 + 2) bl).trans hcell2
        clear c0 c1 hcell hcell1 hcell2 hB1 hB0' hbel hcb hfb
        by_cases hq : q < 0
        · go_wp2
          go_roundw
          case rel =>
            refine ⟨k + 1, t1, t2, by omega, by go_num, ?_, ?_, by rw [HR.out, HD.out, HS.out, if_pos hq], (by repeat first | exact Below.refl _ _ | assumption | (refine belA ?_) | (refine belD ?_) | (refine belN ?_) | (refine belS ?_ (by simp <;> omega)) | (refine belT ?_ (by assumption)))⟩
            · have := setCell_block (i := 1) (v := .int .i64 t2) (setCell_block (i := 0) (v := .int .i64 t1) hB1')
              simpa using this
            · exact blk_other (blk_other hB0'' (by omega)) (by omega)
          case measure => simp [intOf]; omega
        · go_wp2
          go_roundw
          case rel => exact ⟨k + 1, x, y, by omega, by go_num, hB1', hB0'', by rw [HR.out, HD.out, HS.out, if_neg (by omega)], (by repeat first | exact Below.refl _ _ | assumption | (refine belA ?_) | (refine belD ?_) | (refine belN ?_) | (refine belS ?_ (by simp <;> omega)) | (refine belT ?_ (by assumption)))⟩
          case measure => simp [intOf]; omega
      · have d00 := cell_of_block hB0' 0
        have d01 := cell_of_block hB0' 1
        simp at d00 d01
        have f0 := frozen_of_block hB0'
        go_wp2
        refine bodyPost_ret (by simp [results, Try.results29, go_sem, *]; try rfl) rfl ?_
        exact ⟨by rw [HM.out, HR.out, List.drop_of_length_le (by omega)]; rfl, (by repeat first | exact Below.refl _ _ | assumption | (refine belA ?_) | (refine belD ?_) | (refine belN ?_) | (refine belS ?_ (by simp <;> omega)) | (refine belT ?_ (by assumption)))⟩
  · have hr' : rightsM ts = false := by simpa using hr
    have HM := hide (show smallM ts = none by simp [smallM, hr'])
    have HC := hide (show ∀ W, Rd3 W a ts → Calls Try.prog 21 #[.slice a ts.length cap] W (Rets W (.bool false)) from fun W hc => by rw [← hr']; exact specRightsOk_any a cap ts W hc hn)
    clear hr hr'
    have hcA := hc.below (w' := w.alloc (.cells #[.int .i64 0, .int .i64 0] 25)) ((Below.refl _ _).alloc (Nat.le_refl _) _)
    go_enter Try.func29, Try.ntmps29
    go_wp2_with fail
    (with_reducible refine (HC.out _ hcA).mono ?_)
    rintro e w1 ⟨rfl, hb1⟩
    have hB0 := heap_grow (blk_new w #[.int .i64 0, .int .i64 0] 25) hb1
    have bel1 := belT (belA (Below.refl w.heap.size w)) hb1
    have d00 := cell_of_block hB0 0
    have d01 := cell_of_block hB0 1
    simp at d00 d01
    have f0 := frozen_of_block hB0
    go_wp2
    refine bodyPost_ret (by simp [results, Try.results29, go_sem, *]; try rfl) rfl ?_
    exact ⟨by rw [HM.out]; rfl, (by repeat first | exact Below.refl _ _ | assumption | (refine belA ?_) | (refine belD ?_) | (refine belN ?_) | (refine belS ?_ (by simp <;> omega)) | (refine belT ?_ (by assumption)))⟩

end Go.Proofs.Ytjcoajaoofjjmaa
