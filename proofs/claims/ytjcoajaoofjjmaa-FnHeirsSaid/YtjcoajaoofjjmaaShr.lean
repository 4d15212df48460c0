/- The sum of shares. -/
import Derived.Test.YtjcoajaoofjjmaaT3r
import Derived.IntWalk
namespace Go.Proofs.Ytjcoajaoofjjmaa
set_option linter.unusedSimpArgs false
set_option linter.unusedVariables false
open Go.RowKit

def sumL (p q : Int) : List T3 → Option (Int × Int)
  | [] => some (p, q)
  | t :: r => match addM p q t.2.1 t.2.2 with
    | none => none
    | some s => sumL s.1 s.2 r
def sumM (ts : List T3) : Option (Int × Int) := if ts.length ≤ 12 then sumL 0 1 ts else none

theorem blk_grow {w w' : World} {b : Nat} {x : Obj} (h : w.heap[b]? = some x) (hb : Below w.heap.size w w') : w'.heap[b]? = some x := heap_grow h hb
theorem blk_alloc {w : World} {b : Nat} {x o : Obj} (h : w.heap[b]? = some x) : (w.alloc o).heap[b]? = some x := heap_grow h ((Below.refl _ _).alloc (Nat.le_refl _) _)
theorem blk_new (w : World) (C : Array Value) (T : TypeId) : (w.alloc (.cells C T)).heap[w.heap.size]? = some (.cells C T (0, 0)) := by
  show (w.heap.push _)[w.heap.size]? = _; simp
theorem blk_other {w : World} {b c i : Nat} {x : Obj} {v : Value} (h : w.heap[b]? = some x) (hne : b ≠ c) : (w.setCell ⟨c, i, none⟩ v).heap[b]? = some x := by
  rw [Below.heap_setCell w ⟨c, i, none⟩ v b hne]; exact h

set_option maxHeartbeats 1000000 in
theorem implSumOfShares_any (a : Option Addr) (cap : Nat) (ts : List T3) (w : World) (hc : Rd3 w a ts) (hn : ts.length ≤ 1048576) :
    Calls Try.prog 18 #[.slice a ts.length cap] w fun e w' => Rets w (frV (sumM ts)) e w' := by
  by_cases h12 : ts.length ≤ 12
  · have HM := hide (show sumM ts = sumL 0 1 ts by simp [sumM, h12])
    have hd : ¬ (12 : Int) < (ts.length : Int) := by omega
    go_enter Try.func18, Try.ntmps18
    go_wp2
    go_loopw [5, 15] (fun ok i wr => ∃ (k : Nat) (x y : Int), k ≤ ts.length ∧ i = .int .i64 k ∧ ok = .bool true ∧ wr.heap[w.heap.size + 1]? = some (.cells #[.int .i64 x, .int .i64 y] 25 (0, 0)) ∧ wr.heap[w.heap.size]? = some (.cells #[.int .i64 0, .int .i64 0] 25 (0, 0)) ∧ sumL 0 1 ts = sumL x y (ts.drop k) ∧ Below w.heap.size w wr) (fun _ i _ => ts.length - (intOf i).toNat)
    case atStart => exact ⟨0, 0, 1, Nat.zero_le _, rfl, rfl, by have := blk_new (w.alloc (.cells #[.int .i64 0, .int .i64 0] 25)) #[.int .i64 0, .int .i64 1] 25; simpa using this, blk_alloc (blk_new _ _ _), rfl, (by repeat first | exact Below.refl _ _ | assumption | (refine belA ?_) | (refine belD ?_) | (refine belN ?_) | (refine belS ?_ (by simp <;> omega)) | (refine belT ?_ (by assumption)))⟩
    case round =>
      obtain ⟨k, x, y, hk, rfl, rfl, hB1, hB0, hr, hbel⟩ := hrel
      have HR := hide hr
      clear hr
      by_cases hlt : k < ts.length
      · obtain ⟨b, off, rfl, hcell, hcell1, hcell2⟩ := hc.below hbel k hlt
        have HD := hide (drop_getD3 ts k hlt)
        generalize ts.getD k default = t at *
        obtain ⟨t0, t1, t2⟩ := t
        simp only at hcell hcell1 hcell2
        have bl := World.block_lt_of_cell? wr _ hcell
        simp at bl
        have c10 := cell_of_block hB1 0
        have c11 := cell_of_block hB1 1
        simp at c10 c11
        have bl1 : w.heap.size + 1 < wr.heap.size := (Array.getElem?_eq_some_iff.1 hB1).1
        have HS := hide (show sumL x y ((t0, t1, t2) :: ts.drop (k + 1)) = match addM x y t1 t2 with | none => none | some s => sumL s.1 s.2 (ts.drop (k + 1)) from rfl)
        have HA := hide (fun W => implAddFractions_any x y t1 t2 W)
        generalize addM x y t1 t2 = A at *
        go_wp2_with fail
        (with_reducible refine (HA.out _).mono ?_)
        rintro e w2 ⟨rfl, hb2⟩
        have hB1' := blk_grow (blk_alloc hB1) hb2
        have hB0' := blk_grow (blk_alloc hB0) hb2
        have hbel2 := belT (belA hbel) hb2
        have f1 := frozen_of_block hB1'
        have f0 := frozen_of_block hB0'
        have d10 := cell_of_block hB1' 0
        have d11 := cell_of_block hB1' 1
        have d00 := cell_of_block hB0' 0
        have d01 := cell_of_block hB0' 1
        simp at d10 d11 d00 d01
        clear c10 c11 hcell hcell1 hcell2 hB1 hB0 hbel
        rcases A with _ | ⟨x', y'⟩
        · simp only [oT, oB, Option.isSome_none]
          go_wp2
          refine bodyPost_ret (by simp [results, Try.results18, go_sem, *]; try rfl) rfl ?_
          exact ⟨by rw [HM.out, HR.out, HD.out, HS.out]; rfl, (by repeat first | exact Below.refl _ _ | assumption | (refine belA ?_) | (refine belD ?_) | (refine belN ?_) | (refine belS ?_ (by simp <;> omega)) | (refine belT ?_ (by assumption)))⟩
        · simp only [oT, oB, Option.isSome_some]
          go_wp2
          go_roundw
          case rel =>
            refine ⟨k + 1, x', y', by omega, by go_num, rfl, ?_, ?_, by rw [HR.out, HD.out, HS.out], (by repeat first | exact Below.refl _ _ | assumption | (refine belA ?_) | (refine belD ?_) | (refine belN ?_) | (refine belS ?_ (by simp <;> omega)) | (refine belT ?_ (by assumption)))⟩
            · have := setCell_block (i := 1) (v := .int .i64 y') (setCell_block (i := 0) (v := .int .i64 x') hB1')
              simpa [oT, oB] using this
            · exact blk_other (blk_other hB0' (by omega)) (by omega)
          case measure => simp [intOf]; omega
      · have c10 := cell_of_block hB1 0
        have c11 := cell_of_block hB1 1
        have d00 := cell_of_block hB0 0
        have d01 := cell_of_block hB0 1
        simp at c10 c11 d00 d01
        have f0 := frozen_of_block hB0
        go_wp2
        refine bodyPost_ret (by simp [results, Try.results18, go_sem, *]; try rfl) rfl ?_
        exact ⟨by rw [HM.out, HR.out, List.drop_of_length_le (by omega)]; rfl, (by repeat first | exact Below.refl _ _ | assumption | (refine belA ?_) | (refine belD ?_) | (refine belN ?_) | (refine belS ?_ (by simp <;> omega)) | (refine belT ?_ (by assumption)))⟩
  · have HM := hide (show sumM ts = none by simp [sumM, h12])
    have hd : (12 : Int) < (ts.length : Int) := by omega
    go_enter Try.func18, Try.ntmps18
    go_wp2
    refine bodyPost_ret (by simp [results, Try.results18, go_sem, *]; try rfl) rfl ?_
    exact ⟨by rw [HM.out]; rfl, (by repeat first | exact Below.refl _ _ | assumption | (refine belA ?_) | (refine belD ?_) | (refine belN ?_) | (refine belS ?_ (by simp <;> omega)) | (refine belT ?_ (by assumption)))⟩

set_option maxHeartbeats 1000000 in
theorem specSumOfShares_any (a : Option Addr) (cap : Nat) (ts : List T3) (w : World) (hc : Rd3 w a ts) (hn : ts.length ≤ 1048576) :
    Calls Try.prog 16 #[.slice a ts.length cap] w fun e w' => Rets w (frV (sumM ts)) e w' := by
  by_cases h12 : ts.length ≤ 12
  · have HM := hide (show sumM ts = sumL 0 1 ts by simp [sumM, h12])
    have hd : ¬ (12 : Int) < (ts.length : Int) := by omega
    go_enter Try.func16, Try.ntmps16
    go_wp2
    go_loopw [5] (fun i wr => ∃ (k : Nat) (x y : Int), k ≤ ts.length ∧ i = .int .i64 k ∧ wr.heap[w.heap.size + 1]? = some (.cells #[.int .i64 x, .int .i64 y] 25 (0, 0)) ∧ wr.heap[w.heap.size]? = some (.cells #[.int .i64 0, .int .i64 0] 25 (0, 0)) ∧ sumL 0 1 ts = sumL x y (ts.drop k) ∧ Below w.heap.size w wr) (fun i _ => ts.length - (intOf i).toNat)
    case atStart => exact ⟨0, 0, 1, Nat.zero_le _, rfl, by have := blk_new (w.alloc (.cells #[.int .i64 0, .int .i64 0] 25)) #[.int .i64 0, .int .i64 1] 25; simpa using this, blk_alloc (blk_new _ _ _), rfl, (by repeat first | exact Below.refl _ _ | assumption | (refine belA ?_) | (refine belD ?_) | (refine belN ?_) | (refine belS ?_ (by simp <;> omega)) | (refine belT ?_ (by assumption)))⟩
    case round =>
      obtain ⟨k, x, y, hk, rfl, hB1, hB0, hr, hbel⟩ := hrel
      have HR := hide hr
      clear hr
      by_cases hlt : k < ts.length
      · obtain ⟨b, off, rfl, hcell, hcell1, hcell2⟩ := hc.below hbel k hlt
        have HD := hide (drop_getD3 ts k hlt)
        generalize ts.getD k default = t at *
        obtain ⟨t0, t1, t2⟩ := t
        simp only at hcell hcell1 hcell2
        have bl := World.block_lt_of_cell? wr _ hcell
        simp at bl
        have c10 := cell_of_block hB1 0
        have c11 := cell_of_block hB1 1
        simp at c10 c11
        have bl1 : w.heap.size + 1 < wr.heap.size := (Array.getElem?_eq_some_iff.1 hB1).1
        have i1 : (0 : Int) ≤ (k : Int) := by omega
        have i2 : (k : Int) < (ts.length : Int) := by omega
        have HS := hide (show sumL x y ((t0, t1, t2) :: ts.drop (k + 1)) = match addM x y t1 t2 with | none => none | some s => sumL s.1 s.2 (ts.drop (k + 1)) from rfl)
        have HA := hide (fun W => specAddFractions_any x y t1 t2 W)
        generalize addM x y t1 t2 = A at *
        go_wp2
        (refine wp_region_g [0, 1, 2, 3, 4, 5, 6, 7, 8, 9] [10, 11, 12] (by kernel_rfl) (by kernel_rfl) ?_; simp only [pick, List.map_cons, List.map_nil, Array.getD_eq_getD_getElem?, List.getElem?_toArray, List.getElem?_cons_zero, List.getElem?_cons_succ, Option.getD_some]; (iterate 10 (refine wpG_step (fun K hK => ?_); go_simp; first | (refine hK _ ?_; clear hK K) | (apply Exists.intro; refine ⟨fun _ => ?_, hK _ ?_⟩; ((go_at_call 53; exact HA.out _)); clear hK K))); refine wpG_nil ?_)
        (refine wpT_alloc (C := #[.int .i64 0, .int .i64 0]) (T := 25) rfl (fun w => by go_simp) ?_; intro bs hbbs; simp only [Act.put, List.setIfInBounds_toArray, List.set_cons_zero, List.set_cons_succ]; refine wpT_store (C' := #[.int .i64 (oT A), .int .i64 (oB A)]) rfl hbbs (fun wq hwq => ⟨_, by (have hcq := cell_of_block hwq; have hfq := frozen_of_block hwq; go_simp), store_two hwq⟩) ?_; simp only [Act.put, List.setIfInBounds_toArray, List.set_cons_zero, List.set_cons_succ]; refine wpT_pure (up_block _ _) rfl (fun w => by (go_simp; rfl)) ?_; simp only [Act.put, List.setIfInBounds_toArray, List.set_cons_zero, List.set_cons_succ]; refine wpT_end ?_; intro w2 hbw2 hhw2; have hcw2 := cell_of_block hhw2; have hfw2 := frozen_of_block hhw2; have hlw2 : bs < w2.heap.size := (Array.getElem?_eq_some_iff.1 hhw2).1; obtain ⟨hcb, hfb⟩ := bcell hbw2; have hzw2 := hbw2.size; (try simp at hzw2); (try (refine ltk (a := w.heap.size) (b := w2.heap.size) ?_ ?_; (focus omega); intro _ _)); (try (refine ltk (a := w.heap.size + 1) (b := w2.heap.size) ?_ ?_; (focus omega); intro _ _)); (try (refine ltk (a := w.heap.size + 2) (b := w2.heap.size) ?_ ?_; (focus omega); intro _ _)); (try (refine ltk (a := w.heap.size + 3) (b := w2.heap.size) ?_ ?_; (focus omega); intro _ _)); (try (refine ltk (a := bs) (b := w2.heap.size) ?_ ?_; (focus omega); intro _ _)))
        have hB1' := heap_grow hB1 hbw2
        have hB0' := heap_grow hB0 hbw2
        have hbel2 := belT hbel hbw2
        clear hcb hfb
        have f1 := frozen_of_block hB1'
        have f0 := frozen_of_block hB0'
        have d10 := cell_of_block hB1' 0
        have d11 := cell_of_block hB1' 1
        have d00 := cell_of_block hB0' 0
        have d01 := cell_of_block hB0' 1
        have e00 := hcw2 0
        have e01 := hcw2 1
        simp at d10 d11 d00 d01 e00 e01
        clear c10 c11 hcell hcell1 hcell2 hB1 hB0 hbel hcw2
        rcases A with _ | ⟨x', y'⟩
        · simp only [oT, oB, Option.isSome_none]
          go_wp2
          refine bodyPost_ret (by simp [results, Try.results16, go_sem, *]; try rfl) rfl ?_
          exact ⟨by rw [HM.out, HR.out, HD.out, HS.out]; rfl, (by repeat first | exact Below.refl _ _ | assumption | (refine belA ?_) | (refine belD ?_) | (refine belN ?_) | (refine belS ?_ (by simp <;> omega)) | (refine belT ?_ (by assumption)))⟩
        · simp only [oT, oB, Option.isSome_some] at *
          go_wp2
          go_roundw
          case rel =>
            refine ⟨k + 1, x', y', by omega, by go_num, ?_, ?_, by rw [HR.out, HD.out, HS.out], (by repeat first | exact Below.refl _ _ | assumption | (refine belA ?_) | (refine belD ?_) | (refine belN ?_) | (refine belS ?_ (by simp <;> omega)) | (refine belT ?_ (by assumption)))⟩
            · have := setCell_block (i := 1) (v := .int .i64 y') (setCell_block (i := 0) (v := .int .i64 x') hB1')
              simpa [oT, oB] using this
            · exact blk_other (blk_other hB0' (by omega)) (by omega)
          case measure => simp [intOf]; omega
      · have c10 := cell_of_block hB1 0
        have c11 := cell_of_block hB1 1
        have d00 := cell_of_block hB0 0
        have d01 := cell_of_block hB0 1
        simp at c10 c11 d00 d01
        have f0 := frozen_of_block hB0
        go_wp2
        refine bodyPost_ret (by simp [results, Try.results16, go_sem, *]; try rfl) rfl ?_
        exact ⟨by rw [HM.out, HR.out, List.drop_of_length_le (by omega)]; rfl, (by repeat first | exact Below.refl _ _ | assumption | (refine belA ?_) | (refine belD ?_) | (refine belN ?_) | (refine belS ?_ (by simp <;> omega)) | (refine belT ?_ (by assumption)))⟩
  · have HM := hide (show sumM ts = none by simp [sumM, h12])
    have hd : (12 : Int) < (ts.length : Int) := by omega
    go_enter Try.func16, Try.ntmps16
    go_wp2
    refine bodyPost_ret (by simp [results, Try.results16, go_sem, *]; try rfl) rfl ?_
    exact ⟨by rw [HM.out]; rfl, (by repeat first | exact Below.refl _ _ | assumption | (refine belA ?_) | (refine belD ?_) | (refine belN ?_) | (refine belS ?_ (by simp <;> omega)) | (refine belT ?_ (by assumption)))⟩

end Go.Proofs.Ytjcoajaoofjjmaa
