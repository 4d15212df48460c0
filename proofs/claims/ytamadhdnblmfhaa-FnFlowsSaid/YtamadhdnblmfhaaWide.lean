/- The widest way. -/
import Derived.Test.YtamadhdnblmfhaaRch
import Derived.Test.YtamadhdnblmfhaaCut3
namespace Go.Proofs.Ytamadhdnblmfhaa
set_option linter.unusedSimpArgs false
set_option linter.unusedVariables false
open Go.RowKit

def wwL (p : Int) (ts : List T3) (x y : Int) (b : Int) : List T3 → Int
  | [] => b
  | t :: r => wwL p ts x y (if b < t.2.2 ∧ memB (reachM p ts x t.2.2) y = true then t.2.2 else b) r
def widestM (p : Int) (ts : List T3) (x y : Int) : Int := if twoM p ts x y then wwL p ts x y 0 ts else -1

set_option maxHeartbeats 2000000 in
theorem implWidestWay_any (p x y : Int) (a : Option Addr) (cap : Nat) (ts : List T3) (w : World) (hc : Rd3 w a ts) (hn : ts.length ≤ 1048576) :
    Calls Try.prog 35 #[.agg #[.int .i64 p, .slice a ts.length cap], .int .i64 x, .int .i64 y] w fun e w' => Rets w (.int .i64 (widestM p ts x y)) e w' := by
  have HT := hide (fun W (hb : Below w.heap.size w W) => twoPlaces_any p a cap ts x y W (hc.below hb) hn)
  cases hk : twoM p ts x y with
  | false =>
    have HM := hide (show widestM p ts x y = -1 by simp [widestM, hk])
    rw [hk] at HT
    clear hk
    go_enter Try.func35, Try.ntmps35
    go_wp2_with fail
    (with_reducible refine (HT.out _ (belA (Below.refl _ _))).mono ?_)
    rintro e w2 ⟨rfl, hb⟩
    have b0 := belT (belA (Below.refl w.heap.size w)) hb
    go_wp2
    go_ret
    exact ⟨ret_int HM.out.symm, b0⟩
  | true =>
    obtain ⟨⟨p1, p2⟩, ⟨hl, hall⟩, ⟨x0, x1⟩, ⟨y0, y1⟩, _⟩ := twoM_parts hk
    have hnet : netOk p ts = true := by simp only [twoM, Bool.and_eq_true] at hk; exact hk.1.1.1
    have HM := hide (show widestM p ts x y = wwL p ts x y 0 ts by simp [widestM, hk])
    have HRc := hide (fun d W (hb : Below w.heap.size w W) => reach_any p x d a cap ts W (hc.below hb) hnet x0 (by omega))
    have y7 : y ≤ 7 := by omega
    have HA := hide hall
    rw [hk] at HT
    clear hk hnet hall
    go_enter Try.func35, Try.ntmps35
    go_wp2_with fail
    (with_reducible refine (HT.out _ (belA (Below.refl _ _))).mono ?_)
    rintro e w2 ⟨rfl, hb⟩
    have b0 := belT (belA (Below.refl w.heap.size w)) hb
    have hbk := heap_grow (blk_new w #[.int .i64 p, .slice a ts.length cap] 26) hb
    have c0 := cell_of_block hbk 0
    have c1 := cell_of_block hbk 1
    simp at c0 c1
    go_wp2
    clear c0 c1
    go_loopw [7, 18] (fun q i wr => ∃ (k : Nat) (b : Int), k ≤ ts.length ∧ i = .int .i64 k ∧ q = .int .i64 b ∧ wr.heap[w.heap.size]? = some (.cells #[.int .i64 p, .slice a ts.length cap] 26 (0, 0)) ∧ wwL p ts x y 0 ts = wwL p ts x y b (ts.drop k) ∧ Below w.heap.size w wr) (fun _ i _ => ts.length - (intOf i).toNat)
    case atStart => exact ⟨0, 0, Nat.zero_le _, rfl, rfl, hbk, rfl, b0⟩
    case round =>
      obtain ⟨k, b, hk, rfl, rfl, hbk', hr, hbel⟩ := hrel
      have HR := hide hr
      clear hr hbk
      have c0 := cell_of_block hbk' 0
      have c1 := cell_of_block hbk' 1
      simp at c0 c1
      have hbl := (Array.getElem?_eq_some_iff.1 hbk').1
      by_cases hlt : k < ts.length
      · obtain ⟨bb, off, rfl, hcell, hcell1, hcell2⟩ := hc.below hbel k hlt
        have HD := hide (drop_getD3 ts k hlt)
        obtain ⟨m1, m2, m3, m4, m5, m6, m7⟩ := pipeOk_iff.1 (HA.out _ (getD_mem3 hlt))
        generalize ts.getD k default = u at *
        obtain ⟨u0, u1, z⟩ := u
        simp only at hcell hcell1 hcell2 m1 m2 m3 m4 m5 m6 m7
        have bl := World.block_lt_of_cell? wr _ hcell
        simp at bl
        have hbq1 := blk_alloc (o := .cells #[.int .i64 u0, .int .i64 u1, .int .i64 z] 37) hbk'
        by_cases hz : b < z
        case neg =>
          have hzd : decide (b < z) = false := by simpa using hz
          have HS2 := hide (show wwL p ts x y b ((u0, u1, z) :: ts.drop (k + 1)) = wwL p ts x y b (ts.drop (k + 1)) by simp [wwL, hz])
          go_wp2
          go_roundw
          case rel => exact ⟨k + 1, b, by omega, by go_num, rfl, by first | exact hbq1 | exact hbk', by rw [HR.out, HD.out, HS2.out], (by repeat first | exact Below.refl _ _ | assumption | (refine belA ?_) | (refine belD ?_) | (refine belN ?_) | (refine belS ?_ (by simp <;> omega)) | (refine belT ?_ (by assumption)))⟩
          case measure => simp [intOf]; omega
        have hzd : decide (b < z) = true := by simpa using hz
        have HRz := hide (HRc.out z)
        cases hx : memB (reachM p ts x z) y with
        | false =>
          have hx1 := memB_1 hx
          have HS2 := hide (show wwL p ts x y b ((u0, u1, z) :: ts.drop (k + 1)) = wwL p ts x y b (ts.drop (k + 1)) by simp [wwL, hx])
          clear hx
          generalize reachM p ts x z = S at *
          go_wp2_with fail
          (with_reducible refine (HRz.out _ (by first | exact hbel | exact belA hbel)).mono ?_)
          rintro e w3 ⟨rfl, hb3⟩
          have hbk3 : w3.heap[w.heap.size]? = some (.cells #[.int .i64 p, .slice (some ⟨bb, off, none⟩) ts.length cap] 26 (0, 0)) := by first | exact heap_grow hbk' hb3 | exact heap_grow hbq1 hb3
          have hbel3 : Below w.heap.size w w3 := by first | exact belT hbel hb3 | exact belT (belA hbel) hb3
          go_wp2
          go_roundw
          case rel => exact ⟨k + 1, b, by omega, by go_num, rfl, hbk3, by rw [HR.out, HD.out, HS2.out], hbel3⟩
          case measure => simp [intOf]; omega
        | true =>
          have hx1 := memB_1 hx
          have HS2 := hide (show wwL p ts x y b ((u0, u1, z) :: ts.drop (k + 1)) = wwL p ts x y z (ts.drop (k + 1)) by simp [wwL, hx, hz])
          clear hx
          generalize reachM p ts x z = S at *
          go_wp2_with fail
          (with_reducible refine (HRz.out _ (by first | exact hbel | exact belA hbel)).mono ?_)
          rintro e w3 ⟨rfl, hb3⟩
          have hbk3 : w3.heap[w.heap.size]? = some (.cells #[.int .i64 p, .slice (some ⟨bb, off, none⟩) ts.length cap] 26 (0, 0)) := by first | exact heap_grow hbk' hb3 | exact heap_grow hbq1 hb3
          have hbel3 : Below w.heap.size w w3 := by first | exact belT hbel hb3 | exact belT (belA hbel) hb3
          have hT := heap_grow (blk_new wr #[.int .i64 u0, .int .i64 u1, .int .i64 z] 37) hb3
          have d2 := cell_of_block hT 2
          simp at d2
          go_wp2
          go_roundw
          case rel => exact ⟨k + 1, z, by omega, by go_num, rfl, hbk3, by rw [HR.out, HD.out, HS2.out], hbel3⟩
          case measure => simp [intOf]; omega
      · go_wp2
        go_ret
        exact ⟨ret_int (by rw [HM.out, HR.out, List.drop_of_length_le (by omega)]; rfl), hbel⟩

set_option maxHeartbeats 2000000 in
theorem specWidestWay_any (p x y : Int) (a : Option Addr) (cap : Nat) (ts : List T3) (w : World) (hc : Rd3 w a ts) (hn : ts.length ≤ 1048576) :
    Calls Try.prog 22 #[.agg #[.int .i64 p, .slice a ts.length cap], .int .i64 x, .int .i64 y] w fun e w' => Rets w (.int .i64 (widestM p ts x y)) e w' := by
  have HT := hide (fun W (hb : Below w.heap.size w W) => l08Two_any p a cap ts x y W (hc.below hb) hn)
  cases hk : twoM p ts x y with
  | false =>
    have HM := hide (show widestM p ts x y = -1 by simp [widestM, hk])
    rw [hk] at HT
    clear hk
    go_enter Try.func22, Try.ntmps22
    go_wp2_with fail
    (with_reducible refine (HT.out _ (belA (Below.refl _ _))).mono ?_)
    rintro e w2 ⟨rfl, hb⟩
    have b0 := belT (belA (Below.refl w.heap.size w)) hb
    go_wp2
    go_ret
    exact ⟨ret_int HM.out.symm, b0⟩
  | true =>
    obtain ⟨⟨p1, p2⟩, ⟨hl, hall⟩, ⟨x0, x1⟩, ⟨y0, y1⟩, _⟩ := twoM_parts hk
    have hnet : netOk p ts = true := by simp only [twoM, Bool.and_eq_true] at hk; exact hk.1.1.1
    have HM := hide (show widestM p ts x y = wwL p ts x y 0 ts by simp [widestM, hk])
    have HRc := hide (fun d W (hb : Below w.heap.size w W) => l08Reach_any p x d a cap ts W (hc.below hb) hnet x0 (by omega))
    have y7 : y ≤ 7 := by omega
    have HA := hide hall
    rw [hk] at HT
    clear hk hnet hall
    go_enter Try.func22, Try.ntmps22
    go_wp2_with fail
    (with_reducible refine (HT.out _ (belA (Below.refl _ _))).mono ?_)
    rintro e w2 ⟨rfl, hb⟩
    have b0 := belT (belA (Below.refl w.heap.size w)) hb
    have hbk := heap_grow (blk_new w #[.int .i64 p, .slice a ts.length cap] 26) hb
    have c0 := cell_of_block hbk 0
    have c1 := cell_of_block hbk 1
    simp at c0 c1
    go_wp2
    clear c0 c1
    go_loopw [7, 8] (fun q i wr => ∃ (k : Nat) (b : Int), k ≤ ts.length ∧ i = .int .i64 k ∧ q = .int .i64 b ∧ wr.heap[w.heap.size]? = some (.cells #[.int .i64 p, .slice a ts.length cap] 26 (0, 0)) ∧ wwL p ts x y 0 ts = wwL p ts x y b (ts.drop k) ∧ Below w.heap.size w wr) (fun _ i _ => ts.length - (intOf i).toNat)
    case atStart => exact ⟨0, 0, Nat.zero_le _, rfl, rfl, hbk, rfl, b0⟩
    case round =>
      obtain ⟨k, b, hk, rfl, rfl, hbk', hr, hbel⟩ := hrel
      have HR := hide hr
      clear hr hbk
      have c0 := cell_of_block hbk' 0
      have c1 := cell_of_block hbk' 1
      simp at c0 c1
      have hbl := (Array.getElem?_eq_some_iff.1 hbk').1
      by_cases hlt : k < ts.length
      · obtain ⟨bb, off, rfl, hcell, hcell1, hcell2⟩ := hc.below hbel k hlt
        have HD := hide (drop_getD3 ts k hlt)
        obtain ⟨m1, m2, m3, m4, m5, m6, m7⟩ := pipeOk_iff.1 (HA.out _ (getD_mem3 hlt))
        generalize ts.getD k default = u at *
        obtain ⟨u0, u1, z⟩ := u
        simp only at hcell hcell1 hcell2 m1 m2 m3 m4 m5 m6 m7
        have bl := World.block_lt_of_cell? wr _ hcell
        simp at bl
        have hbq1 := blk_alloc (o := .cells #[.int .i64 u0, .int .i64 u1, .int .i64 z] 37) hbk'
        by_cases hz : b < z
        case neg =>
          have hzd : decide (b < z) = false := by simpa using hz
          have HS2 := hide (show wwL p ts x y b ((u0, u1, z) :: ts.drop (k + 1)) = wwL p ts x y b (ts.drop (k + 1)) by simp [wwL, hz])
          go_wp2
          go_roundw
          case rel => exact ⟨k + 1, b, by omega, by go_num, rfl, by first | exact hbq1 | exact hbk', by rw [HR.out, HD.out, HS2.out], (by repeat first | exact Below.refl _ _ | assumption | (refine belA ?_) | (refine belD ?_) | (refine belN ?_) | (refine belS ?_ (by simp <;> omega)) | (refine belT ?_ (by assumption)))⟩
          case measure => simp [intOf]; omega
        have hzd : decide (b < z) = true := by simpa using hz
        have HRz := hide (HRc.out z)
        cases hx : memB (reachM p ts x z) y with
        | false =>
          have hx1 := memB_1 hx
          have HS2 := hide (show wwL p ts x y b ((u0, u1, z) :: ts.drop (k + 1)) = wwL p ts x y b (ts.drop (k + 1)) by simp [wwL, hx])
          clear hx
          generalize reachM p ts x z = S at *
          go_wp2_with fail
          (with_reducible refine (HRz.out _ (by first | exact hbel | exact belA hbel)).mono ?_)
          rintro e w3 ⟨rfl, hb3⟩
          have hbk3 : w3.heap[w.heap.size]? = some (.cells #[.int .i64 p, .slice (some ⟨bb, off, none⟩) ts.length cap] 26 (0, 0)) := by first | exact heap_grow hbk' hb3 | exact heap_grow hbq1 hb3
          have hbel3 : Below w.heap.size w w3 := by first | exact belT hbel hb3 | exact belT (belA hbel) hb3
          go_wp2
          go_roundw
          case rel => exact ⟨k + 1, b, by omega, by go_num, rfl, hbk3, by rw [HR.out, HD.out, HS2.out], hbel3⟩
          case measure => simp [intOf]; omega
        | true =>
          have hx1 := memB_1 hx
          have HS2 := hide (show wwL p ts x y b ((u0, u1, z) :: ts.drop (k + 1)) = wwL p ts x y z (ts.drop (k + 1)) by simp [wwL, hx, hz])
          clear hx
          generalize reachM p ts x z = S at *
          go_wp2_with fail
          (with_reducible refine (HRz.out _ (by first | exact hbel | exact belA hbel)).mono ?_)
          rintro e w3 ⟨rfl, hb3⟩
          have hbk3 : w3.heap[w.heap.size]? = some (.cells #[.int .i64 p, .slice (some ⟨bb, off, none⟩) ts.length cap] 26 (0, 0)) := by first | exact heap_grow hbk' hb3 | exact heap_grow hbq1 hb3
          have hbel3 : Below w.heap.size w w3 := by first | exact belT hbel hb3 | exact belT (belA hbel) hb3
          skip
          go_wp2
          go_roundw
          case rel => exact ⟨k + 1, z, by omega, by go_num, rfl, hbk3, by rw [HR.out, HD.out, HS2.out], hbel3⟩
          case measure => simp [intOf]; omega
      · go_wp2
        go_ret
        exact ⟨ret_int (by rw [HM.out, HR.out, List.drop_of_length_le (by omega)]; rfl), hbel⟩

end Go.Proofs.Ytamadhdnblmfhaa
