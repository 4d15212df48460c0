/- Cuts by the reference; which sets are cuts. -/
import Derived.Test.YtamadhdnblmfhaaCut
namespace Go.Proofs.Ytamadhdnblmfhaa
set_option linter.unusedSimpArgs false
set_option linter.unusedVariables false
open Go.RowKit

set_option maxHeartbeats 1000000 in
theorem specCutWidth_any (p s : Int) (a : Option Addr) (cap : Nat) (ts : List T3) (w : World) (hc : Rd3 w a ts) (hn : ts.length ≤ 1048576) :
    Calls Try.prog 31 #[.agg #[.int .i64 p, .slice a ts.length cap], .int .i64 s] w fun e w' => Rets w (.int .i64 (cutM p ts s)) e w' := by
  have HC := hide (fun W (hb : Below w.heap.size w W) => specNetOk_any p a cap ts W (hc.below hb) hn)
  cases hk : netOk p ts with
  | false =>
    have HM := hide (show cutM p ts s = -1 by simp [cutM, hk])
    rw [hk] at HC
    clear hk
    go_enter Try.func31, Try.ntmps31
    go_wp2_with fail
    (with_reducible refine (HC.out _ (belA (Below.refl _ _))).mono ?_)
    rintro e w2 ⟨rfl, hb⟩
    have b0 := belT (belA (Below.refl w.heap.size w)) hb
    go_wp2
    go_ret
    exact ⟨ret_int HM.out.symm, b0⟩
  | true =>
    obtain ⟨p1, p2, hl, hall⟩ := netOk_parts hk
    obtain ⟨q1, q2⟩ := pow_bd (show 0 ≤ p by omega) p2
    rw [hk] at HC
    by_cases hs : inB s 0 (2 ^ p.toNat - 1) = true
    · have HM := hide (show cutM p ts s = cutL s ts by simp [cutM, hk, hs])
      obtain ⟨s1, s2⟩ := inB_iff.1 hs
      have HA := hide hall
      clear hk hall
      go_enter Try.func31, Try.ntmps31
      go_wp2_with fail
      (with_reducible refine (HC.out _ (belA (Below.refl _ _))).mono ?_)
      rintro e w2 ⟨rfl, hb⟩
      have b0 := belT (belA (Below.refl w.heap.size w)) hb
      have hbk := heap_grow (blk_new w #[.int .i64 p, .slice a ts.length cap] 26) hb
      have c0 := cell_of_block hbk 0
      have c1 := cell_of_block hbk 1
      simp at c0 c1
      go_wp2_with (first | (go_at_call 59; refine (l01In_any _ _ _ _).mono ?_; rintro e w2 ⟨rfl, rfl⟩))
      clear hs c0 c1
      go_loopw [5, 6] (fun m i wr => ∃ (k : Nat) (n : Int), k ≤ ts.length ∧ i = .int .i64 k ∧ m = .int .i64 n ∧ 0 ≤ n ∧ n ≤ k * 1000 ∧ wr.heap[w.heap.size]? = some (.cells #[.int .i64 p, .slice a ts.length cap] 26 (0, 0)) ∧ cutL s ts = n + cutL s (ts.drop k) ∧ Below w.heap.size w wr) (fun _ i _ => ts.length - (intOf i).toNat)
      case atStart => exact ⟨0, 0, Nat.zero_le _, rfl, rfl, by omega, by omega, hbk, by simp, b0⟩
      case round =>
        obtain ⟨k, n, hk, rfl, rfl, n0, n1, hbk', hr, hbel⟩ := hrel
        have HR := hide hr
        clear hr hbk
        have c0 := cell_of_block hbk' 0
        have c1 := cell_of_block hbk' 1
        simp at c0 c1
        by_cases hlt : k < ts.length
        · obtain ⟨b, off, rfl, hcell, hcell1, hcell2⟩ := hc.below hbel k hlt
          have HD := hide (drop_getD3 ts k hlt)
          obtain ⟨m1, m2, m3, m4, m5, m6, m7⟩ := pipeOk_iff.1 (HA.out _ (getD_mem3 hlt))
          generalize ts.getD k default = t at *
          obtain ⟨x, y, z⟩ := t
          simp only at hcell hcell1 hcell2 m1 m2 m3 m4 m5 m6 m7
          have x7 : x ≤ 7 := by omega
          have y7 : y ≤ 7 := by omega
          cases hx : memB s x with
          | false =>
            have hx1 := memB_1 hx
            have HS := hide (show cutL s ((x, y, z) :: ts.drop (k + 1)) = cutL s (ts.drop (k + 1)) by simp [cutL, hx])
            clear hx
            go_wp2
            go_roundw
            case rel => exact ⟨k + 1, n, by omega, by go_num, rfl, by omega, by omega, hbk', by rw [HR.out, HD.out, HS.out], (by repeat first | exact Below.refl _ _ | assumption | (refine belA ?_) | (refine belD ?_) | (refine belN ?_) | (refine belS ?_ (by simp <;> omega)) | (refine belT ?_ (by assumption)))⟩
            case measure => simp [intOf]; omega
          | true =>
            have hx1 := memB_1 hx
            cases hy : memB s y with
            | true =>
              have hy1 := memB_0 hy
              have HS := hide (show cutL s ((x, y, z) :: ts.drop (k + 1)) = cutL s (ts.drop (k + 1)) by simp [cutL, hy])
              clear hx hy
              go_wp2
              go_roundw
              case rel => exact ⟨k + 1, n, by omega, by go_num, rfl, by omega, by omega, hbk', by rw [HR.out, HD.out, HS.out], (by repeat first | exact Below.refl _ _ | assumption | (refine belA ?_) | (refine belD ?_) | (refine belN ?_) | (refine belS ?_ (by simp <;> omega)) | (refine belT ?_ (by assumption)))⟩
              case measure => simp [intOf]; omega
            | false =>
              have hy1 := memB_0 hy
              have HS := hide (show cutL s ((x, y, z) :: ts.drop (k + 1)) = z + cutL s (ts.drop (k + 1)) by simp [cutL, hx, hy])
              clear hx hy
              go_wp2
              go_roundw
              case rel => exact ⟨k + 1, n + z, by omega, by go_num, rfl, by omega, by omega, hbk', by rw [HR.out, HD.out, HS.out]; omega, (by repeat first | exact Below.refl _ _ | assumption | (refine belA ?_) | (refine belD ?_) | (refine belN ?_) | (refine belS ?_ (by simp <;> omega)) | (refine belT ?_ (by assumption)))⟩
              case measure => simp [intOf]; omega
        · go_wp2
          go_ret
          exact ⟨ret_int (by rw [HM.out, HR.out, List.drop_of_length_le (by omega)]; simp [cutL]), hbel⟩
    · have hs' : inB s 0 (2 ^ p.toNat - 1) = false := by simpa using hs
      have HM := hide (show cutM p ts s = -1 by simp [cutM, hs'])
      clear hk hs hall
      go_enter Try.func31, Try.ntmps31
      go_wp2_with fail
      (with_reducible refine (HC.out _ (belA (Below.refl _ _))).mono ?_)
      rintro e w2 ⟨rfl, hb⟩
      have b0 := belT (belA (Below.refl w.heap.size w)) hb
      have hbk := heap_grow (blk_new w #[.int .i64 p, .slice a ts.length cap] 26) hb
      have c0 := cell_of_block hbk 0
      have c1 := cell_of_block hbk 1
      simp at c0 c1
      go_wp2_with (first | (go_at_call 59; refine (l01In_any _ _ _ _).mono ?_; rintro e w2 ⟨rfl, rfl⟩))
      go_ret
      exact ⟨ret_int HM.out.symm, b0⟩

def isCutM (p : Int) (ts : List T3) (s x y : Int) : Bool := decide (0 ≤ cutM p ts s) && placeM p ts x && placeM p ts y && memB s x && !memB s y

theorem place_bd {p : Int} {ts : List T3} {x : Int} (h : placeM p ts x = true) : 0 ≤ x ∧ x ≤ 7 := by
  simp only [placeM, Bool.and_eq_true] at h
  have h1 := netOk_parts h.1
  have h2 := inB_iff.1 h.2
  omega
theorem cutM_bd (p : Int) (ts : List T3) (s : Int) : cutM p ts s < 0 ∨ 0 ≤ s := by
  by_cases h : 0 ≤ s
  · exact .inr h
  · left
    have : inB s 0 (2 ^ p.toNat - 1) = false := inB_not.2 (by omega)
    simp [cutM, this]
/-- A cut has its two places apart. -/
theorem isCut_two (p : Int) (ts : List T3) (s x y : Int) : isCutM p ts s x y = (decide (0 ≤ cutM p ts s) && twoM p ts x y && memB s x && !memB s y) := by
  simp only [isCutM, placeM, twoM]
  by_cases hxy : x = y
  · subst hxy
    cases memB s x <;> simp
  · have : (x != y) = true := by simpa using hxy
    rw [this]
    cases decide (0 ≤ cutM p ts s) <;> cases netOk p ts <;> cases inB x 0 (p - 1) <;> cases inB y 0 (p - 1) <;> rfl

theorem implIsCut_any (p s x y : Int) (a : Option Addr) (cap : Nat) (ts : List T3) (w : World) (hc : Rd3 w a ts) (hn : ts.length ≤ 1048576) :
    Calls Try.prog 34 #[.agg #[.int .i64 p, .slice a ts.length cap], .int .i64 s, .int .i64 x, .int .i64 y] w fun e w' => Rets w (.bool (isCutM p ts s x y)) e w' := by
  have HC := hide (fun W (hb : Below w.heap.size w W) => implCutWidth_any p s a cap ts W (hc.below hb) hn)
  have HX := hide (fun W (hb : Below w.heap.size w W) => isPlace_any p a cap ts x W (hc.below hb) hn)
  have HY := hide (fun W (hb : Below w.heap.size w W) => isPlace_any p a cap ts y W (hc.below hb) hn)
  have HM := hide (show isCutM p ts s x y = (decide (0 ≤ cutM p ts s) && placeM p ts x && placeM p ts y && memB s x && !memB s y) from rfl)
  have hbx := @place_bd p ts x
  have hby := @place_bd p ts y
  have hcs := cutM_bd p ts s
  generalize cutM p ts s = C at *
  generalize placeM p ts x = X at *
  generalize placeM p ts y = Y at *
  by_cases hC : 0 ≤ C
  case neg =>
    have hd : decide (0 ≤ C) = false := by simpa using hC
    go_enter Try.func34, Try.ntmps34
    go_wp2_with fail
    (with_reducible refine (HC.out _ (belA (Below.refl _ _))).mono ?_)
    rintro e w2 ⟨rfl, hb⟩
    have b0 := belT (belA (Below.refl w.heap.size w)) hb
    go_wp2
    go_ret
    exact ⟨ret_bool (by rw [HM.out, hd]; rfl), b0⟩
  have hd : decide (0 ≤ C) = true := by simpa using hC
  have hs : 0 ≤ s := by omega
  clear hcs
  cases X
  · clear hbx hby
    go_enter Try.func34, Try.ntmps34
    go_wp2_with fail
    (with_reducible refine (HC.out _ (belA (Below.refl _ _))).mono ?_)
    rintro e w2 ⟨rfl, hb⟩
    have b0 := belT (belA (Below.refl w.heap.size w)) hb
    have hbk := heap_grow (blk_new w #[.int .i64 p, .slice a ts.length cap] 26) hb
    have c0 := cell_of_block hbk 0
    have c1 := cell_of_block hbk 1
    simp at c0 c1
    go_wp2_with fail
    (with_reducible refine (HX.out _ b0).mono ?_)
    rintro e w3 ⟨rfl, hb3⟩
    have b3 := belT b0 hb3
    go_wp2
    go_ret
    exact ⟨ret_bool (by rw [HM.out, hd]; rfl), b3⟩
  cases Y
  · clear hbx hby
    go_enter Try.func34, Try.ntmps34
    go_wp2_with fail
    (with_reducible refine (HC.out _ (belA (Below.refl _ _))).mono ?_)
    rintro e w2 ⟨rfl, hb⟩
    have b0 := belT (belA (Below.refl w.heap.size w)) hb
    have hbk := heap_grow (blk_new w #[.int .i64 p, .slice a ts.length cap] 26) hb
    have c0 := cell_of_block hbk 0
    have c1 := cell_of_block hbk 1
    simp at c0 c1
    go_wp2_with fail
    (with_reducible refine (HX.out _ b0).mono ?_)
    rintro e w3 ⟨rfl, hb3⟩
    have b3 := belT b0 hb3
    have hbk3 := heap_grow hbk hb3
    have d0 := cell_of_block hbk3 0
    have d1 := cell_of_block hbk3 1
    simp at d0 d1
    go_wp2_with fail
    (with_reducible refine (HY.out _ b3).mono ?_)
    rintro e w4 ⟨rfl, hb4⟩
    have b4 := belT b3 hb4
    go_wp2
    go_ret
    exact ⟨ret_bool (by rw [HM.out, hd]; rfl), b4⟩
  obtain ⟨x0, x7⟩ := hbx rfl
  obtain ⟨y0, y7⟩ := hby rfl
  clear hbx hby
  cases hx : memB s x with
  | false =>
    have hx1 := memB_1 hx
    rw [hx] at HM
    clear hx
    go_enter Try.func34, Try.ntmps34
    go_wp2_with fail
    (with_reducible refine (HC.out _ (belA (Below.refl _ _))).mono ?_)
    rintro e w2 ⟨rfl, hb⟩
    have b0 := belT (belA (Below.refl w.heap.size w)) hb
    have hbk := heap_grow (blk_new w #[.int .i64 p, .slice a ts.length cap] 26) hb
    have c0 := cell_of_block hbk 0
    have c1 := cell_of_block hbk 1
    simp at c0 c1
    go_wp2_with fail
    (with_reducible refine (HX.out _ b0).mono ?_)
    rintro e w3 ⟨rfl, hb3⟩
    have b3 := belT b0 hb3
    have hbk3 := heap_grow hbk hb3
    have d0 := cell_of_block hbk3 0
    have d1 := cell_of_block hbk3 1
    simp at d0 d1
    go_wp2_with fail
    (with_reducible refine (HY.out _ b3).mono ?_)
    rintro e w4 ⟨rfl, hb4⟩
    have b4 := belT b3 hb4
    go_wp2
    all_goals go_ret
    all_goals exact ⟨ret_bool (by rw [HM.out, hd]; rfl), b4⟩
  | true =>
    have hx1 := memB_1 hx
    rw [hx] at HM
    clear hx
    have hy1 := memB_0 (s := s) (x := y) rfl
    generalize memB s y = my at *
    go_enter Try.func34, Try.ntmps34
    go_wp2_with fail
    (with_reducible refine (HC.out _ (belA (Below.refl _ _))).mono ?_)
    rintro e w2 ⟨rfl, hb⟩
    have b0 := belT (belA (Below.refl w.heap.size w)) hb
    have hbk := heap_grow (blk_new w #[.int .i64 p, .slice a ts.length cap] 26) hb
    have c0 := cell_of_block hbk 0
    have c1 := cell_of_block hbk 1
    simp at c0 c1
    go_wp2_with fail
    (with_reducible refine (HX.out _ b0).mono ?_)
    rintro e w3 ⟨rfl, hb3⟩
    have b3 := belT b0 hb3
    have hbk3 := heap_grow hbk hb3
    have d0 := cell_of_block hbk3 0
    have d1 := cell_of_block hbk3 1
    simp at d0 d1
    go_wp2_with fail
    (with_reducible refine (HY.out _ b3).mono ?_)
    rintro e w4 ⟨rfl, hb4⟩
    have b4 := belT b3 hb4
    go_wp2
    all_goals go_ret
    all_goals exact ⟨ret_bool (by rw [HM.out, hd]; simp_all), b4⟩

theorem specIsCut_any (p s x y : Int) (a : Option Addr) (cap : Nat) (ts : List T3) (w : World) (hc : Rd3 w a ts) (hn : ts.length ≤ 1048576) :
    Calls Try.prog 33 #[.agg #[.int .i64 p, .slice a ts.length cap], .int .i64 s, .int .i64 x, .int .i64 y] w fun e w' => Rets w (.bool (isCutM p ts s x y)) e w' := by
  have HC := hide (fun W (hb : Below w.heap.size w W) => specCutWidth_any p s a cap ts W (hc.below hb) hn)
  have HX := hide (fun W (hb : Below w.heap.size w W) => l08Two_any p a cap ts x y W (hc.below hb) hn)
  have HM := hide (isCut_two p ts s x y)
  have hbt : twoM p ts x y = true → (0 ≤ x ∧ x ≤ 7) ∧ 0 ≤ y ∧ y ≤ 7 := by
    intro h
    simp only [twoM, Bool.and_eq_true] at h
    have h1 := netOk_parts h.1.1.1
    have h2 := inB_iff.1 h.1.1.2
    have h3 := inB_iff.1 h.1.2
    omega
  have hcs := cutM_bd p ts s
  generalize cutM p ts s = C at *
  generalize twoM p ts x y = X at *
  by_cases hC : 0 ≤ C
  case neg =>
    have hd : decide (0 ≤ C) = false := by simpa using hC
    go_enter Try.func33, Try.ntmps33
    go_wp2_with fail
    (with_reducible refine (HC.out _ (belA (Below.refl _ _))).mono ?_)
    rintro e w2 ⟨rfl, hb⟩
    have b0 := belT (belA (Below.refl w.heap.size w)) hb
    go_wp2
    go_ret
    exact ⟨ret_bool (by rw [HM.out, hd]; rfl), b0⟩
  have hd : decide (0 ≤ C) = true := by simpa using hC
  have hs : 0 ≤ s := by omega
  clear hcs
  cases X
  · clear hbt
    go_enter Try.func33, Try.ntmps33
    go_wp2_with fail
    (with_reducible refine (HC.out _ (belA (Below.refl _ _))).mono ?_)
    rintro e w2 ⟨rfl, hb⟩
    have b0 := belT (belA (Below.refl w.heap.size w)) hb
    have hbk := heap_grow (blk_new w #[.int .i64 p, .slice a ts.length cap] 26) hb
    have c0 := cell_of_block hbk 0
    have c1 := cell_of_block hbk 1
    simp at c0 c1
    go_wp2_with fail
    (with_reducible refine (HX.out _ b0).mono ?_)
    rintro e w3 ⟨rfl, hb3⟩
    have b3 := belT b0 hb3
    go_wp2
    go_ret
    exact ⟨ret_bool (by rw [HM.out, hd]; rfl), b3⟩
  obtain ⟨⟨x0, x7⟩, y0, y7⟩ := hbt rfl
  clear hbt
  cases hx : memB s x with
  | false =>
    have hx1 := memB_1 hx
    rw [hx] at HM
    clear hx
    go_enter Try.func33, Try.ntmps33
    go_wp2_with fail
    (with_reducible refine (HC.out _ (belA (Below.refl _ _))).mono ?_)
    rintro e w2 ⟨rfl, hb⟩
    have b0 := belT (belA (Below.refl w.heap.size w)) hb
    have hbk := heap_grow (blk_new w #[.int .i64 p, .slice a ts.length cap] 26) hb
    have c0 := cell_of_block hbk 0
    have c1 := cell_of_block hbk 1
    simp at c0 c1
    go_wp2_with fail
    (with_reducible refine (HX.out _ b0).mono ?_)
    rintro e w3 ⟨rfl, hb3⟩
    have b3 := belT b0 hb3
    go_wp2
    all_goals go_ret
    all_goals exact ⟨ret_bool (by rw [HM.out, hd]; rfl), b3⟩
  | true =>
    have hx1 := memB_1 hx
    rw [hx] at HM
    clear hx
    have hy1 := memB_0 (s := s) (x := y) rfl
    generalize memB s y = my at *
    go_enter Try.func33, Try.ntmps33
    go_wp2_with fail
    (with_reducible refine (HC.out _ (belA (Below.refl _ _))).mono ?_)
    rintro e w2 ⟨rfl, hb⟩
    have b0 := belT (belA (Below.refl w.heap.size w)) hb
    have hbk := heap_grow (blk_new w #[.int .i64 p, .slice a ts.length cap] 26) hb
    have c0 := cell_of_block hbk 0
    have c1 := cell_of_block hbk 1
    simp at c0 c1
    go_wp2_with fail
    (with_reducible refine (HX.out _ b0).mono ?_)
    rintro e w3 ⟨rfl, hb3⟩
    have b3 := belT b0 hb3
    go_wp2
    all_goals go_ret
    all_goals exact ⟨ret_bool (by rw [HM.out, hd]; simp_all), b3⟩

end Go.Proofs.Ytamadhdnblmfhaa
