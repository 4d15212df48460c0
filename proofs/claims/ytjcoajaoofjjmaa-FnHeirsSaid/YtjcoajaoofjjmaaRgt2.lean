/- Owners counted; the common bottom; the largest owner; the smallest share. -/
import Derived.Test.YtjcoajaoofjjmaaRgtAll
import Derived.Test.YtjcoajaoofjjmaaReg3
namespace Go.Proofs.Ytjcoajaoofjjmaa
set_option linter.unusedSimpArgs false
set_option linter.unusedVariables false
open Go.RowKit

theorem getD_mem3' {ts : List T3} {k : Nat} (h : k < ts.length) : ts.getD k default ∈ ts := by simp [List.getD_eq_getElem?_getD, h]
theorem rgA_mem {p : Int} {ts : List T3} (h : rgA p ts = true) : ∀ t ∈ ts, 1 ≤ t.1 ∧ t.1 ≤ 999 ∧ frOk t.2.1 t.2.2 = true ∧ 1 ≤ t.2.1 := by
  induction ts generalizing p with
  | nil => intro t ht; cases ht
  | cons x r ih =>
    obtain ⟨x, y, z⟩ := x
    simp only [rgA, Bool.and_eq_true, decide_eq_true_eq] at h
    intro t ht
    rcases List.mem_cons.1 ht with rfl | ht
    · have h1 := inB_iff.1 h.1.1.1.1
      have h2 := frOk_iff.1 h.1.1.2
      have h3 := h.1.2
      exact ⟨h1.1, h1.2, h.1.1.2, by simp only; omega⟩
    · exact ih h.2 t ht
theorem rights_parts {ts : List T3} (h : rightsM ts = true) : 1 ≤ ts.length ∧ ts.length ≤ 12 ∧ rgA 0 ts = true ∧ sumM ts = some (1, 1) := by
  simp only [rightsM, Bool.and_eq_true] at h
  have h1 := inB_iff.1 h.1.1
  exact ⟨by omega, by omega, h.1.2, by simpa using h.2⟩
theorem rights_mem {ts : List T3} (h : rightsM ts = true) : ∀ t ∈ ts, 1 ≤ t.1 ∧ t.1 ≤ 999 ∧ frOk t.2.1 t.2.2 = true ∧ 1 ≤ t.2.1 := rgA_mem (rights_parts h).2.2.1

def countM (ts : List T3) : Int := if rightsM ts then ts.length else -1

theorem implCountOwners_any (a : Option Addr) (cap : Nat) (ts : List T3) (w : World) (hc : Rd3 w a ts) (hn : ts.length ≤ 1048576) :
    Calls Try.prog 24 #[.slice a ts.length cap] w fun e w' => Rets w (.int .i64 (countM ts)) e w' := by
  have HM := hide (show countM ts = if rightsM ts then (ts.length : Int) else -1 from rfl)
  have HC := hide (implRightsOk_any a cap ts w hc hn)
  generalize rightsM ts = R at *
  go_enter Try.func24, Try.ntmps24
  go_wp2_with fail
  (with_reducible refine HC.out.mono ?_)
  rintro e w1 ⟨rfl, hb1⟩
  cases R
  · go_wp2
    go_ret
    exact ⟨ret_int (by rw [HM.out]; rfl), (by repeat first | exact Below.refl _ _ | assumption | (refine belA ?_) | (refine belD ?_) | (refine belN ?_) | (refine belS ?_ (by simp <;> omega)) | (refine belT ?_ (by assumption)))⟩
  · go_wp2
    go_ret
    exact ⟨ret_int (by rw [HM.out]; rfl), (by repeat first | exact Below.refl _ _ | assumption | (refine belA ?_) | (refine belD ?_) | (refine belN ?_) | (refine belS ?_ (by simp <;> omega)) | (refine belT ?_ (by assumption)))⟩

theorem specCountOwners_any (a : Option Addr) (cap : Nat) (ts : List T3) (w : World) (hc : Rd3 w a ts) (hn : ts.length ≤ 1048576) :
    Calls Try.prog 23 #[.slice a ts.length cap] w fun e w' => Rets w (.int .i64 (countM ts)) e w' := by
  have HM := hide (show countM ts = if rightsM ts then (ts.length : Int) else -1 from rfl)
  have HC := hide (specRightsOk_any a cap ts w hc hn)
  generalize rightsM ts = R at *
  go_enter Try.func23, Try.ntmps23
  go_wp2_with fail
  (with_reducible refine HC.out.mono ?_)
  rintro e w1 ⟨rfl, hb1⟩
  cases R
  · go_wp2
    go_ret
    exact ⟨ret_int (by rw [HM.out]; rfl), (by repeat first | exact Below.refl _ _ | assumption | (refine belA ?_) | (refine belD ?_) | (refine belN ?_) | (refine belS ?_ (by simp <;> omega)) | (refine belT ?_ (by assumption)))⟩
  · go_wp2
    go_ret
    exact ⟨ret_int (by rw [HM.out]; rfl), (by repeat first | exact Below.refl _ _ | assumption | (refine belA ?_) | (refine belD ?_) | (refine belN ?_) | (refine belS ?_ (by simp <;> omega)) | (refine belT ?_ (by assumption)))⟩

/-- The least number that is a multiple of n and of all bottoms, where none on the way is above 100000000. -/
def cbL (n : Int) : List T3 → Int
  | [] => n
  | t :: r => if 100000000 < n / (Int.gcd n t.2.2 : Int) * t.2.2 then -1 else cbL (n / (Int.gcd n t.2.2 : Int) * t.2.2) r
def bottomM (ts : List T3) : Int := if rightsM ts then cbL 1 ts else -1

theorem cb_bd {n b : Int} (h1 : 1 ≤ n) (h2 : n ≤ 100000000) (h3 : 1 ≤ b) (h4 : b ≤ 10000) : 1 ≤ n / (Int.gcd n b : Int) * b ∧ n / (Int.gcd n b : Int) * b ≤ 1000000000000 ∧ 1 ≤ n / (Int.gcd n b : Int) ∧ n / (Int.gcd n b : Int) ≤ 100000000 := by
  have hg := gcd_pos n b (by omega)
  have hd : (Int.gcd n b : Int) ∣ n := Int.gcd_dvd_left ..
  obtain ⟨q, hq⟩ := hd
  generalize (Int.gcd n b : Int) = g at *
  have e : n / g = q := by rw [hq]; exact Int.mul_ediv_cancel_left _ (by omega)
  rw [e]
  have q1 : 1 ≤ q := by
    rcases Int.lt_or_le 0 q with h | h
    · omega
    · have := Int.mul_nonpos_of_nonneg_of_nonpos (show 0 ≤ g by omega) h; omega
  have q2 : q ≤ 100000000 := by
    have := Int.mul_le_mul_of_nonneg_right (show 1 ≤ g by omega) (show 0 ≤ q by omega); omega
  have := mul_pos' q1 h3
  have := mul_bound (show 0 ≤ q by omega) q2 (show 0 ≤ b by omega) h4
  exact ⟨by omega, by omega, q1, q2⟩

theorem commonMultiple_any (n b : Int) (w : World) (h1 : 1 ≤ n) (h2 : n ≤ 100000000) (h3 : 1 ≤ b) (h4 : b ≤ 10000) :
    Calls Try.prog 61 #[.int .i64 n, .int .i64 b] w fun e w' => Rets w (.int .i64 (n / (Int.gcd n b : Int) * b)) e w' := by
  have hg := gcd_pos n b (by omega)
  have hb := cb_bd h1 h2 h3 h4
  have HC := hide (commonDivisor_any n b w (by omega) (by omega) (by omega) (by omega))
  generalize (Int.gcd n b : Int) = g at *
  obtain ⟨b1, b2, b3, b4⟩ := hb
  have hz : (g == 0) = false := by rw [beq_eq_false_iff_ne]; omega
  go_enter Try.func61, Try.ntmps61
  go_wp2_with fail
  (with_reducible refine HC.out.mono ?_)
  rintro e w1 ⟨rfl, hb1⟩
  go_wp2
  go_ret
  exact ⟨rfl, hb1⟩

theorem implCommonBottom_any (a : Option Addr) (cap : Nat) (ts : List T3) (w : World) (hc : Rd3 w a ts) (hn : ts.length ≤ 1048576) :
    Calls Try.prog 26 #[.slice a ts.length cap] w fun e w' => Rets w (.int .i64 (bottomM ts)) e w' := by
  by_cases hr : rightsM ts = true
  · have HM := hide (show bottomM ts = cbL 1 ts by simp [bottomM, hr])
    have HB := hide (rights_mem hr)
    have HC := hide (show Calls Try.prog 22 #[.slice a ts.length cap] w (Rets w (.bool true)) by rw [← hr]; exact implRightsOk_any a cap ts w hc hn)
    clear hr
    go_enter Try.func26, Try.ntmps26
    go_wp2_with fail
    (with_reducible refine HC.out.mono ?_)
    rintro e w1 ⟨rfl, hb1⟩
    go_wp2
    go_loopw [3, 11] (fun q i wr => ∃ (k : Nat) (n : Int), k ≤ ts.length ∧ i = .int .i64 k ∧ q = .int .i64 n ∧ 1 ≤ n ∧ n ≤ 100000000 ∧ cbL 1 ts = cbL n (ts.drop k) ∧ Below w.heap.size w wr) (fun _ i _ => ts.length - (intOf i).toNat)
    case atStart => exact ⟨0, 1, Nat.zero_le _, rfl, rfl, by omega, by omega, rfl, hb1⟩
    case round =>
      obtain ⟨k, n, hk, rfl, rfl, hn0, hn1, hr, hbel⟩ := hrel
      have HR := hide hr
      clear hr
      by_cases hlt : k < ts.length
      · obtain ⟨b, off, rfl, hcell, hcell1, hcell2⟩ := hc.below hbel k hlt
        have HD := hide (drop_getD3 ts k hlt)
        obtain ⟨m1, m2, m3, m4⟩ := HB.out _ (getD_mem3' hlt)
        generalize ts.getD k default = x at *
        obtain ⟨x, y, z⟩ := x
        simp only at hcell hcell1 hcell2 m1 m2 m3 m4
        obtain ⟨z1, z2, y1, y2, _⟩ := frOk_iff.1 m3
        clear m3
        have bl := World.block_lt_of_cell? wr _ hcell
        simp at bl
        have HS := hide (show cbL n ((x, y, z) :: ts.drop (k + 1)) = if 100000000 < n / (Int.gcd n z : Int) * z then -1 else cbL (n / (Int.gcd n z : Int) * z) (ts.drop (k + 1)) from rfl)
        have HC2 := hide (fun W => commonMultiple_any n z W hn0 hn1 z1 z2)
        obtain ⟨b1, b2, _, _⟩ := cb_bd hn0 hn1 z1 z2
        generalize n / (Int.gcd n z : Int) * z = q at *
        go_wp2_with fail
        (with_reducible refine (HC2.out _).mono ?_)
        rintro e w2 ⟨rfl, hb2⟩
        have bel2 := belT (belA hbel) hb2
        by_cases hq : 100000000 < q
        · go_wp2
          go_ret
          exact ⟨ret_int (by rw [HM.out, HR.out, HD.out, HS.out, if_pos hq]), bel2⟩
        · go_wp2
          go_roundw
          case rel => exact ⟨k + 1, q, by omega, by go_num, rfl, b1, by omega, by rw [HR.out, HD.out, HS.out, if_neg (by omega)], bel2⟩
          case measure => simp [intOf]; omega
      · go_wp2
        go_ret
        exact ⟨ret_int (by rw [HM.out, HR.out, List.drop_of_length_le (by omega)]; rfl), hbel⟩
  · have hr' : rightsM ts = false := by simpa using hr
    have HM := hide (show bottomM ts = -1 by simp [bottomM, hr'])
    have HC := hide (show Calls Try.prog 22 #[.slice a ts.length cap] w (Rets w (.bool false)) by rw [← hr']; exact implRightsOk_any a cap ts w hc hn)
    clear hr hr'
    go_enter Try.func26, Try.ntmps26
    go_wp2_with fail
    (with_reducible refine HC.out.mono ?_)
    rintro e w1 ⟨rfl, hb1⟩
    go_wp2
    go_ret
    exact ⟨ret_int HM.out.symm, hb1⟩

theorem specCommonBottom_any (a : Option Addr) (cap : Nat) (ts : List T3) (w : World) (hc : Rd3 w a ts) (hn : ts.length ≤ 1048576) :
    Calls Try.prog 25 #[.slice a ts.length cap] w fun e w' => Rets w (.int .i64 (bottomM ts)) e w' := by
  by_cases hr : rightsM ts = true
  · have HM := hide (show bottomM ts = cbL 1 ts by simp [bottomM, hr])
    have HB := hide (rights_mem hr)
    have HC := hide (show Calls Try.prog 21 #[.slice a ts.length cap] w (Rets w (.bool true)) by rw [← hr]; exact specRightsOk_any a cap ts w hc hn)
    clear hr
    go_enter Try.func25, Try.ntmps25
    go_wp2_with fail
    (with_reducible refine HC.out.mono ?_)
    rintro e w1 ⟨rfl, hb1⟩
    go_wp2
    go_loopw [3, 4] (fun q i wr => ∃ (k : Nat) (n : Int), k ≤ ts.length ∧ i = .int .i64 k ∧ q = .int .i64 n ∧ 1 ≤ n ∧ n ≤ 100000000 ∧ cbL 1 ts = cbL n (ts.drop k) ∧ Below w.heap.size w wr) (fun _ i _ => ts.length - (intOf i).toNat)
    case atStart => exact ⟨0, 1, Nat.zero_le _, rfl, rfl, by omega, by omega, rfl, hb1⟩
    case round =>
      obtain ⟨k, n, hk, rfl, rfl, hn0, hn1, hr, hbel⟩ := hrel
      have HR := hide hr
      clear hr
      by_cases hlt : k < ts.length
      · obtain ⟨b, off, rfl, hcell, hcell1, hcell2⟩ := hc.below hbel k hlt
        have HD := hide (drop_getD3 ts k hlt)
        obtain ⟨m1, m2, m3, m4⟩ := HB.out _ (getD_mem3' hlt)
        generalize ts.getD k default = x at *
        obtain ⟨x, y, z⟩ := x
        simp only at hcell hcell1 hcell2 m1 m2 m3 m4
        obtain ⟨z1, z2, y1, y2, _⟩ := frOk_iff.1 m3
        clear m3
        have bl := World.block_lt_of_cell? wr _ hcell
        simp at bl
        have HS := hide (show cbL n ((x, y, z) :: ts.drop (k + 1)) = if 100000000 < n / (Int.gcd n z : Int) * z then -1 else cbL (n / (Int.gcd n z : Int) * z) (ts.drop (k + 1)) from rfl)
        have HC2 := hide (fun W => l11Gcd_any n z W (by omega) (by omega) (by omega) (by omega))
        obtain ⟨b1, b2, b3, b4⟩ := cb_bd hn0 hn1 z1 z2
        have hg := gcd_pos n z (by omega)
        generalize (Int.gcd n z : Int) = g at *
        have hz : (g == 0) = false := by rw [beq_eq_false_iff_ne]; omega
        go_wp2_with fail
        (with_reducible refine (HC2.out _).mono ?_)
        rintro e w2 ⟨rfl, hb2⟩
        have bel2 := belT hbel hb2
        by_cases hq : 100000000 < n / g * z
        · go_wp2
          go_ret
          exact ⟨ret_int (by rw [HM.out, HR.out, HD.out, HS.out, if_pos hq]), bel2⟩
        · go_wp2
          go_roundw
          case rel => exact ⟨k + 1, n / g * z, by omega, by go_num, rfl, b1, by omega, by rw [HR.out, HD.out, HS.out, if_neg (by omega)], bel2⟩
          case measure => simp [intOf]; omega
      · go_wp2
        go_ret
        exact ⟨ret_int (by rw [HM.out, HR.out, List.drop_of_length_le (by omega)]; rfl), hbel⟩
  · have hr' : rightsM ts = false := by simpa using hr
    have HM := hide (show bottomM ts = -1 by simp [bottomM, hr'])
    have HC := hide (show Calls Try.prog 21 #[.slice a ts.length cap] w (Rets w (.bool false)) by rw [← hr']; exact specRightsOk_any a cap ts w hc hn)
    clear hr hr'
    go_enter Try.func25, Try.ntmps25
    go_wp2_with fail
    (with_reducible refine HC.out.mono ?_)
    rintro e w1 ⟨rfl, hb1⟩
    go_wp2
    go_ret
    exact ⟨ret_int HM.out.symm, hb1⟩

end Go.Proofs.Ytjcoajaoofjjmaa
