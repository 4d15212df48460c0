/- Who has an hour; when an owner's turn comes next. -/
import Derived.Test.YtnemccmjaanmnaaTrn2
namespace Go.Proofs.Ytnemccmjaanmnaa
set_option linter.unusedSimpArgs false
set_option linter.unusedVariables false
open Go.RowKit

theorem wk_bd (h : Int) : 0 ≤ wk h ∧ wk h < 168 := by unfold wk; have := tmod_bd h; omega

theorem implOwnerAt_any (a : Option Addr) (cap : Nat) (ts : List T3) (o : Int) (w : World) (hc : Rd3 w a ts) (hn : ts.length ≤ 1048576) :
    Calls Try.prog 20 #[.slice a ts.length cap, .int .i64 o] w fun e w' => Rets w (.int .i64 (ownM ts o)) e w' := by
  by_cases hin : tsOk ts = true ∧ inB o (-1000000) 1000000 = true
  · obtain ⟨hk, ho⟩ := hin
    obtain ⟨h30, hmem⟩ := tsOk_mem hk
    have HM := hide (show ownM ts o = ownL (wk o) ts by simp [ownM, hk, ho])
    obtain ⟨o1, o2⟩ := inB_iff.1 ho
    obtain ⟨d1, d2⟩ := tmod_bd o
    have HW := hide (show wk o = (o.tmod 168 + 168) % 168 from rfl)
    obtain ⟨e1, e2⟩ := wk_bd o
    go_enter Try.func20, Try.ntmps20
    go_wp2_with fail
    refine (implTurnsOk_any a cap ts w hc hn).mono ?_
    rintro e w1 ⟨rfl, hb1⟩
    have hc1 := hc.below hb1
    go_wp2_with (first | (go_at_call 33; refine (within_any _ _ _ _).mono ?_; rintro e w2 ⟨rfl, rfl⟩))
    rw [← HW.out]
    clear hk ho
    generalize wk o = hh at *
    go_loopw [22] (fun i wr => ∃ (k : Nat), k ≤ ts.length ∧ i = .int .i64 k ∧ ownL hh ts = ownL hh (ts.drop k) ∧ Below w.heap.size w wr) (fun i _ => ts.length - (intOf i).toNat)
    case atStart => exact ⟨0, Nat.zero_le _, rfl, by simp, hb1⟩
    case round =>
      obtain ⟨k, hk, rfl, hr, hbel⟩ := hrel
      have HR := hide hr
      clear hr
      by_cases hlt : k < ts.length
      · obtain ⟨b, off, rfl, hcell, hcell1, hcell2⟩ := hc.below hbel k hlt
        have HD := hide (drop_getD3 ts k hlt)
        generalize ts.getD k default = x at *
        obtain ⟨x, y, z⟩ := x
        simp only at hcell hcell1 hcell2
        have bl := World.block_lt_of_cell? wr _ hcell
        simp at bl
        by_cases c1 : y ≤ hh
        case neg =>
          go_wp2
          go_roundw
          case rel => exact ⟨k + 1, by omega, by go_num, by rw [HR.out, HD.out]; simp [ownL, c1], (by repeat first | exact Below.refl _ _ | assumption | (refine belA ?_) | (refine belD ?_) | (refine belN ?_) | (refine belS ?_ (by simp <;> omega)) | (refine belT ?_ (by assumption)))⟩
          case measure => simp [intOf]; omega
        by_cases c2 : hh < z
        · go_wp2
          go_ret
          exact ⟨ret_int (by rw [HM.out, HR.out, HD.out]; simp [ownL, c1, c2]), (by repeat first | exact Below.refl _ _ | assumption | (refine belA ?_) | (refine belD ?_) | (refine belN ?_) | (refine belS ?_ (by simp <;> omega)) | (refine belT ?_ (by assumption)))⟩
        · go_wp2
          go_roundw
          case rel => exact ⟨k + 1, by omega, by go_num, by rw [HR.out, HD.out]; simp [ownL, c1, c2], (by repeat first | exact Below.refl _ _ | assumption | (refine belA ?_) | (refine belD ?_) | (refine belN ?_) | (refine belS ?_ (by simp <;> omega)) | (refine belT ?_ (by assumption)))⟩
          case measure => simp [intOf]; omega
      · go_wp2
        go_ret
        exact ⟨ret_int (by rw [HM.out, HR.out, List.drop_of_length_le (by omega)]; simp [ownL]), hbel⟩
  · have HM := hide (show ownM ts o = -1 by simp only [ownM]; rw [if_neg (by simpa using hin)])
    go_enter Try.func20, Try.ntmps20
    go_wp2_with fail
    refine (implTurnsOk_any a cap ts w hc hn).mono ?_
    rintro e w1 ⟨rfl, hb1⟩
    go_wp2_with (first | (go_at_call 33; refine (within_any _ _ _ _).mono ?_; rintro e w2 ⟨rfl, rfl⟩))
    all_goals first | (go_ret; exact ⟨ret_int HM.out.symm, hb1⟩) | (exfalso; simp_all; done)

theorem specOwnerAt_any (a : Option Addr) (cap : Nat) (ts : List T3) (o : Int) (w : World) (hc : Rd3 w a ts) (hn : ts.length ≤ 1048576) :
    Calls Try.prog 19 #[.slice a ts.length cap, .int .i64 o] w fun e w' => Rets w (.int .i64 (ownM ts o)) e w' := by
  by_cases hin : tsOk ts = true ∧ inB o (-1000000) 1000000 = true
  · obtain ⟨hk, ho⟩ := hin
    obtain ⟨h30, hmem⟩ := tsOk_mem hk
    have HM := hide (show ownM ts o = ownL (wk o) ts by simp [ownM, hk, ho])
    obtain ⟨o1, o2⟩ := inB_iff.1 ho
    obtain ⟨d1, d2⟩ := tmod_bd o
    have HW := hide (show wk o = (o.tmod 168 + 168) % 168 from rfl)
    obtain ⟨e1, e2⟩ := wk_bd o
    go_enter Try.func19, Try.ntmps19
    go_wp2_with fail
    refine (specTurnsOk_any a cap ts w hc hn).mono ?_
    rintro e w1 ⟨rfl, hb1⟩
    have hc1 := hc.below hb1
    go_wp2_with (first | (go_at_call 31; refine (l01In_any _ _ _ _).mono ?_; rintro e w2 ⟨rfl, rfl⟩))
    rw [← HW.out]
    clear hk ho
    generalize wk o = hh at *
    go_loopw [6] (fun i wr => ∃ (k : Nat), k ≤ ts.length ∧ i = .int .i64 k ∧ ownL hh ts = ownL hh (ts.drop k) ∧ Below w.heap.size w wr) (fun i _ => ts.length - (intOf i).toNat)
    case atStart => exact ⟨0, Nat.zero_le _, rfl, by simp, hb1⟩
    case round =>
      obtain ⟨k, hk, rfl, hr, hbel⟩ := hrel
      have HR := hide hr
      clear hr
      by_cases hlt : k < ts.length
      · obtain ⟨b, off, rfl, hcell, hcell1, hcell2⟩ := hc.below hbel k hlt
        have HD := hide (drop_getD3 ts k hlt)
        generalize ts.getD k default = x at *
        obtain ⟨x, y, z⟩ := x
        simp only at hcell hcell1 hcell2
        have bl := World.block_lt_of_cell? wr _ hcell
        simp at bl
        by_cases c1 : y ≤ hh
        case neg =>
          go_wp2
          go_roundw
          case rel => exact ⟨k + 1, by omega, by go_num, by rw [HR.out, HD.out]; simp [ownL, c1], (by repeat first | exact Below.refl _ _ | assumption | (refine belA ?_) | (refine belD ?_) | (refine belN ?_) | (refine belS ?_ (by simp <;> omega)) | (refine belT ?_ (by assumption)))⟩
          case measure => simp [intOf]; omega
        by_cases c2 : hh < z
        · go_wp2
          go_ret
          exact ⟨ret_int (by rw [HM.out, HR.out, HD.out]; simp [ownL, c1, c2]), (by repeat first | exact Below.refl _ _ | assumption | (refine belA ?_) | (refine belD ?_) | (refine belN ?_) | (refine belS ?_ (by simp <;> omega)) | (refine belT ?_ (by assumption)))⟩
        · go_wp2
          go_roundw
          case rel => exact ⟨k + 1, by omega, by go_num, by rw [HR.out, HD.out]; simp [ownL, c1, c2], (by repeat first | exact Below.refl _ _ | assumption | (refine belA ?_) | (refine belD ?_) | (refine belN ?_) | (refine belS ?_ (by simp <;> omega)) | (refine belT ?_ (by assumption)))⟩
          case measure => simp [intOf]; omega
      · go_wp2
        go_ret
        exact ⟨ret_int (by rw [HM.out, HR.out, List.drop_of_length_le (by omega)]; simp [ownL]), hbel⟩
  · have HM := hide (show ownM ts o = -1 by simp only [ownM]; rw [if_neg (by simpa using hin)])
    go_enter Try.func19, Try.ntmps19
    go_wp2_with fail
    refine (specTurnsOk_any a cap ts w hc hn).mono ?_
    rintro e w1 ⟨rfl, hb1⟩
    go_wp2_with (first | (go_at_call 31; refine (l01In_any _ _ _ _).mono ?_; rintro e w2 ⟨rfl, rfl⟩))
    all_goals first | (go_ret; exact ⟨ret_int HM.out.symm, hb1⟩) | (exfalso; simp_all; done)

/-- The first n from k on, below k + fuel, that f holds of; else -1. -/
def firstN (f : Int → Bool) : Nat → Int → Int
  | 0, _ => -1
  | m + 1, k => if f k then k else firstN f m (k + 1)
def nextM (ts : List T3) (p h : Int) : Int := if p < 1 ∨ ownM ts h < 0 then -1 else firstN (fun n => ownM ts (wk h + n) == p) 168 0

theorem ownL_bd {ts : List T3} (h : ∀ t ∈ ts, 1 ≤ t.1 ∧ t.1 ≤ 999) (hh : Int) : 0 ≤ ownL hh ts ∧ ownL hh ts ≤ 999 := by
  induction ts with
  | nil => simp [ownL]
  | cons t r ih =>
    have h1 := h t (by simp)
    have h2 := ih (fun u hu => h u (by simp [hu]))
    simp only [ownL]; split <;> omega

set_option maxRecDepth 100000 in
theorem implNextTurn_any (a : Option Addr) (cap : Nat) (ts : List T3) (p o : Int) (w : World) (hc : Rd3 w a ts) (hn : ts.length ≤ 1048576) :
    Calls Try.prog 26 #[.slice a ts.length cap, .int .i64 p, .int .i64 o] w fun e w' => Rets w (.int .i64 (nextM ts p o)) e w' := by
  by_cases hp : p < 1
  · have HM := hide (show nextM ts p o = -1 by simp [nextM, hp])
    have hpd : decide (p < 1) = true := by simpa using hp
    go_enter Try.func26, Try.ntmps26
    go_wp2
    go_ret
    exact ⟨ret_int HM.out.symm, (by repeat first | exact Below.refl _ _ | assumption | (refine belA ?_) | (refine belD ?_) | (refine belN ?_) | (refine belS ?_ (by simp <;> omega)) | (refine belT ?_ (by assumption)))⟩
  have hpd : decide (p < 1) = false := by simpa using hp
  by_cases ho : ownM ts o < 0
  · have HM := hide (show nextM ts p o = -1 by simp [nextM, ho])
    have HO := hide (implOwnerAt_any a cap ts o w hc hn)
    generalize ownM ts o = oo at *
    go_enter Try.func26, Try.ntmps26
    go_wp2_with fail
    refine HO.out.mono ?_
    rintro e w1 ⟨rfl, hb1⟩
    go_wp2
    go_ret
    exact ⟨ret_int HM.out.symm, (by repeat first | exact Below.refl _ _ | assumption | (refine belA ?_) | (refine belD ?_) | (refine belN ?_) | (refine belS ?_ (by simp <;> omega)) | (refine belT ?_ (by assumption)))⟩
  · have HM := hide (show nextM ts p o = firstN (fun n => ownM ts (wk o + n) == p) 168 0 by simp only [nextM]; rw [if_neg (by omega)])
    have HO := hide (implOwnerAt_any a cap ts o w hc hn)
    have hin : inB o (-1000000) 1000000 = true := by
      cases hb : inB o (-1000000) 1000000 with
      | true => rfl
      | false => exact absurd (show ownM ts o < 0 by simp [ownM, hb]) ho
    obtain ⟨o1, o2⟩ := inB_iff.1 hin
    obtain ⟨d1, d2⟩ := tmod_bd o
    have HW := hide (show wk o = (o.tmod 168 + 168) % 168 from rfl)
    obtain ⟨e1, e2⟩ := wk_bd o
    clear hin
    generalize ownM ts o = oo at *
    go_enter Try.func26, Try.ntmps26
    go_wp2_with fail
    refine HO.out.mono ?_
    rintro e w1 ⟨rfl, hb1⟩
    go_wp2
    rw [← HW.out]
    generalize wk o = hh at *
    go_loopw [8] (fun i wr => ∃ (k : Nat), k ≤ 168 ∧ i = .int .i64 k ∧ firstN (fun n => ownM ts (hh + n) == p) 168 0 = firstN (fun n => ownM ts (hh + n) == p) (168 - k) k ∧ Below w.heap.size w wr) (fun i _ => 168 - (intOf i).toNat)
    case atStart => exact ⟨0, Nat.zero_le _, rfl, by simp, (by repeat first | exact Below.refl _ _ | assumption | (refine belA ?_) | (refine belD ?_) | (refine belN ?_) | (refine belS ?_ (by simp <;> omega)) | (refine belT ?_ (by assumption)))⟩
    case round =>
      obtain ⟨k, hk, rfl, hr, hbel⟩ := hrel
      have HR := hide hr
      clear hr
      by_cases hlt : k < 168
      · have HN := hide (implOwnerAt_any a cap ts (hh + k) wr (hc.below hbel) hn)
        have HF := hide (show firstN (fun n => ownM ts (hh + n) == p) (168 - k) k = if ownM ts (hh + k) == p then (k : Int) else firstN (fun n => ownM ts (hh + n) == p) (168 - (k + 1)) (k + 1) by
          rw [show 168 - k = (168 - (k + 1)) + 1 by omega]; rfl)
        generalize ownM ts (hh + k) = ok at *
        by_cases hop : ok = p
        · have h1 : (ok == p) = true := by simpa using hop
          clear hop
          go_wp2_with fail
          refine HN.out.mono ?_
          rintro e w2 ⟨rfl, hb2⟩
          go_wp2
          go_ret
          exact ⟨ret_int (by rw [HM.out, HR.out, HF.out, if_pos h1]), (by repeat first | exact Below.refl _ _ | assumption | (refine belA ?_) | (refine belD ?_) | (refine belN ?_) | (refine belS ?_ (by simp <;> omega)) | (refine belT ?_ (by assumption)))⟩
        · have h1 : (ok == p) = false := by simpa using hop
          clear hop
          go_wp2_with fail
          refine HN.out.mono ?_
          rintro e w2 ⟨rfl, hb2⟩
          go_wp2
          go_roundw
          case rel => exact ⟨k + 1, by omega, by go_num, by rw [HR.out, HF.out, h1]; simp, (by repeat first | exact Below.refl _ _ | assumption | (refine belA ?_) | (refine belD ?_) | (refine belN ?_) | (refine belS ?_ (by simp <;> omega)) | (refine belT ?_ (by assumption)))⟩
          case measure => simp [intOf]; omega
      · go_wp2
        go_ret
        exact ⟨ret_int (by rw [HM.out, HR.out, show 168 - k = 0 by omega]; rfl), (by repeat first | exact Below.refl _ _ | assumption | (refine belA ?_) | (refine belD ?_) | (refine belN ?_) | (refine belS ?_ (by simp <;> omega)) | (refine belT ?_ (by assumption)))⟩

set_option maxRecDepth 100000 in
theorem specNextTurn_any (a : Option Addr) (cap : Nat) (ts : List T3) (p o : Int) (w : World) (hc : Rd3 w a ts) (hn : ts.length ≤ 1048576) :
    Calls Try.prog 25 #[.slice a ts.length cap, .int .i64 p, .int .i64 o] w fun e w' => Rets w (.int .i64 (nextM ts p o)) e w' := by
  by_cases ho : ownM ts o < 0
  · have HM := hide (show nextM ts p o = -1 by simp [nextM, ho])
    have HO := hide (specOwnerAt_any a cap ts o w hc hn)
    generalize ownM ts o = oo at *
    go_enter Try.func25, Try.ntmps25
    go_wp2_with fail
    refine HO.out.mono ?_
    rintro e w1 ⟨rfl, hb1⟩
    go_wp2
    go_ret
    exact ⟨ret_int HM.out.symm, (by repeat first | exact Below.refl _ _ | assumption | (refine belA ?_) | (refine belD ?_) | (refine belN ?_) | (refine belS ?_ (by simp <;> omega)) | (refine belT ?_ (by assumption)))⟩
  by_cases hp : p < 1
  · have HM := hide (show nextM ts p o = -1 by simp [nextM, hp])
    have hpd : decide (p < 1) = true := by simpa using hp
    have HO := hide (specOwnerAt_any a cap ts o w hc hn)
    generalize ownM ts o = oo at *
    go_enter Try.func25, Try.ntmps25
    go_wp2_with fail
    refine HO.out.mono ?_
    rintro e w1 ⟨rfl, hb1⟩
    go_wp2
    go_ret
    exact ⟨ret_int HM.out.symm, (by repeat first | exact Below.refl _ _ | assumption | (refine belA ?_) | (refine belD ?_) | (refine belN ?_) | (refine belS ?_ (by simp <;> omega)) | (refine belT ?_ (by assumption)))⟩
  · have hpd : decide (p < 1) = false := by simpa using hp
    have HM := hide (show nextM ts p o = firstN (fun n => ownM ts (wk o + n) == p) 168 0 by simp only [nextM]; rw [if_neg (by omega)])
    have HO := hide (specOwnerAt_any a cap ts o w hc hn)
    have hin : inB o (-1000000) 1000000 = true := by
      cases hb : inB o (-1000000) 1000000 with
      | true => rfl
      | false => exact absurd (show ownM ts o < 0 by simp [ownM, hb]) ho
    obtain ⟨o1, o2⟩ := inB_iff.1 hin
    obtain ⟨d1, d2⟩ := tmod_bd o
    have HW := hide (show wk o = (o.tmod 168 + 168) % 168 from rfl)
    obtain ⟨e1, e2⟩ := wk_bd o
    clear hin
    generalize ownM ts o = oo at *
    go_enter Try.func25, Try.ntmps25
    go_wp2_with fail
    refine HO.out.mono ?_
    rintro e w1 ⟨rfl, hb1⟩
    go_wp2
    rw [← HW.out]
    generalize wk o = hh at *
    go_loopw [8] (fun i wr => ∃ (k : Nat), k ≤ 168 ∧ i = .int .i64 k ∧ firstN (fun n => ownM ts (hh + n) == p) 168 0 = firstN (fun n => ownM ts (hh + n) == p) (168 - k) k ∧ Below w.heap.size w wr) (fun i _ => 168 - (intOf i).toNat)
    case atStart => exact ⟨0, Nat.zero_le _, rfl, by simp, (by repeat first | exact Below.refl _ _ | assumption | (refine belA ?_) | (refine belD ?_) | (refine belN ?_) | (refine belS ?_ (by simp <;> omega)) | (refine belT ?_ (by assumption)))⟩
    case round =>
      obtain ⟨k, hk, rfl, hr, hbel⟩ := hrel
      have HR := hide hr
      clear hr
      by_cases hlt : k < 168
      · have HN := hide (specOwnerAt_any a cap ts (hh + k) wr (hc.below hbel) hn)
        have HF := hide (show firstN (fun n => ownM ts (hh + n) == p) (168 - k) k = if ownM ts (hh + k) == p then (k : Int) else firstN (fun n => ownM ts (hh + n) == p) (168 - (k + 1)) (k + 1) by
          rw [show 168 - k = (168 - (k + 1)) + 1 by omega]; rfl)
        generalize ownM ts (hh + k) = ok at *
        by_cases hop : ok = p
        · have h1 : (ok == p) = true := by simpa using hop
          clear hop
          go_wp2_with fail
          refine HN.out.mono ?_
          rintro e w2 ⟨rfl, hb2⟩
          go_wp2
          go_ret
          exact ⟨ret_int (by rw [HM.out, HR.out, HF.out, if_pos h1]), (by repeat first | exact Below.refl _ _ | assumption | (refine belA ?_) | (refine belD ?_) | (refine belN ?_) | (refine belS ?_ (by simp <;> omega)) | (refine belT ?_ (by assumption)))⟩
        · have h1 : (ok == p) = false := by simpa using hop
          clear hop
          go_wp2_with fail
          refine HN.out.mono ?_
          rintro e w2 ⟨rfl, hb2⟩
          go_wp2
          go_roundw
          case rel => exact ⟨k + 1, by omega, by go_num, by rw [HR.out, HF.out, h1]; simp, (by repeat first | exact Below.refl _ _ | assumption | (refine belA ?_) | (refine belD ?_) | (refine belN ?_) | (refine belS ?_ (by simp <;> omega)) | (refine belT ?_ (by assumption)))⟩
          case measure => simp [intOf]; omega
      · go_wp2
        go_ret
        exact ⟨ret_int (by rw [HM.out, HR.out, show 168 - k = 0 by omega]; rfl), (by repeat first | exact Below.refl _ _ | assumption | (refine belA ?_) | (refine belD ?_) | (refine belN ?_) | (refine belS ?_ (by simp <;> omega)) | (refine belT ?_ (by assumption)))⟩

end Go.Proofs.Ytnemccmjaanmnaa
