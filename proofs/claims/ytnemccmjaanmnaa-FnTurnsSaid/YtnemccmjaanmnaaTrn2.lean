/- Hours of turns. -/
import Derived.Test.YtnemccmjaanmnaaTrnAll
namespace Go.Proofs.Ytnemccmjaanmnaa
set_option linter.unusedSimpArgs false
set_option linter.unusedVariables false
open Go.RowKit

theorem trOk_mem {p : Int} {ts : List T3} (h : trOk p ts = true) : ∀ t ∈ ts, 1 ≤ t.1 ∧ t.1 ≤ 999 ∧ 0 ≤ t.2.1 ∧ t.2.1 < t.2.2 ∧ t.2.2 ≤ 168 := by
  induction ts generalizing p with
  | nil => intro t ht; cases ht
  | cons x r ih =>
    obtain ⟨x, y, z⟩ := x
    simp only [trOk, Bool.and_eq_true, decide_eq_true_eq] at h
    intro t ht
    rcases List.mem_cons.1 ht with rfl | ht
    · have := inB_iff.1 h.1.1.1.1.1
      exact ⟨this.1, this.2, h.1.1.1.1.2, h.1.1.1.2, h.1.1.2⟩
    · exact ih h.2 t ht

theorem tsOk_mem {ts : List T3} (h : tsOk ts = true) : ts.length ≤ 30 ∧ ∀ t ∈ ts, 1 ≤ t.1 ∧ t.1 ≤ 999 ∧ 0 ≤ t.2.1 ∧ t.2.1 < t.2.2 ∧ t.2.2 ≤ 168 := by
  simp only [tsOk, Bool.and_eq_true, decide_eq_true_eq] at h
  exact ⟨h.1, trOk_mem h.2⟩

theorem getD_mem3 {ts : List T3} {k : Nat} (h : k < ts.length) : ts.getD k default ∈ ts := by simp [List.getD_eq_getElem?_getD, h]

/-- How many hours an owner has. -/
def hoursL (o : Int) : List T3 → Int
  | [] => 0
  | t :: r => (if t.1 = o then t.2.2 - t.2.1 else 0) + hoursL o r
def hoursM (ts : List T3) (o : Int) : Int := if tsOk ts then hoursL o ts else -1
/-- How many hours are taken. -/
def takenL : List T3 → Int
  | [] => 0
  | t :: r => (t.2.2 - t.2.1) + takenL r
def freeM (ts : List T3) : Int := if tsOk ts then 168 - takenL ts else -1
/-- Who has an hour of the week. -/
def ownL (h : Int) : List T3 → Int
  | [] => 0
  | t :: r => if t.2.1 ≤ h ∧ h < t.2.2 then t.1 else ownL h r
def wk (h : Int) : Int := (h.tmod 168 + 168) % 168
def ownM (ts : List T3) (h : Int) : Int := if tsOk ts && inB h (-1000000) 1000000 then ownL (wk h) ts else -1

theorem tmod_bd (h : Int) : -168 < h.tmod 168 ∧ h.tmod 168 < 168 := by
  have h1 := Int.tmod_lt_of_pos h (show (0 : Int) < 168 by omega)
  have h2 : -168 < h.tmod 168 := by
    have := Int.tmod_lt_of_pos (-h) (show (0 : Int) < 168 by omega)
    rw [Int.neg_tmod] at this
    omega
  exact ⟨h2, h1⟩

theorem implHoursOf_any (a : Option Addr) (cap : Nat) (ts : List T3) (o : Int) (w : World) (hc : Rd3 w a ts) (hn : ts.length ≤ 1048576) :
    Calls Try.prog 18 #[.slice a ts.length cap, .int .i64 o] w fun e w' => Rets w (.int .i64 (hoursM ts o)) e w' := by
  by_cases hk : tsOk ts = true
  · obtain ⟨h30, hmem⟩ := tsOk_mem hk
    have HM := hide (show hoursM ts o = hoursL o ts by simp [hoursM, hk])
    have HB := hide hmem
    clear hmem
    go_enter Try.func18, Try.ntmps18
    go_wp2_with fail
    refine (implTurnsOk_any a cap ts w hc hn).mono ?_
    rintro e w1 ⟨rfl, hb1⟩
    have hc1 := hc.below hb1
    go_wp2
    clear hk
    go_loopw [5, 13] (fun n i wr => ∃ (k : Nat) (m : Int), k ≤ ts.length ∧ i = .int .i64 k ∧ n = .int .i64 m ∧ 0 ≤ m ∧ m ≤ k * 168 ∧ hoursL o ts = m + hoursL o (ts.drop k) ∧ Below w.heap.size w wr) (fun _ i _ => ts.length - (intOf i).toNat)
    case atStart => exact ⟨0, 0, Nat.zero_le _, rfl, rfl, by omega, by omega, by simp, hb1⟩
    case round =>
      obtain ⟨k, m, hk, rfl, rfl, hm0, hm1, hr, hbel⟩ := hrel
      have HR := hide hr
      clear hr
      by_cases hlt : k < ts.length
      · obtain ⟨b, off, rfl, hcell, hcell1, hcell2⟩ := hc.below hbel k hlt
        have HD := hide (drop_getD3 ts k hlt)
        obtain ⟨m1, m2, m3, m4, m5⟩ := HB.out _ (getD_mem3 hlt)
        generalize ts.getD k default = x at *
        obtain ⟨x, y, z⟩ := x
        simp only at hcell hcell1 hcell2 m1 m2 m3 m4 m5
        have bl := World.block_lt_of_cell? wr _ hcell
        simp at bl
        by_cases hxo : x = o
        · subst hxo
          go_wp2
          go_roundw
          case rel => exact ⟨k + 1, m + (z - y), by omega, by go_num, rfl, by omega, by omega, by rw [HR.out, HD.out]; simp [hoursL]; omega, (by repeat first | exact Below.refl _ _ | assumption | (refine belA ?_) | (refine belD ?_) | (refine belN ?_) | (refine belS ?_ (by simp <;> omega)) | (refine belT ?_ (by assumption)))⟩
          case measure => simp [intOf]; omega
        · have hx1 : (x == o) = false := by simpa using hxo
          go_wp2
          go_roundw
          case rel => exact ⟨k + 1, m, by omega, by go_num, rfl, by omega, by omega, by rw [HR.out, HD.out]; simp [hoursL, hxo], (by repeat first | exact Below.refl _ _ | assumption | (refine belA ?_) | (refine belD ?_) | (refine belN ?_) | (refine belS ?_ (by simp <;> omega)) | (refine belT ?_ (by assumption)))⟩
          case measure => simp [intOf]; omega
      · go_wp2
        go_ret
        exact ⟨ret_int (by rw [HM.out, HR.out, List.drop_of_length_le (by omega)]; simp [hoursL]), hbel⟩
  · have hk' : tsOk ts = false := by simpa using hk
    have HM := hide (show hoursM ts o = -1 by simp [hoursM, hk'])
    go_enter Try.func18, Try.ntmps18
    go_wp2_with fail
    refine (implTurnsOk_any a cap ts w hc hn).mono ?_
    rintro e w1 ⟨rfl, hb1⟩
    go_wp2
    go_ret
    exact ⟨ret_int HM.out.symm, hb1⟩

theorem specHoursOf_any (a : Option Addr) (cap : Nat) (ts : List T3) (o : Int) (w : World) (hc : Rd3 w a ts) (hn : ts.length ≤ 1048576) :
    Calls Try.prog 17 #[.slice a ts.length cap, .int .i64 o] w fun e w' => Rets w (.int .i64 (hoursM ts o)) e w' := by
  by_cases hk : tsOk ts = true
  · obtain ⟨h30, hmem⟩ := tsOk_mem hk
    have HM := hide (show hoursM ts o = hoursL o ts by simp [hoursM, hk])
    have HB := hide hmem
    clear hmem
    go_enter Try.func17, Try.ntmps17
    go_wp2_with fail
    refine (specTurnsOk_any a cap ts w hc hn).mono ?_
    rintro e w1 ⟨rfl, hb1⟩
    have hc1 := hc.below hb1
    go_wp2
    clear hk
    go_loopw [5, 6] (fun n i wr => ∃ (k : Nat) (m : Int), k ≤ ts.length ∧ i = .int .i64 k ∧ n = .int .i64 m ∧ 0 ≤ m ∧ m ≤ k * 168 ∧ hoursL o ts = m + hoursL o (ts.drop k) ∧ Below w.heap.size w wr) (fun _ i _ => ts.length - (intOf i).toNat)
    case atStart => exact ⟨0, 0, Nat.zero_le _, rfl, rfl, by omega, by omega, by simp, hb1⟩
    case round =>
      obtain ⟨k, m, hk, rfl, rfl, hm0, hm1, hr, hbel⟩ := hrel
      have HR := hide hr
      clear hr
      by_cases hlt : k < ts.length
      · obtain ⟨b, off, rfl, hcell, hcell1, hcell2⟩ := hc.below hbel k hlt
        have HD := hide (drop_getD3 ts k hlt)
        obtain ⟨m1, m2, m3, m4, m5⟩ := HB.out _ (getD_mem3 hlt)
        generalize ts.getD k default = x at *
        obtain ⟨x, y, z⟩ := x
        simp only at hcell hcell1 hcell2 m1 m2 m3 m4 m5
        have bl := World.block_lt_of_cell? wr _ hcell
        simp at bl
        have i1 : (0 : Int) ≤ (k : Int) := by omega
        have i2 : (k : Int) < (ts.length : Int) := by omega
        by_cases hxo : x = o
        · subst hxo
          have s1 : IntKind.i64.wrap (m + z) = m + z := IntWalk.i64_in _ (by omega)
          have s2 : IntKind.i64.wrap (m + z - y) = m + z - y := IntWalk.i64_in _ (by omega)
          go_wp2
          go_quiet (fail)
          clear s1 s2
          go_wp2
          go_roundw
          case rel => exact ⟨k + 1, m + z - y, by omega, by go_num, rfl, by omega, by omega, by rw [HR.out, HD.out]; simp [hoursL]; omega, (by repeat first | exact Below.refl _ _ | assumption | (refine belA ?_) | (refine belD ?_) | (refine belN ?_) | (refine belS ?_ (by simp <;> omega)) | (refine belT ?_ (by assumption)))⟩
          case measure => simp [intOf]; omega
        · have hx1 : (x == o) = false := by simpa using hxo
          go_wp2
          go_roundw
          case rel => exact ⟨k + 1, m, by omega, by go_num, rfl, by omega, by omega, by rw [HR.out, HD.out]; simp [hoursL, hxo], (by repeat first | exact Below.refl _ _ | assumption | (refine belA ?_) | (refine belD ?_) | (refine belN ?_) | (refine belS ?_ (by simp <;> omega)) | (refine belT ?_ (by assumption)))⟩
          case measure => simp [intOf]; omega
      · go_wp2
        go_ret
        exact ⟨ret_int (by rw [HM.out, HR.out, List.drop_of_length_le (by omega)]; simp [hoursL]), hbel⟩
  · have hk' : tsOk ts = false := by simpa using hk
    have HM := hide (show hoursM ts o = -1 by simp [hoursM, hk'])
    go_enter Try.func17, Try.ntmps17
    go_wp2_with fail
    refine (specTurnsOk_any a cap ts w hc hn).mono ?_
    rintro e w1 ⟨rfl, hb1⟩
    go_wp2
    go_ret
    exact ⟨ret_int HM.out.symm, hb1⟩

theorem implFreeHours_any (a : Option Addr) (cap : Nat) (ts : List T3) (w : World) (hc : Rd3 w a ts) (hn : ts.length ≤ 1048576) :
    Calls Try.prog 16 #[.slice a ts.length cap] w fun e w' => Rets w (.int .i64 (freeM ts)) e w' := by
  by_cases hk : tsOk ts = true
  · obtain ⟨h30, hmem⟩ := tsOk_mem hk
    have HM := hide (show freeM ts = 168 - takenL ts by simp [freeM, hk])
    have HB := hide hmem
    clear hmem
    go_enter Try.func16, Try.ntmps16
    go_wp2_with fail
    refine (implTurnsOk_any a cap ts w hc hn).mono ?_
    rintro e w1 ⟨rfl, hb1⟩
    have hc1 := hc.below hb1
    go_wp2
    clear hk
    go_loopw [3, 11] (fun n i wr => ∃ (k : Nat) (m : Int), k ≤ ts.length ∧ i = .int .i64 k ∧ n = .int .i64 (168 - m) ∧ 0 ≤ m ∧ m ≤ k * 168 ∧ takenL ts = m + takenL (ts.drop k) ∧ Below w.heap.size w wr) (fun _ i _ => ts.length - (intOf i).toNat)
    case atStart => exact ⟨0, 0, Nat.zero_le _, rfl, rfl, by omega, by omega, by simp, hb1⟩
    case round =>
      obtain ⟨k, m, hk, rfl, rfl, hm0, hm1, hr, hbel⟩ := hrel
      have HR := hide hr
      clear hr
      by_cases hlt : k < ts.length
      · obtain ⟨b, off, rfl, hcell, hcell1, hcell2⟩ := hc.below hbel k hlt
        have HD := hide (drop_getD3 ts k hlt)
        obtain ⟨m1, m2, m3, m4, m5⟩ := HB.out _ (getD_mem3 hlt)
        generalize ts.getD k default = x at *
        obtain ⟨x, y, z⟩ := x
        simp only at hcell hcell1 hcell2 m1 m2 m3 m4 m5
        have bl := World.block_lt_of_cell? wr _ hcell
        simp at bl
        go_wp2
        go_roundw
        case rel => exact ⟨k + 1, m + (z - y), by omega, by go_num, by congr 1; omega, by omega, by omega, by rw [HR.out, HD.out]; simp [takenL]; omega, (by repeat first | exact Below.refl _ _ | assumption | (refine belA ?_) | (refine belD ?_) | (refine belN ?_) | (refine belS ?_ (by simp <;> omega)) | (refine belT ?_ (by assumption)))⟩
        case measure => simp [intOf]; omega
      · go_wp2
        go_ret
        exact ⟨ret_int (by rw [HM.out, HR.out, List.drop_of_length_le (by omega)]; simp [takenL]), hbel⟩
  · have hk' : tsOk ts = false := by simpa using hk
    have HM := hide (show freeM ts = -1 by simp [freeM, hk'])
    go_enter Try.func16, Try.ntmps16
    go_wp2_with fail
    refine (implTurnsOk_any a cap ts w hc hn).mono ?_
    rintro e w1 ⟨rfl, hb1⟩
    go_wp2
    go_ret
    exact ⟨ret_int HM.out.symm, hb1⟩

theorem specFreeHours_any (a : Option Addr) (cap : Nat) (ts : List T3) (w : World) (hc : Rd3 w a ts) (hn : ts.length ≤ 1048576) :
    Calls Try.prog 15 #[.slice a ts.length cap] w fun e w' => Rets w (.int .i64 (freeM ts)) e w' := by
  by_cases hk : tsOk ts = true
  · obtain ⟨h30, hmem⟩ := tsOk_mem hk
    have HM := hide (show freeM ts = 168 - takenL ts by simp [freeM, hk])
    have HB := hide hmem
    clear hmem
    go_enter Try.func15, Try.ntmps15
    go_wp2_with fail
    refine (specTurnsOk_any a cap ts w hc hn).mono ?_
    rintro e w1 ⟨rfl, hb1⟩
    have hc1 := hc.below hb1
    go_wp2
    clear hk
    go_loopw [3, 4] (fun n i wr => ∃ (k : Nat) (m : Int), k ≤ ts.length ∧ i = .int .i64 k ∧ n = .int .i64 (168 - m) ∧ 0 ≤ m ∧ m ≤ k * 168 ∧ takenL ts = m + takenL (ts.drop k) ∧ Below w.heap.size w wr) (fun _ i _ => ts.length - (intOf i).toNat)
    case atStart => exact ⟨0, 0, Nat.zero_le _, rfl, rfl, by omega, by omega, by simp, hb1⟩
    case round =>
      obtain ⟨k, m, hk, rfl, rfl, hm0, hm1, hr, hbel⟩ := hrel
      have HR := hide hr
      clear hr
      by_cases hlt : k < ts.length
      · obtain ⟨b, off, rfl, hcell, hcell1, hcell2⟩ := hc.below hbel k hlt
        have HD := hide (drop_getD3 ts k hlt)
        obtain ⟨m1, m2, m3, m4, m5⟩ := HB.out _ (getD_mem3 hlt)
        generalize ts.getD k default = x at *
        obtain ⟨x, y, z⟩ := x
        simp only at hcell hcell1 hcell2 m1 m2 m3 m4 m5
        have bl := World.block_lt_of_cell? wr _ hcell
        simp at bl
        have i1 : (0 : Int) ≤ (k : Int) := by omega
        have i2 : (k : Int) < (ts.length : Int) := by omega
        have s1 : IntKind.i64.wrap (168 - m - z) = 168 - m - z := IntWalk.i64_in _ (by omega)
        have s2 : IntKind.i64.wrap (168 - m - z + y) = 168 - m - z + y := IntWalk.i64_in _ (by omega)
        go_wp2
        go_quiet (fail)
        clear s1 s2
        go_wp2
        go_roundw
        case rel => exact ⟨k + 1, m + (z - y), by omega, by go_num, by congr 1; omega, by omega, by omega, by rw [HR.out, HD.out]; simp [takenL]; omega, (by repeat first | exact Below.refl _ _ | assumption | (refine belA ?_) | (refine belD ?_) | (refine belN ?_) | (refine belS ?_ (by simp <;> omega)) | (refine belT ?_ (by assumption)))⟩
        case measure => simp [intOf]; omega
      · go_wp2
        go_ret
        exact ⟨ret_int (by rw [HM.out, HR.out, List.drop_of_length_le (by omega)]; simp [takenL]), hbel⟩
  · have hk' : tsOk ts = false := by simpa using hk
    have HM := hide (show freeM ts = -1 by simp [freeM, hk'])
    go_enter Try.func15, Try.ntmps15
    go_wp2_with fail
    refine (specTurnsOk_any a cap ts w hc hn).mono ?_
    rintro e w1 ⟨rfl, hb1⟩
    go_wp2
    go_ret
    exact ⟨ret_int HM.out.symm, hb1⟩

end Go.Proofs.Ytnemccmjaanmnaa
