/- What water reaches along pipes of a width. -/
import Derived.Test.YtamadhdnblmfhaaCut2
namespace Go.Proofs.Ytamadhdnblmfhaa
set_option linter.unusedSimpArgs false
set_option linter.unusedVariables false
open Go.RowKit

/-- One round over the pipes of width d at least. -/
def rcL (d : Int) (s : Int) : List T3 → Int
  | [] => s
  | t :: r => rcL d (if d ≤ t.2.2 ∧ memB s t.1 = true then bits .or .i64 s (2 ^ t.2.1.toNat) else s) r
def rcN (d : Int) (ts : List T3) : Nat → Int → Int
  | 0, s => s
  | n + 1, s => rcN d ts n (rcL d s ts)
def reachM (p : Int) (ts : List T3) (f d : Int) : Int := rcN d ts p.toNat (2 ^ f.toNat)

set_option maxRecDepth 100000 in
set_option maxHeartbeats 2000000 in
theorem reach_any (p f d : Int) (a : Option Addr) (cap : Nat) (ts : List T3) (w : World) (hc : Rd3 w a ts) (hk : netOk p ts = true) (f0 : 0 ≤ f) (f7 : f ≤ 7) :
    Calls Try.prog 68 #[.agg #[.int .i64 p, .slice a ts.length cap], .int .i64 f, .int .i64 d] w fun e w' => Rets w (.int .i64 (reachM p ts f d)) e w' := by
  obtain ⟨p1, p2, hl, hall⟩ := netOk_parts hk
  have HA := hide hall
  clear hall hk
  have hq := pow_bd f0 (show f ≤ 8 by omega)
  obtain ⟨q1, q2⟩ := hq
  have HM := hide (show reachM p ts f d = rcN d ts p.toNat (2 ^ f.toNat) from rfl)
  go_enter Try.func68, Try.ntmps68
  go_wp2
  generalize (2 : Int) ^ f.toNat = s0 at *
  have hbk := hide (blk_new w #[.int .i64 p, .slice a ts.length cap] 26)
  go_loopw [7, 8] (fun q i wr => ∃ (k : Nat) (s : Int), (k : Int) ≤ p ∧ i = .int .i64 k ∧ q = .int .i64 s ∧ wr.heap[w.heap.size]? = some (.cells #[.int .i64 p, .slice a ts.length cap] 26 (0, 0)) ∧ rcN d ts p.toNat s0 = rcN d ts (p.toNat - k) s ∧ Below w.heap.size w wr) (fun _ i _ => 8 - (intOf i).toNat)
  case atStart => exact ⟨0, s0, by simp; omega, rfl, rfl, hbk.out, rfl, (by repeat first | exact Below.refl _ _ | assumption | (refine belA ?_) | (refine belD ?_) | (refine belN ?_) | (refine belS ?_ (by simp <;> omega)) | (refine belT ?_ (by assumption)))⟩
  case round =>
    obtain ⟨k, s, hk, rfl, rfl, hbk', hr, hbel⟩ := hrel
    have HR := hide hr
    clear hr hbk
    have c0 := cell_of_block hbk' 0
    have c1 := cell_of_block hbk' 1
    simp at c0 c1
    by_cases hlt : (k : Int) < p
    · have HS := hide (show rcN d ts (p.toNat - k) s = rcN d ts (p.toNat - (k + 1)) (rcL d s ts) by
        rw [show p.toNat - k = (p.toNat - (k + 1)) + 1 by omega]; rfl)
      go_wp2
      go_loopw [7, 22] (fun q i wq => ∃ (m : Nat) (t : Int), m ≤ ts.length ∧ i = .int .i64 m ∧ q = .int .i64 t ∧ wq.heap[w.heap.size]? = some (.cells #[.int .i64 p, .slice a ts.length cap] 26 (0, 0)) ∧ rcL d s ts = rcL d t (ts.drop m) ∧ Below w.heap.size w wq) (fun _ i _ => ts.length - (intOf i).toNat)
      case atStart => exact ⟨0, s, Nat.zero_le _, rfl, rfl, hbk', rfl, hbel⟩
      case round =>
        obtain ⟨m, t, hm, rfl, rfl, hbq, hr2, hbelq⟩ := hrel
        have HR2 := hide hr2
        clear hr2
        have e0 := cell_of_block hbq 0
        have e1 := cell_of_block hbq 1
        simp at e0 e1
        have hblq := (Array.getElem?_eq_some_iff.1 hbq).1
        clear c0 c1
        by_cases hml : m < ts.length
        · obtain ⟨b, off, rfl, hcell, hcell1, hcell2⟩ := hc.below hbelq m hml
          have HD := hide (drop_getD3 ts m hml)
          obtain ⟨m1, m2, m3, m4, m5, m6, m7⟩ := pipeOk_iff.1 (HA.out _ (getD_mem3 hml))
          generalize ts.getD m default = u at *
          obtain ⟨x, y, z⟩ := u
          simp only at hcell hcell1 hcell2 m1 m2 m3 m4 m5 m6 m7
          have bl := World.block_lt_of_cell? _ _ hcell
          simp at bl
          have x7 : x ≤ 7 := by omega
          have y7 : y ≤ 7 := by omega
          obtain ⟨r1, r2⟩ := pow_bd m3 (show y ≤ 8 by omega)
          have hbq1 := blk_alloc (o := .cells #[.int .i64 x, .int .i64 y, .int .i64 z] 37) hbq
          by_cases hz : d ≤ z
          case neg =>
            have HS2 := hide (show rcL d t ((x, y, z) :: ts.drop (m + 1)) = rcL d t (ts.drop (m + 1)) by simp [rcL, hz])
            go_wp2
            go_roundw
            case rel => exact ⟨m + 1, t, by omega, by go_num, rfl, hbq1, by rw [HR2.out, HD.out, HS2.out], (by repeat first | exact Below.refl _ _ | assumption | (refine belA ?_) | (refine belD ?_) | (refine belN ?_) | (refine belS ?_ (by simp <;> omega)) | (refine belT ?_ (by assumption)))⟩
            case measure => simp [intOf]; omega
          cases hx : memB t x with
          | false =>
            have hx1 := memB_1 hx
            have HS2 := hide (show rcL d t ((x, y, z) :: ts.drop (m + 1)) = rcL d t (ts.drop (m + 1)) by simp [rcL, hx])
            clear hx
            go_wp2
            go_roundw
            case rel => exact ⟨m + 1, t, by omega, by go_num, rfl, hbq1, by rw [HR2.out, HD.out, HS2.out], (by repeat first | exact Below.refl _ _ | assumption | (refine belA ?_) | (refine belD ?_) | (refine belN ?_) | (refine belS ?_ (by simp <;> omega)) | (refine belT ?_ (by assumption)))⟩
            case measure => simp [intOf]; omega
          | true =>
            have hx1 := memB_1 hx
            have HS2 := hide (show rcL d t ((x, y, z) :: ts.drop (m + 1)) = rcL d (bits .or .i64 t (2 ^ y.toNat)) (ts.drop (m + 1)) by simp [rcL, hx, hz])
            clear hx
            go_wp2
            go_roundw
            case rel => exact ⟨m + 1, bits .or .i64 t (2 ^ y.toNat), by omega, by go_num, rfl, hbq1, by rw [HR2.out, HD.out, HS2.out], (by repeat first | exact Below.refl _ _ | assumption | (refine belA ?_) | (refine belD ?_) | (refine belN ?_) | (refine belS ?_ (by simp <;> omega)) | (refine belT ?_ (by assumption)))⟩
            case measure => simp [intOf]; omega
        · go_wp2
          go_roundw
          case rel => exact ⟨k + 1, t, by omega, by go_num, rfl, hbq, by rw [HR.out, HS.out, HR2.out, List.drop_of_length_le (by omega)]; rfl, hbelq⟩
          case measure => simp [intOf]; omega
    · go_wp2
      go_ret
      exact ⟨ret_int (by rw [HM.out, HR.out, show p.toNat - k = 0 by omega]; rfl), hbel⟩

set_option maxRecDepth 100000 in
set_option maxHeartbeats 2000000 in
theorem l08Reach_any (p f d : Int) (a : Option Addr) (cap : Nat) (ts : List T3) (w : World) (hc : Rd3 w a ts) (hk : netOk p ts = true) (f0 : 0 ≤ f) (f7 : f ≤ 7) :
    Calls Try.prog 61 #[.agg #[.int .i64 p, .slice a ts.length cap], .int .i64 f, .int .i64 d] w fun e w' => Rets w (.int .i64 (reachM p ts f d)) e w' := by
  obtain ⟨p1, p2, hl, hall⟩ := netOk_parts hk
  have HA := hide hall
  clear hall hk
  have hq := pow_bd f0 (show f ≤ 8 by omega)
  obtain ⟨q1, q2⟩ := hq
  have HM := hide (show reachM p ts f d = rcN d ts p.toNat (2 ^ f.toNat) from rfl)
  go_enter Try.func61, Try.ntmps61
  go_wp2
  generalize (2 : Int) ^ f.toNat = s0 at *
  have hbk := hide (blk_new w #[.int .i64 p, .slice a ts.length cap] 26)
  go_loopw [7, 8] (fun q i wr => ∃ (k : Nat) (s : Int), (k : Int) ≤ p ∧ i = .int .i64 k ∧ q = .int .i64 s ∧ wr.heap[w.heap.size]? = some (.cells #[.int .i64 p, .slice a ts.length cap] 26 (0, 0)) ∧ rcN d ts p.toNat s0 = rcN d ts (p.toNat - k) s ∧ Below w.heap.size w wr) (fun _ i _ => 8 - (intOf i).toNat)
  case atStart => exact ⟨0, s0, by simp; omega, rfl, rfl, hbk.out, rfl, (by repeat first | exact Below.refl _ _ | assumption | (refine belA ?_) | (refine belD ?_) | (refine belN ?_) | (refine belS ?_ (by simp <;> omega)) | (refine belT ?_ (by assumption)))⟩
  case round =>
    obtain ⟨k, s, hk, rfl, rfl, hbk', hr, hbel⟩ := hrel
    have HR := hide hr
    clear hr hbk
    have c0 := cell_of_block hbk' 0
    have c1 := cell_of_block hbk' 1
    simp at c0 c1
    by_cases hlt : (k : Int) < p
    · have HS := hide (show rcN d ts (p.toNat - k) s = rcN d ts (p.toNat - (k + 1)) (rcL d s ts) by
        rw [show p.toNat - k = (p.toNat - (k + 1)) + 1 by omega]; rfl)
      go_wp2
      go_loopw [7, 9] (fun q i wq => ∃ (m : Nat) (t : Int), m ≤ ts.length ∧ i = .int .i64 m ∧ q = .int .i64 t ∧ wq.heap[w.heap.size]? = some (.cells #[.int .i64 p, .slice a ts.length cap] 26 (0, 0)) ∧ rcL d s ts = rcL d t (ts.drop m) ∧ Below w.heap.size w wq) (fun _ i _ => ts.length - (intOf i).toNat)
      case atStart => exact ⟨0, s, Nat.zero_le _, rfl, rfl, hbk', rfl, hbel⟩
      case round =>
        obtain ⟨m, t, hm, rfl, rfl, hbq, hr2, hbelq⟩ := hrel
        have HR2 := hide hr2
        clear hr2
        have e0 := cell_of_block hbq 0
        have e1 := cell_of_block hbq 1
        simp at e0 e1
        have hblq := (Array.getElem?_eq_some_iff.1 hbq).1
        clear c0 c1
        by_cases hml : m < ts.length
        · obtain ⟨b, off, rfl, hcell, hcell1, hcell2⟩ := hc.below hbelq m hml
          have HD := hide (drop_getD3 ts m hml)
          obtain ⟨m1, m2, m3, m4, m5, m6, m7⟩ := pipeOk_iff.1 (HA.out _ (getD_mem3 hml))
          generalize ts.getD m default = u at *
          obtain ⟨x, y, z⟩ := u
          simp only at hcell hcell1 hcell2 m1 m2 m3 m4 m5 m6 m7
          have bl := World.block_lt_of_cell? _ _ hcell
          simp at bl
          have x7 : x ≤ 7 := by omega
          have y7 : y ≤ 7 := by omega
          obtain ⟨r1, r2⟩ := pow_bd m3 (show y ≤ 8 by omega)
          have hbq1 := blk_alloc (o := .cells #[.int .i64 x, .int .i64 y, .int .i64 z] 37) hbq
          by_cases hz : d ≤ z
          case neg =>
            have HS2 := hide (show rcL d t ((x, y, z) :: ts.drop (m + 1)) = rcL d t (ts.drop (m + 1)) by simp [rcL, hz])
            go_wp2
            go_roundw
            case rel => exact ⟨m + 1, t, by omega, by go_num, rfl, hbq1, by rw [HR2.out, HD.out, HS2.out], (by repeat first | exact Below.refl _ _ | assumption | (refine belA ?_) | (refine belD ?_) | (refine belN ?_) | (refine belS ?_ (by simp <;> omega)) | (refine belT ?_ (by assumption)))⟩
            case measure => simp [intOf]; omega
          cases hx : memB t x with
          | false =>
            have hx1 := memB_1 hx
            have HS2 := hide (show rcL d t ((x, y, z) :: ts.drop (m + 1)) = rcL d t (ts.drop (m + 1)) by simp [rcL, hx])
            clear hx
            go_wp2
            go_roundw
            case rel => exact ⟨m + 1, t, by omega, by go_num, rfl, hbq1, by rw [HR2.out, HD.out, HS2.out], (by repeat first | exact Below.refl _ _ | assumption | (refine belA ?_) | (refine belD ?_) | (refine belN ?_) | (refine belS ?_ (by simp <;> omega)) | (refine belT ?_ (by assumption)))⟩
            case measure => simp [intOf]; omega
          | true =>
            have hx1 := memB_1 hx
            have HS2 := hide (show rcL d t ((x, y, z) :: ts.drop (m + 1)) = rcL d (bits .or .i64 t (2 ^ y.toNat)) (ts.drop (m + 1)) by simp [rcL, hx, hz])
            clear hx
            go_wp2
            go_roundw
            case rel => exact ⟨m + 1, bits .or .i64 t (2 ^ y.toNat), by omega, by go_num, rfl, hbq1, by rw [HR2.out, HD.out, HS2.out], (by repeat first | exact Below.refl _ _ | assumption | (refine belA ?_) | (refine belD ?_) | (refine belN ?_) | (refine belS ?_ (by simp <;> omega)) | (refine belT ?_ (by assumption)))⟩
            case measure => simp [intOf]; omega
        · go_wp2
          go_roundw
          case rel => exact ⟨k + 1, t, by omega, by go_num, rfl, hbq, by rw [HR.out, HS.out, HR2.out, List.drop_of_length_le (by omega)]; rfl, hbelq⟩
          case measure => simp [intOf]; omega
    · go_wp2
      go_ret
      exact ⟨ret_int (by rw [HM.out, HR.out, show p.toNat - k = 0 by omega]; rfl), hbel⟩

end Go.Proofs.Ytamadhdnblmfhaa
