/- Cuts: their width. -/
import Derived.Test.YteimcbhnjhkkbaaNet2
namespace Go.Proofs.Yteimcbhnjhkkbaa
set_option linter.unusedSimpArgs false
set_option linter.unusedVariables false
open Go.RowKit

theorem bits1 (x : Int) : bits .and .i64 x 1 = x % 2 := by
  unfold bits
  have e : (BitVec.ofInt IntKind.i64.bits x &&& BitVec.ofInt IntKind.i64.bits 1).toNat = (x % 2).toNat := by
    show (BitVec.ofInt 64 x &&& BitVec.ofInt 64 1).toNat = (x % 2).toNat
    rw [BitVec.toNat_and]
    have h2 : (BitVec.ofInt 64 1).toNat = 2 ^ 1 - 1 := by decide
    rw [h2, Nat.and_two_pow_sub_one_eq_mod, BitVec.toNat_ofInt]
    omega
  simp only [e]
  rw [IntWalk.i64_in _ (by omega)]
  omega

/-- Number x is a member of the set s. -/
def memB (s x : Int) : Bool := bits .and .i64 (s / 2 ^ x.toNat) 1 == 1
theorem memB_1 {s x : Int} {b : Bool} (h : memB s x = b) : (bits .and .i64 (s / 2 ^ x.toNat) 1 == 1) = b := h
theorem memB_0 {s x : Int} {b : Bool} (h : memB s x = b) : (bits .and .i64 (s / 2 ^ x.toNat) 1 == 0) = !b := by
  subst h
  simp only [memB, bits1]
  have : (s / 2 ^ x.toNat) % 2 = 0 ∨ (s / 2 ^ x.toNat) % 2 = 1 := by omega
  rcases this with h | h <;> rw [h] <;> rfl

def cutL (s : Int) : List T3 → Int
  | [] => 0
  | t :: r => (if memB s t.1 && !memB s t.2.1 then t.2.2 else 0) + cutL s r
def cutM (p : Int) (ts : List T3) (s : Int) : Int := if netOk p ts && inB s 0 (2 ^ p.toNat - 1) then cutL s ts else -1

theorem pow_bd {p : Int} (h1 : 0 ≤ p) (h2 : p ≤ 8) : 1 ≤ (2 : Int) ^ p.toNat ∧ (2 : Int) ^ p.toNat ≤ 256 := by
  have : p = 0 ∨ p = 1 ∨ p = 2 ∨ p = 3 ∨ p = 4 ∨ p = 5 ∨ p = 6 ∨ p = 7 ∨ p = 8 := by omega
  rcases this with rfl | rfl | rfl | rfl | rfl | rfl | rfl | rfl | rfl <;> decide

set_option maxHeartbeats 1000000 in
theorem implCutWidth_any (p s : Int) (a : Option Addr) (cap : Nat) (ts : List T3) (w : World) (hc : Rd3 w a ts) (hn : ts.length ≤ 1048576) :
    Calls Try.prog 14 #[.agg #[.int .i64 p, .slice a ts.length cap], .int .i64 s] w fun e w' => Rets w (.int .i64 (cutM p ts s)) e w' := by
  have HC := hide (fun W (hb : Below w.heap.size w W) => implNetOk_any p a cap ts W (hc.below hb) hn)
  cases hk : netOk p ts with
  | false =>
    have HM := hide (show cutM p ts s = -1 by simp [cutM, hk])
    rw [hk] at HC
    clear hk
    go_enter Try.func14, Try.ntmps14
    go_wp2_with fail
    (with_reducible refine (HC.out _ (belA (Below.refl _ _))).mono ?_)
    rintro e w2 ⟨rfl, hb⟩
    have b0 := belT (belA (Below.refl w.heap.size w)) hb
    go_wp2
    go_ret
    exact ⟨ret_int HM.out.symm, b0⟩
  | true =>
    obtain ⟨p1, p2, hl, hall⟩ := netOk_parts hk
    obtain ⟨q1, q2⟩ := pow_bd (show 0 ≤ p by omega) p2
    rw [hk] at HC
    by_cases hs : inB s 0 (2 ^ p.toNat - 1) = true
    · have HM := hide (show cutM p ts s = cutL s ts by simp [cutM, hk, hs])
      obtain ⟨s1, s2⟩ := inB_iff.1 hs
      have HA := hide hall
      clear hk hall
      go_enter Try.func14, Try.ntmps14
      go_wp2_with fail
      (with_reducible refine (HC.out _ (belA (Below.refl _ _))).mono ?_)
      rintro e w2 ⟨rfl, hb⟩
      have b0 := belT (belA (Below.refl w.heap.size w)) hb
      have hbk := heap_grow (blk_new w #[.int .i64 p, .slice a ts.length cap] 26) hb
      have c0 := cell_of_block hbk 0
      have c1 := cell_of_block hbk 1
      simp at c0 c1
      go_wp2_with (first | (go_at_call 43; refine (within_any _ _ _ _).mono ?_; rintro e w2 ⟨rfl, rfl⟩))
      clear hs
      go_loopw [5, 23] (fun m i wr => ∃ (k : Nat) (n : Int), k ≤ ts.length ∧ i = .int .i64 k ∧ m = .int .i64 n ∧ 0 ≤ n ∧ n ≤ k * 1000 ∧ cutL s ts = n + cutL s (ts.drop k) ∧ Below w.heap.size w wr) (fun _ i _ => ts.length - (intOf i).toNat)
      case atStart => exact ⟨0, 0, Nat.zero_le _, rfl, rfl, by omega, by omega, by simp, b0⟩
      case round =>
        obtain ⟨k, n, hk, rfl, rfl, n0, n1, hr, hbel⟩ := hrel
        have HR := hide hr
        clear hr
        by_cases hlt : k < ts.length
        · obtain ⟨b, off, rfl, hcell, hcell1, hcell2⟩ := hc.below hbel k hlt
          have HD := hide (drop_getD3 ts k hlt)
          obtain ⟨m1, m2, m3, m4, m5, m6, m7⟩ := pipeOk_iff.1 (HA.out _ (getD_mem3 hlt))
          generalize ts.getD k default = t at *
          obtain ⟨x, y, z⟩ := t
          simp only at hcell hcell1 hcell2 m1 m2 m3 m4 m5 m6 m7
          have bl := World.block_lt_of_cell? wr _ hcell
          simp at bl
          have x7 : x ≤ 7 := by omega
          have y7 : y ≤ 7 := by omega
          cases hx : memB s x with
          | false =>
            have hx1 := memB_1 hx
            have HS := hide (show cutL s ((x, y, z) :: ts.drop (k + 1)) = cutL s (ts.drop (k + 1)) by simp [cutL, hx])
            clear hx
            go_wp2
            go_roundw
            case rel => exact ⟨k + 1, n, by omega, by go_num, rfl, by omega, by omega, by rw [HR.out, HD.out, HS.out], (by repeat first | exact Below.refl _ _ | assumption | (refine belA ?_) | (refine belD ?_) | (refine belN ?_) | (refine belS ?_ (by simp <;> omega)) | (refine belT ?_ (by assumption)))⟩
            case measure => simp [intOf]; omega
          | true =>
            have hx1 := memB_1 hx
            cases hy : memB s y with
            | true =>
              have hy1 := memB_0 hy
              have HS := hide (show cutL s ((x, y, z) :: ts.drop (k + 1)) = cutL s (ts.drop (k + 1)) by simp [cutL, hy])
              clear hx hy
              go_wp2
              go_roundw
              case rel => exact ⟨k + 1, n, by omega, by go_num, rfl, by omega, by omega, by rw [HR.out, HD.out, HS.out], (by repeat first | exact Below.refl _ _ | assumption | (refine belA ?_) | (refine belD ?_) | (refine belN ?_) | (refine belS ?_ (by simp <;> omega)) | (refine belT ?_ (by assumption)))⟩
              case measure => simp [intOf]; omega
            | false =>
              have hy1 := memB_0 hy
              have HS := hide (show cutL s ((x, y, z) :: ts.drop (k + 1)) = z + cutL s (ts.drop (k + 1)) by simp [cutL, hx, hy])
              clear hx hy
              go_wp2
              go_roundw
              case rel => exact ⟨k + 1, n + z, by omega, by go_num, rfl, by omega, by omega, by rw [HR.out, HD.out, HS.out]; omega, (by repeat first | exact Below.refl _ _ | assumption | (refine belA ?_) | (refine belD ?_) | (refine belN ?_) | (refine belS ?_ (by simp <;> omega)) | (refine belT ?_ (by assumption)))⟩
              case measure => simp [intOf]; omega
        · go_wp2
          go_ret
          exact ⟨ret_int (by rw [HM.out, HR.out, List.drop_of_length_le (by omega)]; simp [cutL]), hbel⟩
    · have hs' : inB s 0 (2 ^ p.toNat - 1) = false := by simpa using hs
      have HM := hide (show cutM p ts s = -1 by simp [cutM, hs'])
      clear hk hs hall
      go_enter Try.func14, Try.ntmps14
      go_wp2_with fail
      (with_reducible refine (HC.out _ (belA (Below.refl _ _))).mono ?_)
      rintro e w2 ⟨rfl, hb⟩
      have b0 := belT (belA (Below.refl w.heap.size w)) hb
      have hbk := heap_grow (blk_new w #[.int .i64 p, .slice a ts.length cap] 26) hb
      have c0 := cell_of_block hbk 0
      have c1 := cell_of_block hbk 1
      simp at c0 c1
      go_wp2_with (first | (go_at_call 43; refine (within_any _ _ _ _).mono ?_; rintro e w2 ⟨rfl, rfl⟩))
      go_ret
      exact ⟨ret_int HM.out.symm, b0⟩

end Go.Proofs.Yteimcbhnjhkkbaa
