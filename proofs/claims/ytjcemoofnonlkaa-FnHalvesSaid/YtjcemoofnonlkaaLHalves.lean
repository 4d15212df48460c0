/- The walk of the law Halves. -/
import Derived.Test.YtjcemoofnonlkaaHlvL
import Derived.Test.YtjcemoofnonlkaaPair3
import Derived.Test.YtjcemoofnonlkaaDryLaws
import Derived.Test.YtjcemoofnonlkaaDryDraw
namespace Go.Proofs.Ytjcemoofnonlkaa
set_option linter.unusedSimpArgs false
set_option linter.unusedVariables false
open Go.RowKit

theorem take_sum (xs : List Int) (k : Nat) (h : k < xs.length) : (xs.take (k + 1)).sum = (xs.take k).sum + xs.getD k 0 := by
  rw [List.take_succ_eq_append_getElem h, List.sum_append]; simp [List.getD_eq_getElem?_getD, h]
theorem take_bd (xs : List Int) (B : Int) (hB : 0 ≤ B) (hb : ∀ x ∈ xs, 0 ≤ x ∧ x ≤ B) (k : Nat) : 0 ≤ (xs.take k).sum ∧ (xs.take k).sum ≤ B * xs.length := by
  have h := sum_le (xs.take k) B hB (fun x hx => hb x (List.mem_of_mem_take hx))
  have h2 : (xs.take k).length ≤ xs.length := by simp; omega
  have h3 : B * ((xs.take k).length : Int) ≤ B * (xs.length : Int) := Int.mul_le_mul_of_nonneg_left (by omega) hB
  omega

theorem cot_in {a b v : Int} (ha : 0 ≤ a ∧ a ≤ 255) (hb : 0 ≤ b ∧ b ≤ 255) (hv : 0 ≤ v ∧ v ≤ 255) : cotX a b v = conX a b v ∧ cotY a b v = conY a b v := by
  have h1 : inB a 0 100000 = true := inB_iff.2 (by omega)
  have h2 : inB b 0 100000 = true := inB_iff.2 (by omega)
  have h3 : inB v 0 1000000 = true := inB_iff.2 (by omega)
  simp [cotX, cotY, h1, h2, h3]

set_option maxRecDepth 100000 in
set_option maxHeartbeats 40000000 in
theorem law_Halves (a : Option Addr) (cap : Nat) (bs : List Int) (w : World) (hr : Rd8 w a bs) (hm : bs.length ≤ 9223372036854775807) :
    Calls Try.prog 14 #[.slice a bs.length cap] w fun e w' => Rets w (.bool true) e w' := by
  by_cases hl : bs.length ≤ 1048576
  case neg =>
    have hd : decide (1048576 < bs.length) = true := by simp; omega
    have HB := hide (show ∀ W, Calls Try.prog 39 #[.slice a bs.length cap] W fun e w' => e = .returned (.bool true) ∧ W = w' from fun W => by rw [← hd]; exact big_any a bs.length cap W hm)
    clear hd
    go_enter Try.func14, Try.ntmps14
    go_wp2_with fail
    refine (HB.out _).mono ?_
    rintro e w' ⟨rfl, rfl⟩
    go_wp2
    go_ret
    exact ⟨rfl, Below.refl _ _⟩
  have hd : decide (1048576 < bs.length) = false := by simp; omega
  have HB := hide (show ∀ W, Calls Try.prog 39 #[.slice a bs.length cap] W fun e w' => e = .returned (.bool false) ∧ W = w' from fun W => by rw [← hd]; exact big_any a bs.length cap W hm)
  clear hd
  go_enter Try.func14, Try.ntmps14
  go_wp2_with fail
  refine (HB.out _).mono ?_
  rintro e w' ⟨rfl, rfl⟩
  go_wp2_with fail
  refine (DrawClaims_any a cap bs w hr hl).mono ?_
  rintro e w1 ⟨g1, c1, xs, x, rfl, hxs, x0, x1, hg1, ho1, hb1⟩
  have hc1 := ho1.rd
  clear ho1
  have hdr := clDr_dry (water := x) hxs x0 (by omega)
  have HL := half_law hdr
  have HP := half_pairs hdr
  have n1 := hxs.1
  have n6 := hxs.2.1
  have hn : xs.length ≤ 1048576 := by omega
  have HBx := hide (show ∀ y ∈ xs, 0 ≤ y ∧ y ≤ 59 from hxs.2.2)
  have HG := hide (show gladM xs x = decide (xs.sum ≤ 2 * x) by simp [gladM, hdr])
  have hH := half_law hdr
  have HI := hide (fun W (hc : Rd W (some ⟨g1, 0, none⟩) xs) => implHalfRule_any (some ⟨g1, 0, none⟩) c1 xs x W hc hn)
  have HLh := hide HL
  have HPh := hide HP
  have hsum := take_bd xs 59 (by omega) HBx.out
  have HS := hide hsum
  have HLn := hide hH.len
  clear HL HP hdr hxs hH hsum
  generalize halfM xs x = M at *
  go_wp2_with fail
  refine (HI.out _ hc1).mono ?_
  rintro e w2 ⟨v2, rfl, hown2, hb2⟩
  rcases hown2.cases with ⟨rfl, h0⟩ | ⟨g2, c2, rfl, hg2, ho2⟩
  · exact absurd HLn.out (by rw [h0]; simp; omega)
  have hc2 := hc1.below hb2
  have hm2 := ho2.rd
  have b2 := belT hb1 hb2
  clear hc1 hb1 hb2 ho2 hown2 HI
  have HC2 := hide hc2
  have HM2 := hide hm2
  clear hc2 hm2
  go_wp2
  go_loop [6, 7] (fun s i => ∃ k : Nat, k ≤ xs.length ∧ i = .int .i64 k ∧ s = .int .i64 (xs.take k).sum) (fun s i => xs.length - (intOf i).toNat)
  case atStart => exact ⟨0, Nat.zero_le _, rfl, rfl⟩
  case round =>
    obtain ⟨k, hk, rfl, rfl⟩ := hrel
    have hs := HS.out k
    by_cases hlt : k < xs.length
    · obtain ⟨b, off, hab, hcell⟩ := HC2.out k hlt
      cases hab
      rw [Nat.zero_add] at hcell
      have HT := hide (take_sum xs k hlt)
      have hy := HBx.out _ (getD_mem' hlt)
      have i1 : (0 : Int) ≤ (k : Int) := by omega
      have i2 : (k : Int) < (xs.length : Int) := by omega
      generalize xs.getD k 0 = y at *
      go_wp2
      go_round
      case rel => exact ⟨k + 1, by omega, by go_num, by rw [HT.out]⟩
      case measure => simp [intOf]; omega
    · have hkk : k = xs.length := by omega
      subst hkk
      rw [List.take_of_length_le (Nat.le_refl _)] at hs ⊢
      have hlen := HLn.out
      have hlb : ((M.length : Int) != (xs.length : Int)) = false := by simp [hlen]
      clear hlen
      have n5 : M.length ≤ 6 := by rw [HLn.out]; exact n6
      have hnM : M.length ≤ 1048576 := by omega
      have HPr := hide (fun W (h1 : Rd W (some ⟨g1, 0, none⟩) xs) (h2 : Rd W (some ⟨g2, 0, none⟩) M) => implIsPairwise_any (some ⟨g1, 0, none⟩) (some ⟨g2, 0, none⟩) c1 c2 xs M W h1 h2 hn hnM)
      have HGc := hide (fun W (h1 : Rd W (some ⟨g1, 0, none⟩) xs) => (show Calls Try.prog 22 #[.slice (some ⟨g1, 0, none⟩) xs.length c1, .int .i64 x] W fun e w' => e = .returned (.bool (decide (xs.sum ≤ 2 * x))) ∧ W = w' by rw [← HG.out]; exact implGladFrom_any (some ⟨g1, 0, none⟩) c1 xs x W h1 hn))
      have HLow := hide (fun h k (hk : k < xs.length) => HLh.out.low h k hk)
      have HHigh := hide (fun h k (hk : k < xs.length) => HLh.out.high h k hk)
      have HIn := hide (fun k (hk : k < xs.length) => HLh.out.inn k hk)
      have HAll := hide HLh.out.all
      have HMb : ∀ y ∈ M, 0 ≤ y ∧ y ≤ 118 := by
        intro y hy
        obtain ⟨j, hj, hyj⟩ := List.mem_iff_getElem.1 hy
        have hjx : j < xs.length := by rw [← HLn.out]; exact hj
        have h1 := HIn.out j hjx
        have h2 := HBx.out _ (getD_mem' hjx)
        have h3 : M.getD j 0 = y := by simp [List.getD_eq_getElem?_getD, hj, hyj]
        omega
      have HSM := hide (take_bd M 118 (by omega) HMb)
      have S0 : 0 ≤ xs.sum ∧ xs.sum ≤ 354 := by omega
      clear hs HMb HS HG HLh
      generalize hS : xs.sum = S at *
      have HSx := hide hS
      clear hS
      have hsplit : (2 * x ≤ S ∧ ¬ S ≤ 2 * x) ∨ (2 * x ≤ S ∧ S ≤ 2 * x) ∨ (¬ 2 * x ≤ S ∧ S ≤ 2 * x) := by omega
      rcases hsplit with ⟨hA, hB⟩ | ⟨hA, hB⟩ | ⟨hA, hB⟩
      · skip
        go_wp2_with fail
        refine (HPr.out _ HC2.out HM2.out).mono ?_
        rintro e w3 ⟨r, rfl, hrp, hb3⟩
        have hrt := hrp.2 HPh.out
        subst hrt
        have hc3 := HC2.out.below hb3
        have hm3 := HM2.out.below hb3
        have b3 := belT b2 hb3
        clear hrp HC2 HM2 hb3 b2
        have HC3 := hide hc3
        have HM3 := hide hm3
        go_wp2_with fail
        refine (HGc.out _ hc3).mono ?_
        rintro e w3' ⟨rfl, rfl⟩
        clear hc3 hm3
        go_wp2
        clear hlb
        go_loopw [8, 9] (fun s i wr => ∃ k : Nat, k ≤ M.length ∧ i = .int .i64 k ∧ s = .int .i64 (M.take k).sum ∧ Below w3.heap.size w3 wr) (fun s i _ => M.length - (intOf i).toNat)
        case atStart => exact ⟨0, Nat.zero_le _, rfl, rfl, Below.refl _ _⟩
        case round =>
          obtain ⟨k, hk, rfl, rfl, hbr⟩ := hrel
          have hs := HSM.out k
          by_cases hlt : k < M.length
          · have hltx : k < xs.length := by rw [← HLn.out]; exact hlt
            obtain ⟨b, off, hab, hcell⟩ := (HC3.out.below hbr) k hltx
            cases hab
            rw [Nat.zero_add] at hcell
            obtain ⟨b, off, hab, hcm⟩ := (HM3.out.below hbr) k hlt
            cases hab
            rw [Nat.zero_add] at hcm
            have HT := hide (take_sum M k hlt)
            have hy := HBx.out _ (getD_mem' hltx)
            have hin := HIn.out k hltx
            have hle := HLow.out hA k hltx
            have i1 : (0 : Int) ≤ (k : Int) := by omega
            have i2 : (k : Int) < (xs.length : Int) := by omega
            have i3 : (k : Int) < (M.length : Int) := by omega
            generalize xs.getD k 0 = y at *
            generalize M.getD k 0 = m at *
            generalize (M.take k).sum = T at *
            have b6 : 0 ≤ T + m ∧ T + m ≤ 1000 := by omega
            go_wp2
            have Wx : IntKind.i64.wrap (2 * x) = 2 * x := IntWalk.i64_in _ (by omega)
            have Wd1 : decide (y < m) = false := by simp; omega
            have WdB : decide (S ≤ 2 * x) = false := by simp; omega
            go_quiet (fail)
            clear Wx Wd1 WdB
            go_wp2
            go_roundw
            case rel => exact ⟨k + 1, by omega, by go_num, by rw [HT.out], below_drewN hbr _⟩
            case measure => simp [intOf]; omega
          · have hkk : k = M.length := by omega
            subst hkk
            rw [List.take_of_length_le (Nat.le_refl _)] at hs ⊢
            have b4 := belT b3 hbr
            have HRb := hide (fun W (h : Below w.heap.size w W) => hr.below h)
            clear hbr HC3 HM3 HSM HIn HLow HHigh HBx
            have hallq := HAll.out
            generalize M.sum = ALL at *
            have HAl := hide hallq
            clear hallq
            go_wp2_with fail
            refine (at_any a cap bs 0 wr (HRb.out _ b4) hl (by omega) (by omega)).mono ?_
            rintro e wr' ⟨⟨p, rfl, p0, p1⟩, rfl⟩
            go_wp2_with fail
            refine (at_any a cap bs 1 wr (HRb.out _ b4) hl (by omega) (by omega)).mono ?_
            rintro e wr' ⟨⟨q, rfl, q0, q1⟩, rfl⟩
            go_wp2_with fail
            refine (at_any a cap bs 2 wr (HRb.out _ b4) hl (by omega) (by omega)).mono ?_
            rintro e wr' ⟨⟨v, rfl, v0, v1⟩, rfl⟩
            obtain ⟨X, Y, hXY, e1, e2, e3, e4⟩ := half_two ⟨p0, p1⟩ ⟨q0, q1⟩ ⟨v0, v1⟩
            have C1 := cot_in ⟨p0, p1⟩ ⟨q0, q1⟩ ⟨v0, v1⟩
            have C2 := cot_in ⟨q0, q1⟩ ⟨p0, p1⟩ ⟨v0, v1⟩
            have CA := con_all ⟨p0, p1⟩ ⟨q0, q1⟩ ⟨v0, v1⟩
            have HC1 := hide (fun W => (show Calls Try.prog 16 #[.int .i64 p, .int .i64 q, .int .i64 v] W fun e w' => e = .returned (.tuple #[.int .i64 (conX p q v), .int .i64 (conY p q v)]) ∧ W = w' by
              rw [← C1.1, ← C1.2]; exact implContestOfTwo_any p q v W))
            have HC2 := hide (fun W => (show Calls Try.prog 16 #[.int .i64 q, .int .i64 p, .int .i64 v] W fun e w' => e = .returned (.tuple #[.int .i64 (conY p q v), .int .i64 (conX p q v)]) ∧ W = w' by
              rw [← CA.2.1, ← CA.2.2.1, ← C2.1, ← C2.2]; exact implContestOfTwo_any q p v W))
            have CS := hide CA.1
            have cx0 := CA.2.2.2.1
            have cx1 := CA.2.2.2.2
            have cb := con_bound (a := p) (b := q) (w := v) (by omega) (by omega) (by omega)
            have cy1 : conY p q v ≤ 2000 := by have := CA.1; omega
            have cy0 : -2000 ≤ conY p q v := by have := CA.1; omega
            have HHR := hide (fun W (hc : Rd W (some ⟨wr.heap.size, 0, none⟩) [p, q]) => (show Calls Try.prog 34 #[.slice (some ⟨wr.heap.size, 0, none⟩) 2 2, .int .i64 v] W fun e w' => GivesI [X, Y] W e w' by
              rw [← hXY]; exact implHalfRule_any (some ⟨wr.heap.size, 0, none⟩) 2 [p, q] v W hc (by simp)))
            have hrd := (own_new wr 3 [p, q]).rd
            have b5 := belA (o := .cells #[.int .i64 p, .int .i64 q] 3) b4
            clear C1 C2 CA hXY
            generalize conX p q v = cx at *
            generalize conY p q v = cy at *
            go_wp2_with fail
            refine (HC1.out _).mono ?_
            rintro e wr' ⟨rfl, rfl⟩
            go_wp2_with fail
            refine (HC2.out _).mono ?_
            rintro e wr' ⟨rfl, rfl⟩
            go_wp2_with fail
            refine (HHR.out _ hrd).mono ?_
            rintro e w5 ⟨v5, rfl, hown5, hb5⟩
            have b6 := belT b5 hb5
            rcases hown5.cases with ⟨rfl, h0⟩ | ⟨g5, c5, rfl, hg5, ho5⟩
            · exact absurd h0 (by simp)
            have k0 := ho5.cell 0 (by simp)
            have k1 := ho5.cell 1 (by simp)
            simp at k0 k1
            clear hown5 ho5 hb5 hrd
            have HA2 := hide HAll.out
            go_wp2
            all_goals go_ret
            all_goals exact ⟨ret_bool (by have := HAl.out; have := CS.out; first | (simp; done) | (simp; omega)), b6⟩
      · skip
        go_wp2_with fail
        refine (HPr.out _ HC2.out HM2.out).mono ?_
        rintro e w3 ⟨r, rfl, hrp, hb3⟩
        have hrt := hrp.2 HPh.out
        subst hrt
        have hc3 := HC2.out.below hb3
        have hm3 := HM2.out.below hb3
        have b3 := belT b2 hb3
        clear hrp HC2 HM2 hb3 b2
        have HC3 := hide hc3
        have HM3 := hide hm3
        go_wp2_with fail
        refine (HGc.out _ hc3).mono ?_
        rintro e w3' ⟨rfl, rfl⟩
        clear hc3 hm3
        go_wp2
        clear hlb
        go_loopw [8, 9] (fun s i wr => ∃ k : Nat, k ≤ M.length ∧ i = .int .i64 k ∧ s = .int .i64 (M.take k).sum ∧ Below w3.heap.size w3 wr) (fun s i _ => M.length - (intOf i).toNat)
        case atStart => exact ⟨0, Nat.zero_le _, rfl, rfl, Below.refl _ _⟩
        case round =>
          obtain ⟨k, hk, rfl, rfl, hbr⟩ := hrel
          have hs := HSM.out k
          by_cases hlt : k < M.length
          · have hltx : k < xs.length := by rw [← HLn.out]; exact hlt
            obtain ⟨b, off, hab, hcell⟩ := (HC3.out.below hbr) k hltx
            cases hab
            rw [Nat.zero_add] at hcell
            obtain ⟨b, off, hab, hcm⟩ := (HM3.out.below hbr) k hlt
            cases hab
            rw [Nat.zero_add] at hcm
            have HT := hide (take_sum M k hlt)
            have hy := HBx.out _ (getD_mem' hltx)
            have hin := HIn.out k hltx
            have hle := HLow.out hA k hltx
            have hge := HHigh.out hB k hltx
            have i1 : (0 : Int) ≤ (k : Int) := by omega
            have i2 : (k : Int) < (xs.length : Int) := by omega
            have i3 : (k : Int) < (M.length : Int) := by omega
            generalize xs.getD k 0 = y at *
            generalize M.getD k 0 = m at *
            generalize (M.take k).sum = T at *
            have b6 : 0 ≤ T + m ∧ T + m ≤ 1000 := by omega
            go_wp2
            have Wx : IntKind.i64.wrap (2 * x) = 2 * x := IntWalk.i64_in _ (by omega)
            have Wd1 : decide (y < m) = false := by simp; omega
            have Wd2 : decide (m < y) = false := by simp; omega
            go_quiet (fail)
            clear Wx Wd1 Wd2
            go_wp2
            go_roundw
            case rel => exact ⟨k + 1, by omega, by go_num, by rw [HT.out], below_drewN hbr _⟩
            case measure => simp [intOf]; omega
          · have hkk : k = M.length := by omega
            subst hkk
            rw [List.take_of_length_le (Nat.le_refl _)] at hs ⊢
            have b4 := belT b3 hbr
            have HRb := hide (fun W (h : Below w.heap.size w W) => hr.below h)
            clear hbr HC3 HM3 HSM HIn HLow HHigh HBx
            have hallq := HAll.out
            generalize M.sum = ALL at *
            have HAl := hide hallq
            clear hallq
            go_wp2_with fail
            refine (at_any a cap bs 0 wr (HRb.out _ b4) hl (by omega) (by omega)).mono ?_
            rintro e wr' ⟨⟨p, rfl, p0, p1⟩, rfl⟩
            go_wp2_with fail
            refine (at_any a cap bs 1 wr (HRb.out _ b4) hl (by omega) (by omega)).mono ?_
            rintro e wr' ⟨⟨q, rfl, q0, q1⟩, rfl⟩
            go_wp2_with fail
            refine (at_any a cap bs 2 wr (HRb.out _ b4) hl (by omega) (by omega)).mono ?_
            rintro e wr' ⟨⟨v, rfl, v0, v1⟩, rfl⟩
            obtain ⟨X, Y, hXY, e1, e2, e3, e4⟩ := half_two ⟨p0, p1⟩ ⟨q0, q1⟩ ⟨v0, v1⟩
            have C1 := cot_in ⟨p0, p1⟩ ⟨q0, q1⟩ ⟨v0, v1⟩
            have C2 := cot_in ⟨q0, q1⟩ ⟨p0, p1⟩ ⟨v0, v1⟩
            have CA := con_all ⟨p0, p1⟩ ⟨q0, q1⟩ ⟨v0, v1⟩
            have HC1 := hide (fun W => (show Calls Try.prog 16 #[.int .i64 p, .int .i64 q, .int .i64 v] W fun e w' => e = .returned (.tuple #[.int .i64 (conX p q v), .int .i64 (conY p q v)]) ∧ W = w' by
              rw [← C1.1, ← C1.2]; exact implContestOfTwo_any p q v W))
            have HC2 := hide (fun W => (show Calls Try.prog 16 #[.int .i64 q, .int .i64 p, .int .i64 v] W fun e w' => e = .returned (.tuple #[.int .i64 (conY p q v), .int .i64 (conX p q v)]) ∧ W = w' by
              rw [← CA.2.1, ← CA.2.2.1, ← C2.1, ← C2.2]; exact implContestOfTwo_any q p v W))
            have CS := hide CA.1
            have cx0 := CA.2.2.2.1
            have cx1 := CA.2.2.2.2
            have cb := con_bound (a := p) (b := q) (w := v) (by omega) (by omega) (by omega)
            have cy1 : conY p q v ≤ 2000 := by have := CA.1; omega
            have cy0 : -2000 ≤ conY p q v := by have := CA.1; omega
            have HHR := hide (fun W (hc : Rd W (some ⟨wr.heap.size, 0, none⟩) [p, q]) => (show Calls Try.prog 34 #[.slice (some ⟨wr.heap.size, 0, none⟩) 2 2, .int .i64 v] W fun e w' => GivesI [X, Y] W e w' by
              rw [← hXY]; exact implHalfRule_any (some ⟨wr.heap.size, 0, none⟩) 2 [p, q] v W hc (by simp)))
            have hrd := (own_new wr 3 [p, q]).rd
            have b5 := belA (o := .cells #[.int .i64 p, .int .i64 q] 3) b4
            clear C1 C2 CA hXY
            generalize conX p q v = cx at *
            generalize conY p q v = cy at *
            go_wp2_with fail
            refine (HC1.out _).mono ?_
            rintro e wr' ⟨rfl, rfl⟩
            go_wp2_with fail
            refine (HC2.out _).mono ?_
            rintro e wr' ⟨rfl, rfl⟩
            go_wp2_with fail
            refine (HHR.out _ hrd).mono ?_
            rintro e w5 ⟨v5, rfl, hown5, hb5⟩
            have b6 := belT b5 hb5
            rcases hown5.cases with ⟨rfl, h0⟩ | ⟨g5, c5, rfl, hg5, ho5⟩
            · exact absurd h0 (by simp)
            have k0 := ho5.cell 0 (by simp)
            have k1 := ho5.cell 1 (by simp)
            simp at k0 k1
            clear hown5 ho5 hb5 hrd
            have HA2 := hide HAll.out
            go_wp2
            all_goals go_ret
            all_goals exact ⟨ret_bool (by have := HAl.out; have := CS.out; first | (simp; done) | (simp; omega)), b6⟩
      · skip
        go_wp2_with fail
        refine (HPr.out _ HC2.out HM2.out).mono ?_
        rintro e w3 ⟨r, rfl, hrp, hb3⟩
        have hrt := hrp.2 HPh.out
        subst hrt
        have hc3 := HC2.out.below hb3
        have hm3 := HM2.out.below hb3
        have b3 := belT b2 hb3
        clear hrp HC2 HM2 hb3 b2
        have HC3 := hide hc3
        have HM3 := hide hm3
        go_wp2_with fail
        refine (HGc.out _ hc3).mono ?_
        rintro e w3' ⟨rfl, rfl⟩
        clear hc3 hm3
        go_wp2
        clear hlb
        go_loopw [8, 9] (fun s i wr => ∃ k : Nat, k ≤ M.length ∧ i = .int .i64 k ∧ s = .int .i64 (M.take k).sum ∧ Below w3.heap.size w3 wr) (fun s i _ => M.length - (intOf i).toNat)
        case atStart => exact ⟨0, Nat.zero_le _, rfl, rfl, Below.refl _ _⟩
        case round =>
          obtain ⟨k, hk, rfl, rfl, hbr⟩ := hrel
          have hs := HSM.out k
          by_cases hlt : k < M.length
          · have hltx : k < xs.length := by rw [← HLn.out]; exact hlt
            obtain ⟨b, off, hab, hcell⟩ := (HC3.out.below hbr) k hltx
            cases hab
            rw [Nat.zero_add] at hcell
            obtain ⟨b, off, hab, hcm⟩ := (HM3.out.below hbr) k hlt
            cases hab
            rw [Nat.zero_add] at hcm
            have HT := hide (take_sum M k hlt)
            have hy := HBx.out _ (getD_mem' hltx)
            have hin := HIn.out k hltx
            have hge := HHigh.out hB k hltx
            have i1 : (0 : Int) ≤ (k : Int) := by omega
            have i2 : (k : Int) < (xs.length : Int) := by omega
            have i3 : (k : Int) < (M.length : Int) := by omega
            generalize xs.getD k 0 = y at *
            generalize M.getD k 0 = m at *
            generalize (M.take k).sum = T at *
            have b6 : 0 ≤ T + m ∧ T + m ≤ 1000 := by omega
            go_wp2
            have Wx : IntKind.i64.wrap (2 * x) = 2 * x := IntWalk.i64_in _ (by omega)
            have WdA : decide (2 * x ≤ S) = false := by simp; omega
            have Wd2 : decide (m < y) = false := by simp; omega
            go_quiet (fail)
            clear Wx WdA Wd2
            go_wp2
            go_roundw
            case rel => exact ⟨k + 1, by omega, by go_num, by rw [HT.out], below_drewN hbr _⟩
            case measure => simp [intOf]; omega
          · have hkk : k = M.length := by omega
            subst hkk
            rw [List.take_of_length_le (Nat.le_refl _)] at hs ⊢
            have b4 := belT b3 hbr
            have HRb := hide (fun W (h : Below w.heap.size w W) => hr.below h)
            clear hbr HC3 HM3 HSM HIn HLow HHigh HBx
            have hallq := HAll.out
            generalize M.sum = ALL at *
            have HAl := hide hallq
            clear hallq
            go_wp2_with fail
            refine (at_any a cap bs 0 wr (HRb.out _ b4) hl (by omega) (by omega)).mono ?_
            rintro e wr' ⟨⟨p, rfl, p0, p1⟩, rfl⟩
            go_wp2_with fail
            refine (at_any a cap bs 1 wr (HRb.out _ b4) hl (by omega) (by omega)).mono ?_
            rintro e wr' ⟨⟨q, rfl, q0, q1⟩, rfl⟩
            go_wp2_with fail
            refine (at_any a cap bs 2 wr (HRb.out _ b4) hl (by omega) (by omega)).mono ?_
            rintro e wr' ⟨⟨v, rfl, v0, v1⟩, rfl⟩
            obtain ⟨X, Y, hXY, e1, e2, e3, e4⟩ := half_two ⟨p0, p1⟩ ⟨q0, q1⟩ ⟨v0, v1⟩
            have C1 := cot_in ⟨p0, p1⟩ ⟨q0, q1⟩ ⟨v0, v1⟩
            have C2 := cot_in ⟨q0, q1⟩ ⟨p0, p1⟩ ⟨v0, v1⟩
            have CA := con_all ⟨p0, p1⟩ ⟨q0, q1⟩ ⟨v0, v1⟩
            have HC1 := hide (fun W => (show Calls Try.prog 16 #[.int .i64 p, .int .i64 q, .int .i64 v] W fun e w' => e = .returned (.tuple #[.int .i64 (conX p q v), .int .i64 (conY p q v)]) ∧ W = w' by
              rw [← C1.1, ← C1.2]; exact implContestOfTwo_any p q v W))
            have HC2 := hide (fun W => (show Calls Try.prog 16 #[.int .i64 q, .int .i64 p, .int .i64 v] W fun e w' => e = .returned (.tuple #[.int .i64 (conY p q v), .int .i64 (conX p q v)]) ∧ W = w' by
              rw [← CA.2.1, ← CA.2.2.1, ← C2.1, ← C2.2]; exact implContestOfTwo_any q p v W))
            have CS := hide CA.1
            have cx0 := CA.2.2.2.1
            have cx1 := CA.2.2.2.2
            have cb := con_bound (a := p) (b := q) (w := v) (by omega) (by omega) (by omega)
            have cy1 : conY p q v ≤ 2000 := by have := CA.1; omega
            have cy0 : -2000 ≤ conY p q v := by have := CA.1; omega
            have HHR := hide (fun W (hc : Rd W (some ⟨wr.heap.size, 0, none⟩) [p, q]) => (show Calls Try.prog 34 #[.slice (some ⟨wr.heap.size, 0, none⟩) 2 2, .int .i64 v] W fun e w' => GivesI [X, Y] W e w' by
              rw [← hXY]; exact implHalfRule_any (some ⟨wr.heap.size, 0, none⟩) 2 [p, q] v W hc (by simp)))
            have hrd := (own_new wr 3 [p, q]).rd
            have b5 := belA (o := .cells #[.int .i64 p, .int .i64 q] 3) b4
            clear C1 C2 CA hXY
            generalize conX p q v = cx at *
            generalize conY p q v = cy at *
            go_wp2_with fail
            refine (HC1.out _).mono ?_
            rintro e wr' ⟨rfl, rfl⟩
            go_wp2_with fail
            refine (HC2.out _).mono ?_
            rintro e wr' ⟨rfl, rfl⟩
            go_wp2_with fail
            refine (HHR.out _ hrd).mono ?_
            rintro e w5 ⟨v5, rfl, hown5, hb5⟩
            have b6 := belT b5 hb5
            rcases hown5.cases with ⟨rfl, h0⟩ | ⟨g5, c5, rfl, hg5, ho5⟩
            · exact absurd h0 (by simp)
            have k0 := ho5.cell 0 (by simp)
            have k1 := ho5.cell 1 (by simp)
            simp at k0 k1
            clear hown5 ho5 hb5 hrd
            have HA2 := hide HAll.out
            go_wp2
            all_goals go_ret
            all_goals exact ⟨ret_bool (by have := HAl.out; have := CS.out; first | (simp; done) | (simp; omega)), b6⟩

end Go.Proofs.Ytjcemoofnonlkaa
