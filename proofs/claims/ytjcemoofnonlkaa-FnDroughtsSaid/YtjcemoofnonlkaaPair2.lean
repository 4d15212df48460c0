/- Whether halves are pairwise right: both functions answer the same question. -/
import Derived.Test.YtjcemoofnonlkaaPair
namespace Go.Proofs.Ytjcemoofnonlkaa
set_option linter.unusedSimpArgs false
set_option linter.unusedVariables false
open Go.RowKit

def pairOk (x h y k : Int) : Prop := -4 ≤ conX (2 * x) (2 * y) (h + k) - 2 * h ∧ conX (2 * x) (2 * y) (h + k) - 2 * h ≤ 4 ∧ -4 ≤ conY (2 * x) (2 * y) (h + k) - 2 * k ∧ conY (2 * x) (2 * y) (h + k) - 2 * k ≤ 4

theorem pairOk_def (x h y k : Int) : pairOk x h y k ↔ (-4 ≤ conX (2 * x) (2 * y) (h + k) - 2 * h ∧ conX (2 * x) (2 * y) (h + k) - 2 * h ≤ 4 ∧ -4 ≤ conY (2 * x) (2 * y) (h + k) - 2 * k ∧ conY (2 * x) (2 * y) (h + k) - 2 * k ≤ 4) := Iff.rfl

theorem pairOk_swap {x h y k : Int} (p : pairOk x h y k) : pairOk y k x h := by
  unfold pairOk at *
  have e1 := con_swap (2 * x) (2 * y) (h + k)
  have e2 := con_swap (2 * y) (2 * x) (k + h)
  rw [Int.add_comm k h] at *
  omega

def inP (xs hs : List Int) (i : Nat) : Prop := 0 ≤ hs.getD i 0 ∧ hs.getD i 0 ≤ 2 * xs.getD i 0
def prP (xs hs : List Int) (i k : Nat) : Prop := pairOk (xs.getD i 0) (hs.getD i 0) (xs.getD k 0) (hs.getD k 0)

def PairP (xs hs : List Int) : Prop :=
  clOk xs = true ∧ hs.length = xs.length ∧ (∀ i, i < xs.length → inP xs hs i) ∧ ∀ i k, i < k → k < xs.length → prP xs hs i k

/-- The call answers whether p. -/
def Asks (p : Prop) (w : World) (e : Ending) (w' : World) : Prop := ∃ r : Bool, e = .returned (.bool r) ∧ (r = true ↔ p) ∧ Below w.heap.size w w'
theorem Asks.yes {p : Prop} {w w' : World} (hp : p) (hb : Below w.heap.size w w') : Asks p w (.returned (.bool true)) w' := ⟨true, rfl, by simp [hp], hb⟩
theorem Asks.no {p : Prop} {w w' : World} (hp : ¬ p) (hb : Below w.heap.size w w') : Asks p w (.returned (.bool false)) w' := ⟨false, rfl, by simp [hp], hb⟩

theorem size_any (n : Int) (w : World) (h : -1000000000000 ≤ n ∧ n ≤ 1000000000000) :
    Calls Try.prog 53 #[.int .i64 n] w fun e w' => e = .returned (.int .i64 (max n (-n))) ∧ w = w' := by
  go_enter Try.func53, Try.ntmps53
  go_wp2
  all_goals go_ret
  all_goals exact ⟨ret_int (by omega), rfl⟩

theorem getD_mem {xs : List Int} {k : Nat} (h : k < xs.length) : xs.getD k 0 ∈ xs := by simp [List.getD_eq_getElem?_getD, h]

set_option maxHeartbeats 1000000 in
theorem implIsPairwise_any (a a' : Option Addr) (cap cap' : Nat) (xs hs : List Int) (w : World) (hc : Rd w a xs) (hc' : Rd w a' hs) (hn : xs.length ≤ 1048576) (hn' : hs.length ≤ 1048576) :
    Calls Try.prog 30 #[.slice a xs.length cap, .slice a' hs.length cap'] w fun e w' => Asks (PairP xs hs) w e w' := by
  by_cases hcl : clOk xs = true
  · by_cases hlen : hs.length = xs.length
    · have hl2 : ((hs.length : Int) != (xs.length : Int)) = false := by simp [hlen]
      have HL := hide hlen
      have HC := hide hcl
      obtain ⟨hc1, hc2, hc3⟩ := clOk_spec hcl
      have HB := hide hc3
      clear hlen hc3
      go_enter Try.func30, Try.ntmps30
      go_wp2_with (first | (go_at_call 19; refine (implClaimsOk_any _ _ _ _ hc hn).mono ?_; rintro e w2 ⟨rfl, rfl⟩))
      clear hl2
      go_loop [23] (fun i => ∃ k : Nat, k ≤ hs.length ∧ i = .int .i64 k ∧ ∀ i, i < k → inP xs hs i) (fun i => hs.length - (intOf i).toNat)
      case atStart => exact ⟨0, Nat.zero_le _, rfl, fun i hi => by omega⟩
      case round =>
        obtain ⟨k, hk, rfl, hr⟩ := hrel
        have HR := hide hr
        clear hr
        by_cases hlt : k < hs.length
        · have hltx : k < xs.length := by rw [← HL.out]; exact hlt
          obtain ⟨b, off, rfl, hcell⟩ := hc k hltx
          obtain ⟨b', off', rfl, hcell'⟩ := hc' k hlt
          have hx := HB.out _ (getD_mem hltx)
          have HP := hide (show inP xs hs k ↔ 0 ≤ hs.getD k 0 ∧ hs.getD k 0 ≤ 2 * xs.getD k 0 from Iff.rfl)
          generalize xs.getD k 0 = x at *
          generalize hs.getD k 0 = y at *
          go_wp2_with (first | (go_at_call 46; refine (within_any _ _ _ _).mono ?_; rintro e w2 ⟨rfl, rfl⟩))
          · go_ret
            have h0 : inB y 0 (2 * x) = false := by simp_all
            refine Asks.no (fun hp => ?_) (Below.refl _ _)
            have h1 := HP.out.1 (hp.2.2.1 k hltx)
            rw [← inB_iff, h0] at h1
            cases h1
          · go_round
            case rel =>
              refine ⟨k + 1, by omega, by go_num, fun i hi => ?_⟩
              have h0 : inB y 0 (2 * x) = true := by simp_all
              by_cases hik : i = k
              · subst hik; exact HP.out.2 (inB_iff.1 h0)
              · exact HR.out i (by omega)
            case measure => simp [intOf]; omega
        · have hkk : k = hs.length := by omega
          subst hkk
          go_wp2
          have HIN := hide (show ∀ i, i < xs.length → inP xs hs i by intro i hi; exact HR.out i (by rw [HL.out]; exact hi))
          clear HR
          obtain ⟨wo, rfl⟩ : ∃ wo : World, wo = w := ⟨_, rfl⟩
          go_loopw [39] (fun i wr => ∃ k : Nat, k ≤ xs.length ∧ i = .int .i64 k ∧ (∀ i j, i < k → i < j → j < xs.length → prP xs hs i j) ∧ Below wo.heap.size wo wr) (fun i _ => xs.length - (intOf i).toNat)
          case atStart => exact ⟨0, Nat.zero_le _, rfl, fun i j hi => by omega, Below.refl _ _⟩
          case round =>
            obtain ⟨i, hi, rfl, hr, hbel⟩ := hrel
            have HR := hide hr
            clear hr
            by_cases hlt : i < xs.length
            · obtain ⟨wp, rfl⟩ : ∃ wp : World, wp = wr := ⟨_, rfl⟩
              go_wp2
              go_loopw [8] (fun q wr => ∃ j : Nat, i + 1 ≤ j ∧ j ≤ xs.length ∧ q = .int .i64 j ∧ (∀ k, i < k → k < j → prP xs hs i k) ∧ Below wo.heap.size wo wr) (fun q _ => xs.length - (intOf q).toNat)
              case atStart => exact ⟨i + 1, by omega, by omega, by go_num, fun k hk hk' => by omega, hbel⟩
              case round =>
                obtain ⟨j, hj1, hj2, rfl, hrj, hbelj⟩ := hrel
                have HJ := hide hrj
                clear hrj
                by_cases hltj : j < xs.length
                · obtain ⟨b, off, rfl, cxi⟩ := hc.below hbelj i hlt
                  obtain ⟨b1, off1, e1, cxj⟩ := hc.below hbelj j hltj
                  cases e1
                  obtain ⟨b', off', rfl, chi⟩ := hc'.below hbelj i (by rw [HL.out]; exact hlt)
                  obtain ⟨b1, off1, e1, chj⟩ := hc'.below hbelj j (by rw [HL.out]; exact hltj)
                  cases e1
                  have bl := World.block_lt_of_cell? wr _ cxi
                  have bl' := World.block_lt_of_cell? wr _ chi
                  simp at bl bl'
                  have x1 := HB.out _ (getD_mem hlt)
                  have x2 := HB.out _ (getD_mem hltj)
                  have y1 : 0 ≤ hs.getD i 0 ∧ hs.getD i 0 ≤ 2 * xs.getD i 0 := HIN.out i hlt
                  have y2 : 0 ≤ hs.getD j 0 ∧ hs.getD j 0 ≤ 2 * xs.getD j 0 := HIN.out j hltj
                  have HP := hide (show prP xs hs i j ↔ pairOk (xs.getD i 0) (hs.getD i 0) (xs.getD j 0) (hs.getD j 0) from Iff.rfl)
                  generalize xs.getD i 0 = xi at *
                  generalize xs.getD j 0 = xj at *
                  generalize hs.getD i 0 = yi at *
                  generalize hs.getD j 0 = yj at *
                  have i1 : (0 : Int) ≤ (i : Int) := by omega
                  have i2 : (i : Int) < (xs.length : Int) := by omega
                  have i4 : (0 : Int) ≤ (j : Int) := by omega
                  have i5 : (j : Int) < (xs.length : Int) := by omega
                  have HI3 := hide (show (i : Int) < (hs.length : Int) by rw [HL.out]; omega)
                  have HI6 := hide (show (j : Int) < (hs.length : Int) by rw [HL.out]; omega)
                  have i3 := HI3.out
                  have i6 := HI6.out
                  have hb := con_bound (a := 2 * xi) (b := 2 * xj) (w := yi + yj) (by omega) (by omega) (by omega)
                  go_wp2
                  have s1 := IntWalk.i64_in (2 * xi) (by omega)
                  have s2 := IntWalk.i64_in (2 * xj) (by omega)
                  have s3 := IntWalk.i64_in (yi + yj) (by omega)
                  (refine wp_region_g [0, 1, 2, 3, 4, 5, 6, 7, 8, 9, 10, 11, 12, 13, 14, 15, 16, 17, 18, 19, 20, 21, 22, 23, 24] [] (by kernel_rfl) (by kernel_rfl) ?_; simp only [pick, List.map_cons, List.map_nil, Array.getD_eq_getD_getElem?, List.getElem?_toArray, List.getElem?_cons_zero, List.getElem?_cons_succ, Option.getD_some]; (iterate 25 (refine wpG_step (fun K hK => ?_); go_simp; first | (refine hK _ ?_; clear hK K) | (apply Exists.intro; refine ⟨fun _ => ?_, hK _ ?_⟩; ((go_at_call 47; exact same_g (contest_any (2 * xi) (2 * xj) (yi + yj) _ (by omega) (by omega) (by omega)))); clear hK K))); refine wpG_nil ?_)
                  clear s1 s2 s3
                  (refine wpT_end ?_; intro w2 hbr _; obtain ⟨hcb, hfb⟩ := bcell hbr; have hzr := hbr.size; (try simp at hzr); (try (refine ltk (a := w.heap.size) (b := w2.heap.size) ?_ ?_; (focus omega); intro _ _)); (try (refine ltk (a := w.heap.size + 1) (b := w2.heap.size) ?_ ?_; (focus omega); intro _ _)); (try (refine ltk (a := w.heap.size + 2) (b := w2.heap.size) ?_ ?_; (focus omega); intro _ _)); (try (refine ltk (a := w.heap.size + 3) (b := w2.heap.size) ?_ ?_; (focus omega); intro _ _)))
                  have HX := hide (pairOk_def xi yi xj yj)
                  generalize conX (2 * xi) (2 * xj) (yi + yj) = cx at *
                  generalize conY (2 * xi) (2 * xj) (yi + yj) = cy at *
                  go_wp2_with (first | (go_at_call 53; refine (size_any _ _ (by omega)).mono ?_; rintro e w3 ⟨rfl, rfl⟩))
                  · go_ret
                    refine Asks.no (fun hp => ?_) (by repeat first | exact Below.refl _ _ | assumption | (refine belA ?_) | (refine belD ?_) | (refine belN ?_) | (refine belS ?_ (by simp <;> omega)) | (refine belT ?_ (by assumption)))
                    have h1 := HX.out.1 (HP.out.1 (hp.2.2.2 i j (by omega) hltj))
                    omega
                  · go_roundw
                    case rel =>
                      refine ⟨j + 1, by omega, by omega, by go_num, fun k hk hk' => ?_, (by repeat first | exact Below.refl _ _ | assumption | (refine belA ?_) | (refine belD ?_) | (refine belN ?_) | (refine belS ?_ (by simp <;> omega)) | (refine belT ?_ (by assumption)))⟩
                      by_cases e : k = j
                      · subst e; exact HP.out.2 (HX.out.2 (by omega))
                      · exact HJ.out k hk (by omega)
                    case measure => simp [intOf]; omega
                  · go_ret
                    refine Asks.no (fun hp => ?_) (by repeat first | exact Below.refl _ _ | assumption | (refine belA ?_) | (refine belD ?_) | (refine belN ?_) | (refine belS ?_ (by simp <;> omega)) | (refine belT ?_ (by assumption)))
                    have h1 := HX.out.1 (HP.out.1 (hp.2.2.2 i j (by omega) hltj))
                    omega
                · go_wp2
                  go_roundw
                  case rel => exact ⟨i + 1, by omega, by go_num, fun i' k' hi' hik hk' => by
                    by_cases e : i' = i
                    · subst e; exact HJ.out k' hik (by omega)
                    · exact HR.out i' k' (by omega) hik hk', hbelj⟩
                  case measure => simp [intOf]; omega
            · go_wp2
              go_ret
              exact Asks.yes ⟨HC.out, HL.out, HIN.out, fun i' k' hik hk' => HR.out i' k' (by omega) hik hk'⟩ hbel
    · have hl2 : ((hs.length : Int) != (xs.length : Int)) = true := by simp; omega
      have HN := hide (show ¬ PairP xs hs from fun h => hlen h.2.1)
      clear hlen
      go_enter Try.func30, Try.ntmps30
      go_wp2_with (first | (go_at_call 19; refine (implClaimsOk_any _ _ _ _ hc hn).mono ?_; rintro e w2 ⟨rfl, rfl⟩))
      go_ret
      exact Asks.no HN.out (Below.refl _ _)
  · have HN := hide (show ¬ PairP xs hs from fun h => hcl h.1)
    go_enter Try.func30, Try.ntmps30
    go_wp2_with (first | (go_at_call 19; refine (implClaimsOk_any _ _ _ _ hc hn).mono ?_; rintro e w2 ⟨rfl, rfl⟩))
    go_ret
    exact Asks.no HN.out (Below.refl _ _)

end Go.Proofs.Ytjcemoofnonlkaa
