/- The walk of the law Droughts. -/
import Derived.Test.YtjcemoofnonlkaaDrtM
import Derived.Test.YtjcemoofnonlkaaLoss
import Derived.Test.YtjcemoofnonlkaaDryLaws
import Derived.Test.YtjcemoofnonlkaaDryDraw
import Derived.Deep.DeepCutAuto
import Derived.Test.YtjcemoofnonlkaaRegL
import Derived.Deep.CutBlock
namespace Go.Proofs.Ytjcemoofnonlkaa
set_option linter.unusedSimpArgs false
set_option linter.unusedVariables false
open Go.RowKit

theorem btoiD_any (q : Bool) (w : World) : Calls Try.prog 41 #[.bool q] w fun e w' => e = .returned (.int .i64 (if q then 1 else 0)) ∧ w = w' := by
  cases q
  · go_enter Try.func41, Try.ntmps41
    go_wp2
    go_ret
    exact ⟨rfl, rfl⟩
  · go_enter Try.func41, Try.ntmps41
    go_wp2
    go_ret
    exact ⟨rfl, rfl⟩

theorem takeD_sum (xs : List Int) (k : Nat) (h : k < xs.length) : (xs.take (k + 1)).sum = (xs.take k).sum + xs.getD k 0 := by
  rw [List.take_succ_eq_append_getElem h, List.sum_append]; simp [List.getD_eq_getElem?_getD, h]
theorem takeD_bd (xs : List Int) (B : Int) (hB : 0 ≤ B) (hb : ∀ x ∈ xs, 0 ≤ x ∧ x ≤ B) (k : Nat) : 0 ≤ (xs.take k).sum ∧ (xs.take k).sum ≤ B * xs.length := by
  have h := sum_le (xs.take k) B hB (fun x hx => hb x (List.mem_of_mem_take hx))
  have h2 : (xs.take k).length ≤ xs.length := by simp; omega
  have h3 : B * ((xs.take k).length : Int) ≤ B * (xs.length : Int) := Int.mul_le_mul_of_nonneg_left (by omega) hB
  omega

def mxL (l : List Int) : Int := l.foldl max 0
theorem mx_take (l : List Int) (k : Nat) (h : k < l.length) : mxL (l.take (k + 1)) = max (mxL (l.take k)) (l.getD k 0) := by
  unfold mxL
  rw [List.take_succ_eq_append_getElem h, List.foldl_append]; simp [List.getD_eq_getElem?_getD, h]
theorem mx_le (b : Int) : ∀ (l : List Int) (m : Int), m ≤ b → (∀ x ∈ l, x ≤ b) → l.foldl max m ≤ b
  | [], m, h, _ => h
  | x :: l, m, h, hb => by
    have := hb x (by simp)
    exact mx_le b l _ (by omega) (fun y hy => hb y (by simp [hy]))
theorem mx_ge : ∀ (l : List Int) (m : Int), m ≤ l.foldl max m
  | [], m => Int.le_refl _
  | x :: l, m => by have := mx_ge l (max m x); simp only [List.foldl_cons]; omega
theorem mx_bd (l : List Int) (B : Int) (hB : 0 ≤ B) (hb : ∀ x ∈ l, 0 ≤ x ∧ x ≤ B) (k : Nat) : 0 ≤ mxL (l.take k) ∧ mxL (l.take k) ≤ B :=
  ⟨mx_ge _ _, mx_le B _ _ hB (fun x hx => (hb x (List.mem_of_mem_take hx)).2)⟩

/-- A rule's result: read at a new block. -/
def GivesR (L : List Int) (n : Nat) (w : World) (e : Ending) (w' : World) : Prop := ∃ (g cap : Nat), e = .returned (.slice (some ⟨g, 0, none⟩) n cap) ∧ Rd w' (some ⟨g, 0, none⟩) L ∧ Below w.heap.size w w'
theorem givesR {L : List Int} {n : Nat} {w : World} (hl : L.length = n) (hn : 1 ≤ n) (e : Ending) (w' : World) (h : GivesI L w e w') : GivesR L n w e w' := by
  obtain ⟨v, rfl, ho, hb⟩ := h
  rcases ho.cases with ⟨_, h0⟩ | ⟨g, cap, rfl, _, h2⟩
  · rw [h0] at hl; simp at hl; omega
  · subst hl
    exact ⟨g, cap, rfl, h2.rd, hb⟩

/-- What the walk needs of a rule's result. -/
structure RuleR (xs D : List Int) (G r : Int) : Prop where
  len : D.length = xs.length
  bd : ∀ k, k < xs.length → 0 ≤ D.getD k 0 ∧ D.getD k 0 ≤ xs.getD k 0
  sum : D.sum = G
  up : ∀ i k, i < xs.length → k < xs.length → r < 3 → xs.getD k 0 < xs.getD i 0 → ¬ D.getD i 0 < D.getD k 0 - (if 0 < r then 1 else 0)
  dn : ∀ i k, i < xs.length → k < xs.length → r < 3 → xs.getD i 0 < xs.getD k 0 → ¬ D.getD k 0 + (if 0 < r then 1 else 0) < D.getD i 0
theorem rule_R {xs : List Int} {water r : Int} (hd : dryM xs water = true) (h0 : 0 ≤ r) (h3 : r ≤ 3) : RuleR xs (ruleM r xs water) (min water xs.sum) r := by
  rcases rule_drt r hd with h | h | h
  · refine ⟨h.len, h.bd, h.sum, fun i k hi hk hr hik => ?_, fun i k hi hk hr hik => ?_⟩
    · have := h.mono i k hi hk hik
      by_cases e : r = 0
      · subst e; simp at *; omega
      · rw [if_neg e, if_pos hr] at this; rw [if_pos (by omega)]; omega
    · have := h.mono k i hk hi hik
      by_cases e : r = 0
      · subst e; simp at *; omega
      · rw [if_neg e, if_pos hr] at this; rw [if_pos (by omega)]; omega
  · omega
  · omega

set_option maxRecDepth 100000 in
set_option maxHeartbeats 40000000 in
theorem law_Droughts (a : Option Addr) (cap : Nat) (bs : List Int) (w : World) (hr : Rd8 w a bs) (hm : bs.length ≤ 9223372036854775807) :
    Calls Try.prog 13 #[.slice a bs.length cap] w fun e w' => Rets w (.bool true) e w' := by
  by_cases hl : bs.length ≤ 1048576
  case neg =>
    have hd : decide (1048576 < bs.length) = true := by simp; omega
    have HB := hide (show ∀ W, Calls Try.prog 39 #[.slice a bs.length cap] W fun e w' => e = .returned (.bool true) ∧ W = w' from fun W => by rw [← hd]; exact big_any a bs.length cap W hm)
    clear hd
    go_enter Try.func13, Try.ntmps13
    go_wp2_with fail
    refine (HB.out _).mono ?_
    rintro e w' ⟨rfl, rfl⟩
    go_wp2
    go_ret
    exact ⟨rfl, Below.refl _ _⟩
  have hd : decide (1048576 < bs.length) = false := by simp; omega
  have HB := hide (show ∀ W, Calls Try.prog 39 #[.slice a bs.length cap] W fun e w' => e = .returned (.bool false) ∧ W = w' from fun W => by rw [← hd]; exact big_any a bs.length cap W hm)
  clear hd
  go_enter Try.func13, Try.ntmps13
  go_wp2_with fail
  refine (HB.out _).mono ?_
  rintro e w' ⟨rfl, rfl⟩
  go_wp2_with fail
  refine (DrawClaims_any a cap bs w hr hl).mono ?_
  rintro e w1 ⟨g1, c1, xs, x, rfl, hxs, x0, x1, hg1, ho1, hb1⟩
  have HC := hide ho1.rd
  have hdr := clDr_dry (water := x) hxs x0 (by omega)
  have n1 := hxs.1
  have n6 := hxs.2.1
  have hn : xs.length ≤ 1048576 := by omega
  have HBx := hide (show ∀ y ∈ xs, 0 ≤ y ∧ y ≤ 59 from hxs.2.2)
  have HS := hide (takeD_bd xs 59 (by omega) HBx.out)
  have HR := hide (fun r h0 h3 => rule_R (r := r) hdr h0 h3)
  have HE := hide (ep_drt hdr)
  have HT := hide (fun i k hi hk h => ep_top hdr i k hi hk h)
  have C0 := hide (fun W (hc : Rd W (some ⟨g1, 0, none⟩) xs) => (implProportional_any (some ⟨g1, 0, none⟩) c1 xs x W hc hn).mono (givesR (HR.out 0 (by omega) (by omega)).len n1))
  have C1 := hide (fun W (hc : Rd W (some ⟨g1, 0, none⟩) xs) => (implEqualParts_any (some ⟨g1, 0, none⟩) c1 xs x W hc hn).mono (givesR (HR.out 1 (by omega) (by omega)).len n1))
  have C2 := hide (fun W (hc : Rd W (some ⟨g1, 0, none⟩) xs) => (implEqualLosses_any (some ⟨g1, 0, none⟩) c1 xs x W hc hn).mono (givesR (HR.out 2 (by omega) (by omega)).len n1))
  have C3 := hide (fun W (hc : Rd W (some ⟨g1, 0, none⟩) xs) => (implFirstCome_any (some ⟨g1, 0, none⟩) c1 xs x W hc hn).mono (givesR (HR.out 3 (by omega) (by omega)).len n1))
  have CE := hide (fun W (hc : Rd W (some ⟨g1, 0, none⟩) xs) => (implEqualParts_any (some ⟨g1, 0, none⟩) c1 xs x W hc hn).mono (givesR HE.out.len n1))
  have CM := hide (fun W (hc : Rd W (some ⟨g1, 0, none⟩) xs) => (show Calls Try.prog 24 #[.slice (some ⟨g1, 0, none⟩) xs.length c1, .int .i64 x] W fun e w' => e = .returned (.int .i64 (xs.sum - min x xs.sum)) ∧ W = w' by
    have e : missM xs x = xs.sum - min x xs.sum := by unfold missM; rw [if_pos hdr]; omega
    rw [← e]; exact implMissingWater_any (some ⟨g1, 0, none⟩) c1 xs x W hc hn))
  have CO := hide (fun W (hc : Rd W (some ⟨g1, 0, none⟩) xs) => (show Calls Try.prog 19 #[.slice (some ⟨g1, 0, none⟩) xs.length c1] W fun e w' => e = .returned (.bool true) ∧ W = w' by
    have e : clOk xs = true := by simp only [dryM, Bool.and_eq_true] at hdr; exact hdr.1
    rw [← e]; exact implClaimsOk_any (some ⟨g1, 0, none⟩) c1 xs W hc hn))
  clear hdr hxs ho1
  go_wp2
  go_loop [5, 6] (fun s i => ∃ k : Nat, k ≤ xs.length ∧ i = .int .i64 k ∧ s = .int .i64 (xs.take k).sum) (fun s i => xs.length - (intOf i).toNat)
  case atStart => exact ⟨0, Nat.zero_le _, rfl, rfl⟩
  case round =>
    obtain ⟨k, hk, rfl, rfl⟩ := hrel
    have hs := HS.out k
    by_cases hlt : k < xs.length
    · obtain ⟨b, off, hab, hcell⟩ := HC.out k hlt
      cases hab
      rw [Nat.zero_add] at hcell
      have HTk := hide (takeD_sum xs k hlt)
      have hy := HBx.out _ (getD_mem' hlt)
      have i1 : (0 : Int) ≤ (k : Int) := by omega
      have i2 : (k : Int) < (xs.length : Int) := by omega
      generalize xs.getD k 0 = y at *
      go_wp2
      go_round
      case rel => exact ⟨k + 1, by omega, by go_num, by rw [HTk.out]⟩
      case measure => simp [intOf]; omega
    · have hkk : k = xs.length := by omega
      subst hkk
      rw [List.take_of_length_le (Nat.le_refl _)] at hs ⊢
      generalize hS : xs.sum = S at *
      clear hS hlt hk HS
      go_upto_region 9 with fail
      go_cut [7] (fun v wx => v = .int .i64 (min x S) ∧ w1 = wx)
      case first =>
        go_wp2
        all_goals go_meet
        all_goals exact ⟨by congr 1; omega, rfl⟩
      case rest =>
      obtain ⟨rfl, rfl⟩ := hcut
      have hG : min x S ≤ 249 ∧ 0 ≤ min x S ∧ min x S ≤ S := by omega
      generalize min x S = G at *
      go_wp2
      go_loopw [8] (fun v wr => ∃ r : Int, 0 ≤ r ∧ r ≤ 4 ∧ v = .int .i64 r ∧ Below w1.heap.size w1 wr) (fun v _ => 4 - (intOf v).toNat)
      case atStart => exact ⟨0, by omega, by omega, rfl, Below.refl _ _⟩
      case round =>
        obtain ⟨r, r0, r4, rfl, hbr⟩ := hrel
        have hcr := HC.out.below hbr
        by_cases hr4 : r < 4
        case neg =>
          have hre : r = 4 := by omega
          subst hre
          clear HR C0 C1 C2 C3
          go_wp2_with fail
          refine (CE.out _ hcr).mono ?_
          rintro e w3 ⟨ge, ce, rfl, hrd, hb3⟩
          have RE := hide hrd
          have RC := hide (hcr.below hb3)
          have b3 := belT hb1 (belT hbr hb3)
          obtain ⟨el, eb, es, _⟩ := HE.out
          have EL := hide el
          have EB := hide eb
          have TM := hide (fun k (hk : k < xs.length) (h : (epM xs x).getD k 0 < xs.getD k 0) => (show mxL (epM xs x) - 1 ≤ (epM xs x).getD k 0 by
            have e0 := (eb k hk).1
            have := mx_le ((epM xs x).getD k 0 + 1) (epM xs x) 0 (by omega) (fun z hz => by
              obtain ⟨j, hj, rfl⟩ := List.mem_iff_getElem.1 hz
              have := HT.out j k (by omega) hk h
              simp only [List.getD_eq_getElem?_getD, List.getElem?_eq_getElem hj, Option.getD_some] at this ⊢
              omega)
            unfold mxL; omega))
          have MB := hide (mx_bd (epM xs x) 59 (by omega) (fun z hz => by
            obtain ⟨j, hj, rfl⟩ := List.mem_iff_getElem.1 hz
            have h1 := eb j (by omega)
            have h2 := HBx.out _ (getD_mem' (show j < xs.length by omega))
            simp only [List.getD_eq_getElem?_getD, List.getElem?_eq_getElem hj, Option.getD_some] at h1 h2
            omega))
          clear hrd hcr hb3 hbr HE HT el eb es CE hb1
          have CM3 := CM.out _ RC.out
          have CO3 := CO.out _ RC.out
          generalize epM xs x = E at *
          have n5 : E.length ≤ 6 := by rw [EL.out]; exact n6
          go_wp2
          go_loop [14, 15] (fun s i => ∃ k : Nat, k ≤ xs.length ∧ i = .int .i64 k ∧ s = .int .i64 (mxL (E.take k))) (fun s i => xs.length - (intOf i).toNat)
          case atStart => exact ⟨0, Nat.zero_le _, rfl, rfl⟩
          case round =>
            obtain ⟨k, hk, rfl, rfl⟩ := hrel
            have hs := MB.out k
            by_cases hltx : k < xs.length
            · have hlt : k < E.length := by rw [EL.out]; exact hltx
              obtain ⟨b, off, hab, hcell⟩ := RE.out k hlt
              cases hab
              rw [Nat.zero_add] at hcell
              have HTk := hide (mx_take E k hlt)
              have i1 : (0 : Int) ≤ (k : Int) := by omega
              have i2 : (k : Int) < (E.length : Int) := by omega
              have i3 : (k : Int) < (xs.length : Int) := by omega
              generalize E.getD k 0 = y at *
              generalize mxL (E.take k) = m at *
              go_wp2
              go_round
              case rel => exact ⟨k + 1, by omega, by go_num, by rw [HTk.out]; congr 1; split <;> omega⟩
              case measure => simp [intOf]; omega
            · have hkk : k = xs.length := by omega
              subst hkk
              rw [List.take_of_length_le (show E.length ≤ xs.length by rw [EL.out]; exact Nat.le_refl _)] at hs ⊢
              generalize mxL E = M at *
              clear hltx hk MB
              go_wp2
              go_loopw [16] (fun i wr => ∃ k : Nat, k ≤ xs.length ∧ i = .int .i64 k ∧ Below w3.heap.size w3 wr) (fun i _ => xs.length - (intOf i).toNat)
              case atStart => exact ⟨0, Nat.zero_le _, rfl, Below.refl _ _⟩
              case round =>
                obtain ⟨k, hk, rfl, hbk⟩ := hrel
                by_cases hltx : k < xs.length
                · have hlt : k < E.length := by rw [EL.out]; exact hltx
                  obtain ⟨b, off, hab, hcell⟩ := (RE.out.below hbk) k hlt
                  cases hab
                  rw [Nat.zero_add] at hcell
                  obtain ⟨b, off, hab, hcc⟩ := (RC.out.below hbk) k hltx
                  cases hab
                  rw [Nat.zero_add] at hcc
                  have i1 : (0 : Int) ≤ (k : Int) := by omega
                  have i2 : (k : Int) < (E.length : Int) := by omega
                  have i3 : (k : Int) < (xs.length : Int) := by omega
                  have hT := TM.out k hltx
                  have hy := HBx.out _ (getD_mem' hltx)
                  have he := EB.out k hltx
                  generalize E.getD k 0 = e at *
                  generalize xs.getD k 0 = c at *
                  have W1 : IntKind.i64.wrap (M - 1) = M - 1 := IntWalk.i64_in _ (by omega)
                  have l1 := World.block_lt_of_cell? _ _ hcell
                  have l2 := World.block_lt_of_cell? _ _ hcc
                  simp at l1 l2
                  by_cases h1 : e < c
                  · have h2 : ¬ e < M - 1 := by have := hT h1; omega
                    have d2 : decide (e < M - 1) = false := decide_eq_false h2
                    clear hT
                    go_wp2
                    (refine wp_region_g [0, 1, 2, 3, 4, 5, 6, 7, 8, 9, 10, 11, 12, 13, 14, 15, 16, 17] [] (by kernel_rfl) (by kernel_rfl) ?_; simp only [pick, List.map_cons, List.map_nil, Array.getD_eq_getD_getElem?, List.getElem?_toArray, List.getElem?_cons_zero, List.getElem?_cons_succ, Option.getD_some]; (iterate 18 (refine wpG_step (fun K hK => ?_); go_simp; first | (refine hK _ ?_; clear hK K) | (apply Exists.intro; refine ⟨fun _ => ?_, hK _ ?_⟩; (fail); clear hK K))); refine wpG_nil ?_)
                    intro w4 hb4
                    have b5 := hbk.trans ((below_of_inC hb4).mono hbk.size)
                    clear hb4
                    go_wp2
                    go_roundw
                    case rel => exact ⟨k + 1, by omega, by go_num, b5⟩
                    case measure => simp [intOf]; omega
                  · have d1 : decide (e < c) = false := decide_eq_false h1
                    clear hT
                    go_wp2
                    (refine wp_region_g [0, 1, 2, 3, 4, 5, 6, 7, 8, 9, 10, 11, 12, 13, 14, 15, 16, 17] [] (by kernel_rfl) (by kernel_rfl) ?_; simp only [pick, List.map_cons, List.map_nil, Array.getD_eq_getD_getElem?, List.getElem?_toArray, List.getElem?_cons_zero, List.getElem?_cons_succ, Option.getD_some]; (iterate 18 (refine wpG_step (fun K hK => ?_); go_simp; first | (refine hK _ ?_; clear hK K) | (apply Exists.intro; refine ⟨fun _ => ?_, hK _ ?_⟩; (fail); clear hK K))); refine wpG_nil ?_)
                    intro w4 hb4
                    have b5 := hbk.trans ((below_of_inC hb4).mono hbk.size)
                    clear hb4
                    go_wp2
                    go_roundw
                    case rel => exact ⟨k + 1, by omega, by go_num, b5⟩
                    case measure => simp [intOf]; omega
                · have CM4 := CM.out _ (RC.out.below hbk)
                  have CO4 := CO.out _ (RC.out.below hbk)
                  have b5 := belT b3 hbk
                  have sg : IntKind.i64.wrap (S - G) = S - G := IntWalk.i64_in _ (by omega)
                  go_wp2_with (first
                    | (go_at_call 24; refine CM4.mono ?_; rintro e w' ⟨rfl, rfl⟩)
                    | (go_at_call 19; refine CO4.mono ?_; rintro e w' ⟨rfl, rfl⟩))
                  all_goals go_ret
                  all_goals exact ⟨ret_bool (by simp), b5⟩
        case pos =>
          have R := hide (HR.out r r0 (by omega))
          clear HE HT CE
          have C0' := C0.out _ hcr
          go_upto_block 4 with (first | (go_at_call 38; refine C0'.mono ?_; rintro e w3 ⟨g3, c3, rfl, hrd3, hb3⟩))
          have hc3 := hcr.below hb3
          go_cut [9] (fun v wx => ∃ (g cc : Nat), v = .slice (some ⟨g, 0, none⟩) xs.length cc ∧ Rd wx (some ⟨g, 0, none⟩) (ruleM r xs x) ∧ Below w3.heap.size w3 wx)
          case first =>
            have hsp : r = 0 ∨ r = 1 ∨ r = 2 ∨ r = 3 := by omega
            have C1' := C1.out _ hc3
            have C2' := C2.out _ hc3
            have C3' := C3.out _ hc3
            rcases hsp with rfl | rfl | rfl | rfl
            · go_wp2
              go_meet
              case rel => exact ⟨_, _, rfl, hrd3, Below.refl _ _⟩
            · go_wp2_with (first | (go_at_call 32; refine C1'.mono ?_; rintro e w4 ⟨g4, c4, rfl, hrd4, hb4⟩))
              go_meet
              case rel => exact ⟨_, _, rfl, hrd4, hb4⟩
            · go_wp2_with (first | (go_at_call 36; refine C2'.mono ?_; rintro e w4 ⟨g4, c4, rfl, hrd4, hb4⟩))
              go_meet
              case rel => exact ⟨_, _, rfl, hrd4, hb4⟩
            · go_wp2_with (first | (go_at_call 26; refine C3'.mono ?_; rintro e w4 ⟨g4, c4, rfl, hrd4, hb4⟩))
              go_meet
              case rel => exact ⟨_, _, rfl, hrd4, hb4⟩
          case rest =>
            obtain ⟨g, cc, rfl, hrd, hbc⟩ := hcut
            have RC := hide (hc3.below hbc)
            have RD := hide hrd
            have bc := hbr.trans ((belT hb3 hbc).mono hbr.size)
            clear hrd hc3 hcr hbr hb3 hbc hrd3 C0 C1 C2 C3 C0' HR HC
            generalize ruleM r xs x = D at *
            obtain ⟨dl, db, ds, du, dd⟩ := R.out
            obtain ⟨q, hq⟩ : ∃ q : Int, q = if 0 < r then 1 else 0 := ⟨_, rfl⟩
            rw [← hq] at du dd
            have q01 : 0 ≤ q ∧ q ≤ 1 := by rw [hq]; split <;> omega
            have HBt := hide (fun W => (show Calls Try.prog 41 #[.bool (decide (0 < r))] W fun e w' => e = .returned (.int .i64 q) ∧ W = w' by
              have := btoiD_any (decide (0 < r)) W
              simp only [decide_eq_true_eq, ← hq] at this
              exact this))
            clear hq
            have DL := hide dl
            have DB := hide db
            have DS := hide ds
            have DU := hide du
            have DD := hide dd
            have MB := hide (takeD_bd D 59 (by omega) (fun z hz => by
              obtain ⟨j, hj, rfl⟩ := List.mem_iff_getElem.1 hz
              have h1 := db j (by omega)
              have h2 := HBx.out _ (getD_mem' (show j < xs.length by omega))
              simp only [List.getD_eq_getElem?_getD, List.getElem?_eq_getElem hj, Option.getD_some] at h1 h2
              omega))
            have n5 : D.length ≤ 6 := by omega
            clear dl db ds du dd R
            go_wp2
            go_loopw [10, 11] (fun s i wr => ∃ k : Nat, k ≤ xs.length ∧ i = .int .i64 k ∧ s = .int .i64 (D.take k).sum ∧ Below wc.heap.size wc wr) (fun s i _ => xs.length - (intOf i).toNat)
            case atStart => exact ⟨0, Nat.zero_le _, rfl, rfl, Below.refl _ _⟩
            case round =>
              obtain ⟨k, hk, rfl, rfl, hbk⟩ := hrel
              have hs := MB.out k
              by_cases hlt : k < xs.length
              · have hltD : k < D.length := by rw [DL.out]; exact hlt
                obtain ⟨b, off, hab, hcell⟩ := (RD.out.below hbk) k hltD
                cases hab
                rw [Nat.zero_add] at hcell
                obtain ⟨b, off, hab, hcc⟩ := (RC.out.below hbk) k hlt
                cases hab
                rw [Nat.zero_add] at hcc
                have HTk := hide (takeD_sum D k hltD)
                have i1 : (0 : Int) ≤ (k : Int) := by omega
                have i2 : (k : Int) < (xs.length : Int) := by omega
                have hy := HBx.out _ (getD_mem' hlt)
                have he := DB.out k hlt
                have DUk := hide (fun i (hi : i < xs.length) => DU.out i k hi hlt)
                have DDk := hide (fun i (hi : i < xs.length) => DD.out i k hi hlt)
                generalize hdk : D.getD k 0 = dk at *
                generalize hck : xs.getD k 0 = ck at *
                have HDK := hide hdk
                have HCK := hide hck
                clear hdk hck
                generalize (D.take k).sum = T at *
                have b6 : 0 ≤ T + dk ∧ T + dk ≤ 1000 := by omega
                have l1 := World.block_lt_of_cell? _ _ hcell
                have l2 := World.block_lt_of_cell? _ _ hcc
                simp at l1 l2
                have d1 : decide (dk < 0) = false := decide_eq_false (by omega)
                have d2 : decide (ck < dk) = false := decide_eq_false (by omega)
                have d1' : ¬ dk < 0 := by omega
                have d2' : ¬ ck < dk := by omega
                go_wp2
                (refine wp_region_g [0, 1, 2, 3, 4, 5, 6, 7, 8, 9, 10, 11, 12, 13, 14, 15] [] (by kernel_rfl) (by kernel_rfl) ?_; simp only [pick, List.map_cons, List.map_nil, Array.getD_eq_getD_getElem?, List.getElem?_toArray, List.getElem?_cons_zero, List.getElem?_cons_succ, Option.getD_some]; (iterate 16 (refine wpG_step (fun K hK => ?_); go_simp; first | (refine hK _ ?_; clear hK K) | (apply Exists.intro; refine ⟨fun _ => ?_, hK _ ?_⟩; (fail); clear hK K))); refine wpG_nil ?_)
                intro w4 hb4
                have b5 := hbk.trans ((below_of_inC hb4).mono hbk.size)
                clear hb4 hbk hcell hcc l1 l2 d1 d2 d1' d2'
                go_wp2
                go_loopw [12] (fun i wr => ∃ j : Nat, j ≤ k ∧ i = .int .i64 j ∧ Below wc.heap.size wc wr) (fun i _ => k - (intOf i).toNat)
                case atStart => exact ⟨0, Nat.zero_le _, rfl, b5⟩
                case round =>
                  obtain ⟨j, hj, rfl, hbj⟩ := hrel
                  by_cases hjk : j < k ∧ r < 3
                  · obtain ⟨hjk, hr3⟩ := hjk
                    have jx : j < xs.length := by omega
                    have jD : j < D.length := by rw [DL.out]; exact jx
                    obtain ⟨b, off, hab, hcdk⟩ := (RD.out.below hbj) k hltD
                    cases hab
                    rw [Nat.zero_add, HDK.out] at hcdk
                    obtain ⟨b, off, hab, hcck⟩ := (RC.out.below hbj) k hlt
                    cases hab
                    rw [Nat.zero_add, HCK.out] at hcck
                    obtain ⟨b, off, hab, hcdj⟩ := (RD.out.below hbj) j jD
                    cases hab
                    rw [Nat.zero_add] at hcdj
                    obtain ⟨b, off, hab, hccj⟩ := (RC.out.below hbj) j jx
                    cases hab
                    rw [Nat.zero_add] at hccj
                    have ub := HBx.out _ (getD_mem' jx)
                    have ue := DB.out j jx
                    have uu := DUk.out j jx hr3
                    have ud := DDk.out j jx hr3
                    generalize D.getD j 0 = dj at *
                    generalize xs.getD j 0 = cj at *
                    have j1 : (0 : Int) ≤ (j : Int) := by omega
                    have j2 : (j : Int) < (xs.length : Int) := by omega
                    have m1 := World.block_lt_of_cell? _ _ hcdk
                    have m2 := World.block_lt_of_cell? _ _ hcck
                    simp at m1 m2
                    have hA3 : ck < cj ∨ cj < ck ∨ cj = ck := by omega
                    rcases hA3 with hA | hA | hA
                    · have d1 : decide (cj < ck) = false := decide_eq_false (by omega)
                      have d1' : ¬ cj < ck := by omega
                      have e2 := uu hA
                      have e3 : IntKind.i64.wrap (dk - q) = dk - q := IntWalk.i64_in _ (by omega)
                      have e4 : decide (dj < dk - q) = false := decide_eq_false (by omega)
                      clear uu ud
                      as_aux_lemma =>
                        go_wp2
                        refine wp_region_l (by kernel_rfl) (by kernel_rfl) (by kernel_rfl) ?_
                        iterate 50 (refine wpG_step (fun K hK => ?_); go_simp; first | (refine hK _ ?_; clear hK K) | (apply Exists.intro; refine ⟨fun _ => ?_, hK _ ?_⟩; (go_at_call 41; exact same_g (HBt.out _)); clear hK K))
                        refine wpG_nil ?_
                        intro w5 hb5'
                        have b6' := hbj.trans (hb5'.mono hbj.size)
                        clear hb5'
                        go_wp2
                        go_roundw
                        case rel => exact ⟨j + 1, by omega, by go_num, b6'⟩
                        case measure => simp [intOf]; omega
                    · have d1 : decide (ck < cj) = false := decide_eq_false (by omega)
                      have d1' : ¬ ck < cj := by omega
                      have e2 := ud hA
                      have e3 : IntKind.i64.wrap (dk + q) = dk + q := IntWalk.i64_in _ (by omega)
                      have e4 : decide (dk + q < dj) = false := decide_eq_false (by omega)
                      clear uu ud
                      as_aux_lemma =>
                        go_wp2
                        refine wp_region_l (by kernel_rfl) (by kernel_rfl) (by kernel_rfl) ?_
                        iterate 50 (refine wpG_step (fun K hK => ?_); go_simp; first | (refine hK _ ?_; clear hK K) | (apply Exists.intro; refine ⟨fun _ => ?_, hK _ ?_⟩; (go_at_call 41; exact same_g (HBt.out _)); clear hK K))
                        refine wpG_nil ?_
                        intro w5 hb5'
                        have b6' := hbj.trans (hb5'.mono hbj.size)
                        clear hb5'
                        go_wp2
                        go_roundw
                        case rel => exact ⟨j + 1, by omega, by go_num, b6'⟩
                        case measure => simp [intOf]; omega
                    · have d1 : decide (cj < ck) = false := decide_eq_false (by omega)
                      have d1' : ¬ cj < ck := by omega
                      have d2 : decide (ck < cj) = false := decide_eq_false (by omega)
                      have d2' : ¬ ck < cj := by omega
                      clear uu ud
                      as_aux_lemma =>
                        go_wp2
                        refine wp_region_l (by kernel_rfl) (by kernel_rfl) (by kernel_rfl) ?_
                        iterate 50 (refine wpG_step (fun K hK => ?_); go_simp; first | (refine hK _ ?_; clear hK K) | (apply Exists.intro; refine ⟨fun _ => ?_, hK _ ?_⟩; (go_at_call 41; exact same_g (HBt.out _)); clear hK K))
                        refine wpG_nil ?_
                        intro w5 hb5'
                        have b6' := hbj.trans (hb5'.mono hbj.size)
                        clear hb5'
                        go_wp2
                        go_roundw
                        case rel => exact ⟨j + 1, by omega, by go_num, b6'⟩
                        case measure => simp [intOf]; omega
                  · have hjr : j = k ∨ (j < k ∧ ¬ r < 3) := by omega
                    rcases hjr with hjr | ⟨hjk2, hr3⟩
                    · have hjk2 : ¬ (j : Int) < (k : Int) := by omega
                      clear hjk
                      go_wp2
                      go_roundw
                      case rel => exact ⟨k + 1, by omega, by go_num, by rw [HTk.out], hbj⟩
                      case measure => simp [intOf]; omega
                    · clear hjk
                      go_wp2
                      go_roundw
                      case rel => exact ⟨k + 1, by omega, by go_num, by rw [HTk.out], hbj⟩
                      case measure => simp [intOf]; omega
              · have hkk : k = xs.length := by omega
                subst hkk
                have hdd : (D.take xs.length).sum = G := by rw [← DL.out, List.take_of_length_le (Nat.le_refl _)]; exact DS.out
                rw [hdd]
                have b7 := bc.trans (hbk.mono bc.size)
                go_wp2
                go_roundw
                case rel => exact ⟨r + 1, by omega, by omega, by go_num, b7⟩
                case measure => simp [intOf]; omega

end Go.Proofs.Ytjcemoofnonlkaa
