/- The walk of the law SmallestShare. -/
import Derived.Test.YtjcoajaoofjjmaaRgt4
namespace Go.Proofs.Ytjcoajaoofjjmaa
set_option linter.unusedSimpArgs false
set_option linter.unusedVariables false
open Go.RowKit

set_option maxHeartbeats 1000000 in
theorem law_SmallestShare (a : Option Addr) (cap : Nat) (xs : List T3) (w : World) (hc : Rd3 w a xs) (hm : xs.length ≤ 9223372036854775807) :
    Calls Try.prog 8 #[.slice a xs.length cap] w fun e w' => Rets w (.bool true) e w' := by
  by_cases hn : xs.length ≤ 1048576
  · have hz0 : ((if xs.length ≤ 1048576 then 1048576 - (xs.length : Int) else -1)) = 1048576 - (xs.length : Int) := if_pos hn
    have hsz : ∀ W : World, Calls Try.prog 15 #[.slice a xs.length cap, .int .i64 1048576] W fun e w' => e = .returned (.int .i64 (1048576 - (xs.length : Int))) ∧ W = w' := fun W => by rw [← hz0]; exact szRightS_any a cap xs.length W hm
    clear hz0
    have HZ := hide hsz
    clear hsz
    have HS := hide (fun (a : Option Addr) (cap : Nat) (w : World) (hc : Rd3 w a xs) => specSmallestShare_any a cap xs w hc hn)
    have HI := hide (fun (a : Option Addr) (cap : Nat) (w : World) (hc : Rd3 w a xs) => implSmallestShare_any a cap xs w hc hn)
    generalize smallM xs = R at *
    have hln : ¬ (1048576 - (xs.length : Int)) < 0 := by omega
    go_enter Try.func8, Try.ntmps8
    go_wp2_with fail
    go_at_call 15
    refine (HZ.out _).mono ?_
    rintro e w' ⟨rfl, rfl⟩
    go_wp2_with fail
    refine (toRightS_any a cap xs w hc hn).mono ?_
    rintro e w1 ⟨g1, hg1, rfl, ho1, hb1⟩
    go_wp2_with fail
    refine (HS.out _ _ _ ho1.rd3).mono ?_
    rintro e w2 ⟨rfl, hb2⟩
    have b2 := belT hb1 hb2
    clear hb1 hb2 ho1
    go_wp2_with fail
    refine (toRightS_any a cap xs _ (hc.below (belA b2)) hn).mono ?_
    rintro e w3 ⟨g3, hg3, rfl, ho3, hb3⟩
    have b3 := belT (belA b2) hb3
    have kS := heap_grow (blk_new w2 _ _) hb3
    clear b2 hb3
    go_wp2_with fail
    refine (HI.out _ _ _ ho3.rd3).mono ?_
    rintro e w4 ⟨rfl, hb4⟩
    have b4 := belT b3 hb4
    have o4 := ho3.below hb4
    have kS4 := heap_grow kS hb4
    have hS4 : w2.heap.size < w4.heap.size := (Array.getElem?_eq_some_iff.1 kS4).1
    have s0 := cell_of_block kS4 0
    have s1 := cell_of_block kS4 1
    simp at s0 s1
    clear b3 hb4 ho3 kS
    go_wp2_with fail
    refine (eqFraction_any _ _ _ _ _).mono ?_
    rintro e w5 ⟨rfl, hb5⟩
    have b5 := belT (belA b4) hb5
    have o5 := (o4.below (belA (Below.refl _ _))).below hb5
    go_wp2_with fail
    refine (toRightS_any a cap xs _ (hc.below b5) hn).mono ?_
    rintro e w6 ⟨g6, hg6, rfl, ho6, hb6⟩
    have b6 := belT b5 hb6
    go_wp2_with fail
    refine (eqRightS_any _ _ _ _ xs xs w6 (o5.below hb6).rd3 ho6.rd3 hn).mono ?_
    rintro e w7 ⟨rfl, hb7⟩
    have b7 := belT b6 hb7
    go_wp2
    all_goals go_ret
    all_goals exact ⟨rfl, by assumption⟩
  · have hz0 : ((if xs.length ≤ 1048576 then 1048576 - (xs.length : Int) else -1)) = -1 := if_neg hn
    have hsz : ∀ W : World, Calls Try.prog 15 #[.slice a xs.length cap, .int .i64 1048576] W fun e w' => e = .returned (.int .i64 (-1)) ∧ W = w' := fun W => by rw [← hz0]; exact szRightS_any a cap xs.length W hm
    clear hz0
    have HZ := hide hsz
    clear hsz
    go_enter Try.func8, Try.ntmps8
    go_wp2_with fail
    go_at_call 15
    refine (HZ.out _).mono ?_
    rintro e w' ⟨rfl, rfl⟩
    go_wp2
    all_goals go_ret
    all_goals exact ⟨rfl, (by repeat first | exact Below.refl _ _ | assumption | (refine belA ?_) | (refine belD ?_) | (refine belN ?_) | (refine belS ?_ (by simp <;> omega)) | (refine belT ?_ (by assumption)))⟩

end Go.Proofs.Ytjcoajaoofjjmaa
