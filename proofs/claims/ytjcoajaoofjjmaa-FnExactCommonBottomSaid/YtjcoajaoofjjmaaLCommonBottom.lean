/- The walk of the law CommonBottom. -/
import Derived.Test.YtjcoajaoofjjmaaRgt2
namespace Go.Proofs.Ytjcoajaoofjjmaa
set_option linter.unusedSimpArgs false
set_option linter.unusedVariables false
open Go.RowKit

set_option maxHeartbeats 1000000 in
theorem law_CommonBottom (a : Option Addr) (cap : Nat) (xs : List T3) (w : World) (hc : Rd3 w a xs) (hm : xs.length ≤ 9223372036854775807) :
    Calls Try.prog 6 #[.slice a xs.length cap] w fun e w' => Rets w (.bool true) e w' := by
  by_cases hn : xs.length ≤ 1048576
  · have hz0 : ((if xs.length ≤ 1048576 then 1048576 - (xs.length : Int) else -1)) = 1048576 - (xs.length : Int) := if_pos hn
    have hsz : ∀ W : World, Calls Try.prog 15 #[.slice a xs.length cap, .int .i64 1048576] W fun e w' => e = .returned (.int .i64 (1048576 - (xs.length : Int))) ∧ W = w' := fun W => by rw [← hz0]; exact szRightS_any a cap xs.length W hm
    clear hz0
    have HZ := hide hsz
    clear hsz
    have HS := hide (fun (a : Option Addr) (cap : Nat) (w : World) (hc : Rd3 w a xs) => specCommonBottom_any a cap xs w hc hn)
    have HI := hide (fun (a : Option Addr) (cap : Nat) (w : World) (hc : Rd3 w a xs) => implCommonBottom_any a cap xs w hc hn)
    have hln : ¬ (1048576 - (xs.length : Int)) < 0 := by omega
    go_enter Try.func6, Try.ntmps6
    go_wp2_with fail
    go_at_call 15
    refine (HZ.out _).mono ?_
    rintro e w' ⟨rfl, rfl⟩
    go_wp2_with fail
    refine (toRightS_any a cap xs w hc hn).mono ?_
    rintro e w1 ⟨g1, hg1, rfl, ho1, hb1⟩
    go_wp2_with fail
    refine (HS.out _ _ _ ho1.rd3).mono ?_
    rintro e w1' ⟨rfl, hb1'⟩
    have hb1 := belT hb1 hb1'
    go_wp2_with fail
    refine (toRightS_any a cap xs w1' (hc.below hb1) hn).mono ?_
    rintro e w2 ⟨g2, hg2, rfl, ho2, hb2⟩
    have hb2 := belT hb1 hb2
    go_wp2_with fail
    refine (HI.out _ _ _ ho2.rd3).mono ?_
    rintro e w2' ⟨rfl, hb2'⟩
    have ho2 := ho2.below hb2'
    have hb2 := belT hb2 hb2'
    go_wp2_with fail
    refine (toRightS_any a cap xs w2' (hc.below hb2) hn).mono ?_
    rintro e w3 ⟨g3, hg3, rfl, ho3, hb3⟩
    go_wp2_with fail
    refine (eqRightS_any _ _ _ _ xs xs w3 (ho2.below hb3).rd3 ho3.rd3 hn).mono ?_
    rintro e w4 ⟨rfl, hb4⟩
    have hb4 := belT (belT hb2 hb3) hb4
    go_wp2
    all_goals go_ret
    all_goals exact ⟨rfl, by assumption⟩
  · have hz0 : ((if xs.length ≤ 1048576 then 1048576 - (xs.length : Int) else -1)) = -1 := if_neg hn
    have hsz : ∀ W : World, Calls Try.prog 15 #[.slice a xs.length cap, .int .i64 1048576] W fun e w' => e = .returned (.int .i64 (-1)) ∧ W = w' := fun W => by rw [← hz0]; exact szRightS_any a cap xs.length W hm
    clear hz0
    have HZ := hide hsz
    clear hsz
    go_enter Try.func6, Try.ntmps6
    go_wp2_with fail
    go_at_call 15
    refine (HZ.out _).mono ?_
    rintro e w' ⟨rfl, rfl⟩
    go_wp2
    all_goals go_ret
    all_goals exact ⟨rfl, (by repeat first | exact Below.refl _ _ | assumption | (refine belA ?_) | (refine belD ?_) | (refine belN ?_) | (refine belS ?_ (by simp <;> omega)) | (refine belT ?_ (by assumption)))⟩

end Go.Proofs.Ytjcoajaoofjjmaa
