/- The walks of the laws over claims and water whose results are numbers. -/
import Derived.Test.YtjcemoofnonlkaaDry
namespace Go.Proofs.Ytjcemoofnonlkaa
set_option linter.unusedSimpArgs false
set_option linter.unusedVariables false
open Go.RowKit

theorem law_ClaimsOk (a : Option Addr) (cap : Nat) (xs : List Int) (w : World) (hc : Rd w a xs) :
    Calls Try.prog 4 #[.slice a xs.length cap] w fun e w' => Rets w (.bool true) e w' := by
  by_cases hn : xs.length ≤ 1048576
  · go_enter Try.func4, Try.ntmps4
    go_wp2_with fail
    refine (toIntS_any a cap xs w hc hn).mono ?_
    rintro e w1 ⟨g1, hg1, rfl, ho1, hb1⟩
    go_wp2_with fail
    refine (specClaimsOk_any _ _ xs _ ho1.rd hn).mono ?_
    rintro e w1' ⟨rfl, rfl⟩
    go_wp2_with fail
    refine (toIntS_any a cap xs w1 (hc.below hb1) hn).mono ?_
    rintro e w2 ⟨g2, hg2, rfl, ho2, hb2⟩
    go_wp2_with fail
    refine (implClaimsOk_any _ _ xs _ ho2.rd hn).mono ?_
    rintro e w2' ⟨rfl, rfl⟩
    go_wp2_with fail
    refine (toIntS_any a cap xs w2 (hc.below (belT hb1 hb2)) hn).mono ?_
    rintro e w3 ⟨g3, hg3, rfl, ho3, hb3⟩
    go_wp2_with fail
    refine (eqIntS_any _ _ _ _ xs xs w3 (ho2.below hb3).rd ho3.rd hn).mono ?_
    rintro e w4 ⟨rfl, hb4⟩
    go_wp2
    all_goals go_ret
    all_goals exact ⟨rfl, (by repeat first | exact Below.refl _ _ | assumption | (refine belA ?_) | (refine belD ?_) | (refine belN ?_) | (refine belS ?_ (by simp <;> omega)) | (refine belT ?_ (by assumption)))⟩
  · go_enter Try.func4, Try.ntmps4
    go_wp2
    all_goals go_ret
    all_goals exact ⟨rfl, (by repeat first | exact Below.refl _ _ | assumption | (refine belA ?_) | (refine belD ?_) | (refine belN ?_) | (refine belS ?_ (by simp <;> omega)) | (refine belT ?_ (by assumption)))⟩

theorem law_GladFrom (a : Option Addr) (cap : Nat) (xs : List Int) (water : Int) (w : World) (hc : Rd w a xs) :
    Calls Try.prog 5 #[.slice a xs.length cap, .int .i64 water] w fun e w' => Rets w (.bool true) e w' := by
  by_cases hn : xs.length ≤ 1048576
  · go_enter Try.func5, Try.ntmps5
    go_wp2_with fail
    refine (toIntS_any a cap xs w hc hn).mono ?_
    rintro e w1 ⟨g1, hg1, rfl, ho1, hb1⟩
    go_wp2_with fail
    refine (specGladFrom_any _ _ xs water _ ho1.rd hn).mono ?_
    rintro e w1' ⟨rfl, rfl⟩
    go_wp2_with fail
    refine (toIntS_any a cap xs w1 (hc.below hb1) hn).mono ?_
    rintro e w2 ⟨g2, hg2, rfl, ho2, hb2⟩
    go_wp2_with fail
    refine (implGladFrom_any _ _ xs water _ ho2.rd hn).mono ?_
    rintro e w2' ⟨rfl, rfl⟩
    go_wp2_with fail
    refine (toIntS_any a cap xs w2 (hc.below (belT hb1 hb2)) hn).mono ?_
    rintro e w3 ⟨g3, hg3, rfl, ho3, hb3⟩
    go_wp2_with fail
    refine (eqIntS_any _ _ _ _ xs xs w3 (ho2.below hb3).rd ho3.rd hn).mono ?_
    rintro e w4 ⟨rfl, hb4⟩
    go_wp2
    all_goals go_ret
    all_goals exact ⟨rfl, (by repeat first | exact Below.refl _ _ | assumption | (refine belA ?_) | (refine belD ?_) | (refine belN ?_) | (refine belS ?_ (by simp <;> omega)) | (refine belT ?_ (by assumption)))⟩
  · go_enter Try.func5, Try.ntmps5
    go_wp2
    all_goals go_ret
    all_goals exact ⟨rfl, (by repeat first | exact Below.refl _ _ | assumption | (refine belA ?_) | (refine belD ?_) | (refine belN ?_) | (refine belS ?_ (by simp <;> omega)) | (refine belT ?_ (by assumption)))⟩

theorem law_MissingWater (a : Option Addr) (cap : Nat) (xs : List Int) (water : Int) (w : World) (hc : Rd w a xs) :
    Calls Try.prog 6 #[.slice a xs.length cap, .int .i64 water] w fun e w' => Rets w (.bool true) e w' := by
  by_cases hn : xs.length ≤ 1048576
  · go_enter Try.func6, Try.ntmps6
    go_wp2_with fail
    refine (toIntS_any a cap xs w hc hn).mono ?_
    rintro e w1 ⟨g1, hg1, rfl, ho1, hb1⟩
    go_wp2_with fail
    refine (specMissingWater_any _ _ xs water _ ho1.rd hn).mono ?_
    rintro e w1' ⟨rfl, rfl⟩
    go_wp2_with fail
    refine (toIntS_any a cap xs w1 (hc.below hb1) hn).mono ?_
    rintro e w2 ⟨g2, hg2, rfl, ho2, hb2⟩
    go_wp2_with fail
    refine (implMissingWater_any _ _ xs water _ ho2.rd hn).mono ?_
    rintro e w2' ⟨rfl, rfl⟩
    go_wp2_with fail
    refine (toIntS_any a cap xs w2 (hc.below (belT hb1 hb2)) hn).mono ?_
    rintro e w3 ⟨g3, hg3, rfl, ho3, hb3⟩
    go_wp2_with fail
    refine (eqIntS_any _ _ _ _ xs xs w3 (ho2.below hb3).rd ho3.rd hn).mono ?_
    rintro e w4 ⟨rfl, hb4⟩
    go_wp2
    all_goals go_ret
    all_goals exact ⟨rfl, (by repeat first | exact Below.refl _ _ | assumption | (refine belA ?_) | (refine belD ?_) | (refine belN ?_) | (refine belS ?_ (by simp <;> omega)) | (refine belT ?_ (by assumption)))⟩
  · go_enter Try.func6, Try.ntmps6
    go_wp2
    all_goals go_ret
    all_goals exact ⟨rfl, (by repeat first | exact Below.refl _ _ | assumption | (refine belA ?_) | (refine belD ?_) | (refine belN ?_) | (refine belS ?_ (by simp <;> omega)) | (refine belT ?_ (by assumption)))⟩

end Go.Proofs.Ytjcemoofnonlkaa
