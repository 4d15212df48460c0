/- The walk of the law Divide. -/
import Derived.Test.YtjcoajaoofjjmaaDivLaw
import Derived.Test.YtjcoajaoofjjmaaT3b
namespace Go.Proofs.Ytjcoajaoofjjmaa
set_option linter.unusedSimpArgs false
set_option linter.unusedVariables false
open Go.RowKit

set_option maxHeartbeats 1000000 in
theorem law_Divide (a : Option Addr) (cap : Nat) (xs : List T3) (water : Int) (w : World) (hc : Rd3 w a xs) (hm : xs.length ≤ 9223372036854775807) :
    Calls Try.prog 10 #[.slice a xs.length cap, .int .i64 water] w fun e w' => Rets w (.bool true) e w' := by
  by_cases hn : xs.length ≤ 1048576
  · have hz0 : ((if xs.length ≤ 1048576 then 1048576 - (xs.length : Int) else -1)) = 1048576 - (xs.length : Int) := if_pos hn
    have hsz : ∀ W : World, Calls Try.prog 15 #[.slice a xs.length cap, .int .i64 1048576] W fun e w' => e = .returned (.int .i64 (1048576 - (xs.length : Int))) ∧ W = w' := fun W => by rw [← hz0]; exact szRightS_any a cap xs.length W hm
    clear hz0
    have HZ := hide hsz
    clear hsz
    have hR : (divM xs water).length ≤ 1048576 := (divM_length xs water hn)
    have HS := hide (fun (a : Option Addr) (cap : Nat) (w : World) (hc : Rd3 w a xs) => specDivide_any a cap xs water w hc hn)
    have HI := hide (fun (a : Option Addr) (cap : Nat) (w : World) (hc : Rd3 w a xs) => implDivide_any a cap xs water w hc hn)
    generalize divM xs water = R at *
    have hln : ¬ (1048576 - (xs.length : Int)) < 0 := by omega
    go_enter Try.func10, Try.ntmps10
    go_wp2_with fail
    go_at_call 15
    refine (HZ.out _).mono ?_
    rintro e w' ⟨rfl, rfl⟩
    go_wp2_with fail
    refine (toRightS_any a cap xs w hc hn).mono ?_
    rintro e w1 ⟨g1, hg1, rfl, ho1, hb1⟩
    go_wp2_with fail
    refine (HS.out _ _ _ ho1.rd3).mono ?_
    rintro e w2 ⟨v2, rfl, hown2, hb2⟩
    obtain ⟨a2, c2, rfl, hr2⟩ := hown2.slice
    have hl2 : ∀ x, a2 = some x → x.block < w2.heap.size := fun x hx => (hown2.lt x.block (by rw [hx]; rfl)).2
    clear hown2
    have b2 := belT hb1 hb2
    have hs2 := hb2.size
    go_wp2_with fail
    refine (toRightS_any a cap xs w2 (hc.below b2) hn).mono ?_
    rintro e w3 ⟨g3, hg3, rfl, ho3, hb3⟩
    have b3 := belT b2 hb3
    have hs3 := hb3.size
    have r23 := hr2.below hb3
    go_wp2_with fail
    refine (HI.out _ _ _ ho3.rd3).mono ?_
    rintro e w4 ⟨v4, rfl, hown4, hb4⟩
    have b4 := belT b3 hb4
    have r24 := r23.below hb4
    have hs4 := hb4.size
    have hg3w : w.heap.size ≤ g3 := by have := b2.size; omega
    have hg33 := ho3.lt
    have o34 := ho3.below hb4
    clear ho1 hb1 hb2 hb3 hb4 ho3 hr2 r23
    rcases hown4.cases with ⟨rfl, hR0⟩ | ⟨g4, c4, rfl, hg4, ho4⟩
    · subst hR0
      go_wp2_with fail
      refine (eqIntS_any none a2 0 c2 [] [] w4 (fun j hj => by simp at hj) r24 (by simp)).mono ?_
      rintro e w5 ⟨rfl, hb5⟩
      have b5 := belT b4 hb5
      have o35 := o34.below hb5
      clear o34 b4 hb5
      go_wp2_with fail
      refine (toRightS_any a cap xs w5 (hc.below b5) hn).mono ?_
      rintro e w6 ⟨g6, hg6, rfl, ho6, hb6⟩
      have b6 := belT b5 hb6
      have o36 := o35.below hb6
      clear o35 b5 hb6
      go_wp2_with fail
      refine (eqRightS_any _ _ _ _ xs xs w6 o36.rd3 ho6.rd3 hn).mono ?_
      rintro e w7 ⟨rfl, hb7⟩
      have b7 := belT b6 hb7
      have o37 := o36.below hb7
      clear o36 b6 hb7 ho6
      go_wp2_with fail
      refine (markRightS_any g3 _ xs.length _ (flat xs) 1 w7 o37 (flat_length _) hn (by omega) (by omega)).mono ?_
      rintro e w8 ⟨rfl, hm8, hgr8⟩
      have b8 := belG b7 hgr8 hg3w
      clear hm8 hgr8 b7 o37
      go_wp2_with fail
      refine (eqIntS_any none a2 0 c2 [] [] w8 (fun j hj => by simp at hj) (fun j hj => by simp at hj) (by simp)).mono ?_
      rintro e w9 ⟨rfl, hb9⟩
      have b9 := belT b8 hb9
      clear b8 hb9
      go_wp2_with fail
      refine (markIntS_nil 1 w9 0 none).mono ?_
      rintro e w9' ⟨rfl, rfl⟩
      go_wp2_with fail
      refine (heldIntS_any none 0 0 1 w9 (fun j hj => by simp [fromI] at hj) (by omega) (by omega) (by omega)).mono ?_
      rintro e w9' ⟨rfl, rfl⟩
      go_wp2_with fail
      refine (toRightS_any a cap xs w9 (hc.below b9) hn).mono ?_
      rintro e w10 ⟨g10, hg10, rfl, ho10, hb10⟩
      have b10 := belT b9 hb10
      go_wp2_with fail
      refine (HI.out _ _ _ ho10.rd3).mono ?_
      rintro e w11 ⟨v11, rfl, hown11, hb11⟩
      obtain ⟨a11, c11, rfl, hr11⟩ := hown11.slice
      have b11 := belT b10 hb11
      go_wp2_with fail
      refine (eqIntS_any a11 a2 c11 c2 [] [] w11 hr11 (fun j hj => by simp at hj) (by simp)).mono ?_
      rintro e w12 ⟨rfl, hb12⟩
      have b12 := belT b11 hb12
      go_wp2_with fail
      refine (heldIntS_any none 0 0 1 w12 (fun j hj => by simp [fromI] at hj) (by omega) (by omega) (by omega)).mono ?_
      rintro e w12' ⟨rfl, rfl⟩
      go_wp2
      all_goals go_ret
      all_goals exact ⟨rfl, by assumption⟩
    · have hg43 : g3 ≠ g4 := by omega
      have hg4w : w.heap.size ≤ g4 := by omega
      have n23 : ∀ x, a2 = some x → x.block ≠ g3 := fun x hx => by have := hl2 x hx; omega
      have n24 : ∀ x, a2 = some x → x.block ≠ g4 := fun x hx => by have := hl2 x hx; omega
      clear hl2
      go_wp2_with fail
      refine (eqIntS_any _ a2 _ c2 R R w4 ho4.rd r24 hR).mono ?_
      rintro e w5 ⟨rfl, hb5⟩
      have b5 := belT b4 hb5
      have o35 := o34.below hb5
      have o45 := ho4.below hb5
      have r25 := r24.below hb5
      clear b4 o34 ho4 r24 hb5
      go_wp2_with fail
      refine (toRightS_any a cap xs w5 (hc.below b5) hn).mono ?_
      rintro e w6 ⟨g6, hg6, rfl, ho6, hb6⟩
      have b6 := belT b5 hb6
      have o36 := o35.below hb6
      have o46 := o45.below hb6
      have r26 := r25.below hb6
      clear b5 o35 o45 r25 hb6
      go_wp2_with fail
      refine (eqRightS_any _ _ _ _ xs xs w6 o36.rd3 ho6.rd3 hn).mono ?_
      rintro e w7 ⟨rfl, hb7⟩
      have b7 := belT b6 hb7
      have o37 := o36.below hb7
      have o47 := o46.below hb7
      have r27 := r26.below hb7
      clear b6 o36 o46 r26 hb7 ho6
      go_wp2_with fail
      refine (markRightS_any g3 _ xs.length _ (flat xs) 1 w7 o37 (flat_length _) hn (by omega) (by omega)).mono ?_
      rintro e w8 ⟨rfl, hm8, hgr8⟩
      have b8 := belG b7 hgr8 hg3w
      have o48 := o47.grown hgr8 (Ne.symm hg43)
      have r28 := rd_grown r27 hgr8 n23
      clear b7 o37 o47 r27 hm8 hgr8
      go_wp2_with fail
      refine (eqIntS_any _ a2 _ c2 R R w8 o48.rd r28 hR).mono ?_
      rintro e w9 ⟨rfl, hb9⟩
      have b9 := belT b8 hb9
      have r29 := r28.below hb9
      have o49 := o48.below hb9
      clear b8 r28 o48 hb9
      go_wp2_with fail
      refine (markIntS_any g4 _ _ R 1 w9 o49 hR (by omega) (by omega)).mono ?_
      rintro e w10 ⟨rfl, hm10, hgr10⟩
      have b10 := belG b9 hgr10 hg4w
      have r210 := rd_grown r29 hgr10 n24
      clear b9 r29 o49 hgr10
      go_wp2_with fail
      refine (heldIntS_any _ _ R.length 1 w10 hm10.rd hR (by omega) (by omega)).mono ?_
      rintro e w10' ⟨rfl, rfl⟩
      go_wp2_with fail
      refine (toRightS_any a cap xs w10 (hc.below b10) hn).mono ?_
      rintro e w11 ⟨g11, hg11, rfl, ho11, hb11⟩
      have b11 := belT b10 hb11
      have r211 := r210.below hb11
      have m11 := hm10.below hb11
      clear b10 r210 hm10 hb11
      go_wp2_with fail
      refine (HI.out _ _ _ ho11.rd3).mono ?_
      rintro e w12 ⟨v12, rfl, hown12, hb12⟩
      obtain ⟨a12, c12, rfl, hr12⟩ := hown12.slice
      have b12 := belT b11 hb12
      have r212 := r211.below hb12
      have m12 := m11.below hb12
      clear b11 r211 m11 hb12 hown12
      go_wp2_with fail
      refine (eqIntS_any a12 a2 c12 c2 R R w12 hr12 r212 hR).mono ?_
      rintro e w13 ⟨rfl, hb13⟩
      have b13 := belT b12 hb13
      have m13 := m12.below hb13
      clear b12 r212 m12 hb13
      go_wp2_with fail
      refine (heldIntS_any _ _ R.length 1 w13 m13.rd hR (by omega) (by omega)).mono ?_
      rintro e w13' ⟨rfl, rfl⟩
      go_wp2
      all_goals go_ret
      all_goals exact ⟨rfl, by assumption⟩
  · have hz0 : ((if xs.length ≤ 1048576 then 1048576 - (xs.length : Int) else -1)) = -1 := if_neg hn
    have hsz : ∀ W : World, Calls Try.prog 15 #[.slice a xs.length cap, .int .i64 1048576] W fun e w' => e = .returned (.int .i64 (-1)) ∧ W = w' := fun W => by rw [← hz0]; exact szRightS_any a cap xs.length W hm
    clear hz0
    have HZ := hide hsz
    clear hsz
    go_enter Try.func10, Try.ntmps10
    go_wp2_with fail
    go_at_call 15
    refine (HZ.out _).mono ?_
    rintro e w' ⟨rfl, rfl⟩
    go_wp2
    all_goals go_ret
    all_goals exact ⟨rfl, (by repeat first | exact Below.refl _ _ | assumption | (refine belA ?_) | (refine belD ?_) | (refine belN ?_) | (refine belS ?_ (by simp <;> omega)) | (refine belT ?_ (by assumption)))⟩

end Go.Proofs.Ytjcoajaoofjjmaa
