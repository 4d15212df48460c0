/- The walk of the law Proportional. -/
import Derived.Test.YtjcemoofnonlkaaProp2
namespace Go.Proofs.Ytjcemoofnonlkaa
set_option linter.unusedSimpArgs false
set_option linter.unusedVariables false
open Go.RowKit

theorem propM_length (xs : List Int) (water : Int) (hn : xs.length ≤ 1048576) : (propM xs water).length ≤ 1048576 := by
  unfold propM; split
  · split
    · exact hn
    · rw [propGo_length]; exact hn
  · simp

set_option maxHeartbeats 1000000 in
theorem law_Proportional (a : Option Addr) (cap : Nat) (xs : List Int) (water : Int)  (w : World) (hc : Rd w a xs) :
    Calls Try.prog 12 #[.slice a xs.length cap, .int .i64 water] w fun e w' => Rets w (.bool true) e w' := by
  by_cases hn : xs.length ≤ 1048576
  · have hR : (propM xs water).length ≤ 1048576 := (propM_length xs water hn)
    have HS := hide (fun (a : Option Addr) (cap : Nat) (w : World) (hc : Rd w a xs) => specProportional_any a cap xs water w hc hn)
    have HI := hide (fun (a : Option Addr) (cap : Nat) (w : World) (hc : Rd w a xs) => implProportional_any a cap xs water w hc hn)
    generalize propM xs water = R at *
    go_enter Try.func12, Try.ntmps12
    go_wp2_with fail
    refine (toIntS_any a cap xs w hc hn).mono ?_
    rintro e w1 ⟨g1, hg1, rfl, ho1, hb1⟩
    go_wp2_with fail
    refine (HS.out _ _ _ ho1.rd).mono ?_
    rintro e w2 ⟨v2, rfl, hown2, hb2⟩
    obtain ⟨a2, c2, rfl, hr2⟩ := hown2.slice
    have hl2 : ∀ x, a2 = some x → x.block < w2.heap.size := fun x hx => (hown2.lt x.block (by rw [hx]; rfl)).2
    clear hown2
    have hs2 := hb2.size
    go_wp2_with fail
    refine (toIntS_any a cap xs w2 (hc.below (belT hb1 hb2)) hn).mono ?_
    rintro e w3 ⟨g3, hg3, rfl, ho3, hb3⟩
    have hs3 := hb3.size
    go_wp2_with fail
    refine (HI.out _ _ _ ho3.rd).mono ?_
    rintro e w4 ⟨v4, rfl, hown4, hb4⟩
    have b4 := belT (belT (belT hb1 hb2) hb3) hb4
    have r24 := (hr2.below hb3).below hb4
    have hs4 := hb4.size
    have hg3w : w.heap.size ≤ g3 := by have := (belT hb1 hb2).size; omega
    have hg33 := ho3.lt
    rcases hown4.cases with ⟨rfl, hR0⟩ | ⟨g4, c4, rfl, hg4, ho4⟩
    · subst hR0
      go_wp2_with fail
      refine (eqIntS_any none a2 0 c2 [] [] w4 (fun j hj => by simp at hj) r24 (by simp)).mono ?_
      rintro e w5 ⟨rfl, hb5⟩
      go_wp2_with fail
      have b5 := belT b4 hb5
      refine (toIntS_any a cap xs w5 (hc.below b5) hn).mono ?_
      rintro e w6 ⟨g6, hg6, rfl, ho6, hb6⟩
      go_wp2_with fail
      have b6 := belT b5 hb6
      have o36 := ((ho3.below hb4).below hb5).below hb6
      refine (eqIntS_any _ _ _ _ xs xs w6 o36.rd ho6.rd hn).mono ?_
      rintro e w7 ⟨rfl, hb7⟩
      go_wp2_with fail
      have o37 := o36.below hb7
      have b7 := belT b6 hb7
      refine (markIntS_any g3 _ _ xs 1 w7 o37.ownP hn (by omega) (by omega)).mono ?_
      rintro e w8 ⟨rfl, hm8, hgr8⟩
      have b8 := belG b7 hgr8 hg3w
      go_wp2_with fail
      refine (eqIntS_any none a2 0 c2 [] [] w8 (fun j hj => by simp at hj) (fun j hj => by simp at hj) (by simp)).mono ?_
      rintro e w9 ⟨rfl, hb9⟩
      have b9 := belT b8 hb9
      go_wp2_with fail
      refine (markIntS_nil 1 w9 0 none).mono ?_
      rintro e w9' ⟨rfl, rfl⟩
      go_wp2_with fail
      refine (heldIntS_any none 0 0 1 w9 (fun j hj => by simp [fromI] at hj) (by omega) (by omega) (by omega)).mono ?_
      rintro e w9' ⟨rfl, rfl⟩
      go_wp2_with fail
      refine (toIntS_any a cap xs w9 (hc.below b9) hn).mono ?_
      rintro e w10 ⟨g10, hg10, rfl, ho10, hb10⟩
      have b10 := belT b9 hb10
      go_wp2_with fail
      refine (HI.out _ _ _ ho10.rd).mono ?_
      rintro e w11 ⟨v11, rfl, hown11, hb11⟩
      obtain ⟨a11, c11, rfl, hr11⟩ := hown11.slice
      have b11 := belT b10 hb11
      go_wp2_with fail
      refine (eqIntS_any a11 a2 c11 c2 [] [] w11 hr11 (fun j hj => by simp at hj) (by simp)).mono ?_
      rintro e w12 ⟨rfl, hb12⟩
      have b12 := belT b11 hb12
      go_wp2_with fail
      refine (heldIntS_any none 0 0 1 w12 (fun j hj => by simp [fromI] at hj) (by omega) (by omega) (by omega)).mono ?_
      rintro e w12' ⟨rfl, rfl⟩
      go_wp2
      all_goals go_ret
      all_goals exact ⟨rfl, by assumption⟩
    · have hg43 : g3 ≠ g4 := by omega
      have hg4w : w.heap.size ≤ g4 := by omega
      have n23 : ∀ x, a2 = some x → x.block ≠ g3 := fun x hx => by have := hl2 x hx; omega
      have n24 : ∀ x, a2 = some x → x.block ≠ g4 := fun x hx => by have := hl2 x hx; omega
      clear hl2
      go_wp2_with fail
      refine (eqIntS_any _ a2 _ c2 R R w4 ho4.rd r24 hR).mono ?_
      rintro e w5 ⟨rfl, hb5⟩
      go_wp2_with fail
      have b5 := belT b4 hb5
      refine (toIntS_any a cap xs w5 (hc.below b5) hn).mono ?_
      rintro e w6 ⟨g6, hg6, rfl, ho6, hb6⟩
      go_wp2_with fail
      have b6 := belT b5 hb6
      have o36 := ((ho3.below hb4).below hb5).below hb6
      refine (eqIntS_any _ _ _ _ xs xs w6 o36.rd ho6.rd hn).mono ?_
      rintro e w7 ⟨rfl, hb7⟩
      go_wp2_with fail
      have o37 := o36.below hb7
      have b7 := belT b6 hb7
      have o47 := ((ho4.below hb5).below hb6).below hb7
      have r27 := ((r24.below hb5).below hb6).below hb7
      refine (markIntS_any g3 _ _ xs 1 w7 o37.ownP hn (by omega) (by omega)).mono ?_
      rintro e w8 ⟨rfl, hm8, hgr8⟩
      have b8 := belG b7 hgr8 hg3w
      have o48 := o47.grown hgr8 (Ne.symm hg43)
      have r28 := rd_grown r27 hgr8 n23
      go_wp2_with fail
      refine (eqIntS_any _ a2 _ c2 R R w8 o48.rd r28 hR).mono ?_
      rintro e w9 ⟨rfl, hb9⟩
      have b9 := belT b8 hb9
      have r29 := r28.below hb9
      go_wp2_with fail
      refine (markIntS_any g4 _ _ R 1 w9 (o48.below hb9) hR (by omega) (by omega)).mono ?_
      rintro e w10 ⟨rfl, hm10, hgr10⟩
      have b10 := belG b9 hgr10 hg4w
      have r210 := rd_grown r29 hgr10 n24
      go_wp2_with fail
      refine (heldIntS_any _ _ R.length 1 w10 hm10.rd hR (by omega) (by omega)).mono ?_
      rintro e w10' ⟨rfl, rfl⟩
      go_wp2_with fail
      refine (toIntS_any a cap xs w10 (hc.below b10) hn).mono ?_
      rintro e w11 ⟨g11, hg11, rfl, ho11, hb11⟩
      have b11 := belT b10 hb11
      go_wp2_with fail
      refine (HI.out _ _ _ ho11.rd).mono ?_
      rintro e w12 ⟨v12, rfl, hown12, hb12⟩
      obtain ⟨a12, c12, rfl, hr12⟩ := hown12.slice
      have b12 := belT b11 hb12
      go_wp2_with fail
      refine (eqIntS_any a12 a2 c12 c2 R R w12 hr12 ((r210.below hb11).below hb12) hR).mono ?_
      rintro e w13 ⟨rfl, hb13⟩
      have b13 := belT b12 hb13
      go_wp2_with fail
      refine (heldIntS_any _ _ R.length 1 w13 (((hm10.below hb11).below hb12).below hb13).rd hR (by omega) (by omega)).mono ?_
      rintro e w13' ⟨rfl, rfl⟩
      go_wp2
      all_goals go_ret
      all_goals exact ⟨rfl, by assumption⟩
  · go_enter Try.func12, Try.ntmps12
    go_wp2
    all_goals go_ret
    all_goals exact ⟨rfl, (by repeat first | exact Below.refl _ _ | assumption | (refine belA ?_) | (refine belD ?_) | (refine belN ?_) | (refine belS ?_ (by simp <;> omega)) | (refine belT ?_ (by assumption)))⟩

end Go.Proofs.Ytjcemoofnonlkaa
