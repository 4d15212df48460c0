/- The walk of the law SellShare. -/
import Derived.Test.YtjcoajaoofjjmaaSps3
import Derived.Test.YtjcoajaoofjjmaaSell2
import Derived.Test.YtjcoajaoofjjmaaT3r
import Derived.Deep.DeepCutAuto
import Derived.Deep.RegionHeld3
import Derived.Test.YtjcoajaoofjjmaaT3b
namespace Go.Proofs.Ytjcoajaoofjjmaa
set_option linter.unusedSimpArgs false
set_option linter.unusedVariables false
open Go.RowKit

def sellL (xs : List T3) (f tw p q : Int) : List T3 := (sellM xs f tw p q).getD xs
def sellB (xs : List T3) (f tw p q : Int) : Bool := (sellM xs f tw p q).isSome
theorem okM_length {us : Option (List T3)} {vs : List T3} (h : okM us = some vs) : vs.length ≤ 12 := by
  unfold okM at h
  split at h
  · split at h
    · rename_i hr; injection h with h; subst h; exact (rights_parts hr).2.1
    · cases h
  · cases h
theorem sellL_length (xs : List T3) (f tw p q : Int) (hn : xs.length ≤ 1048576) : (sellL xs f tw p q).length ≤ 1048576 := by
  unfold sellL
  cases h : sellM xs f tw p q with
  | none => exact hn
  | some vs =>
    have : vs.length ≤ 12 := by
      unfold sellM at h
      split at h
      · split at h
        · exact okM_length h
        · cases h
      · cases h
    simp; omega

set_option maxRecDepth 100000 in
set_option maxHeartbeats 2000000 in
theorem law_SellShare (a : Option Addr) (cap : Nat) (xs : List T3) (f tw p q : Int) (w : World) (hc : Rd3 w a xs) (hm : xs.length ≤ 9223372036854775807) :
    Calls Try.prog 11 #[.slice a xs.length cap, .int .i64 f, .int .i64 tw, .agg #[.int .i64 p, .int .i64 q]] w fun e w' => Rets w (.bool true) e w' := by
  by_cases hn : xs.length ≤ 1048576
  · have hz0 : ((if xs.length ≤ 1048576 then 1048576 - (xs.length : Int) else -1)) = 1048576 - (xs.length : Int) := if_pos hn
    have hsz : ∀ W : World, Calls Try.prog 15 #[.slice a xs.length cap, .int .i64 1048576] W fun e w' => e = .returned (.int .i64 (1048576 - (xs.length : Int))) ∧ W = w' := fun W => by rw [← hz0]; exact szRightS_any a cap xs.length W hm
    clear hz0
    have HZ := hide hsz
    clear hsz
    have hR : (sellL xs f tw p q).length ≤ 1048576 := (sellL_length xs f tw p q hn)
    have HS := hide (fun (ad : Addr) (cap : Nat) (w : World) (hc : Rd3 w (some ad) xs) => show Calls Try.prog 39 #[.slice (some ad) xs.length cap, .int .i64 f, .int .i64 tw, .agg #[.int .i64 p, .int .i64 q]] w (GivesT 56 (sellL xs f tw p q) (sellB xs f tw p q) w) from specSell_any (some ad) cap xs f tw p q w hc hn)
    have HI := hide (fun (ad : Addr) (cap : Nat) (w : World) (hc : Rd3 w (some ad) xs) => show Calls Try.prog 41 #[.slice (some ad) xs.length cap, .int .i64 f, .int .i64 tw, .agg #[.int .i64 p, .int .i64 q]] w (GivesT 56 (sellL xs f tw p q) (sellB xs f tw p q) w) from implSell_any (some ad) cap xs f tw p q w hc hn)
    generalize sellB xs f tw p q = okb at *
    generalize sellL xs f tw p q = R at *
    have hln : ¬ (1048576 - (xs.length : Int)) < 0 := by omega
    go_enter Try.func11, Try.ntmps11
    go_wp2_with fail
    go_at_call 15
    refine (HZ.out _).mono ?_
    rintro e w' ⟨rfl, rfl⟩
    have hB0 := blk_new w #[.int .i64 p, .int .i64 q] 42
    have bW0 : Below w.heap.size w (w.alloc (.cells #[.int .i64 p, .int .i64 q] 42)) := (Below.refl _ _).alloc (Nat.le_refl _) _
    have hW0s : (w.alloc (.cells #[.int .i64 p, .int .i64 q] 42)).heap.size = w.heap.size + 1 := World.size_alloc _ _
    generalize hW0 : w.alloc (.cells #[.int .i64 p, .int .i64 q] 42) = W0 at *
    have hc0 := hc.below bW0
    clear hW0
    have x0 := cell_of_block hB0 0
    have x1 := cell_of_block hB0 1
    simp at x0 x1
    have hb0 : w.heap.size < W0.heap.size := by omega
    go_upto_region 5 with fail
    go_cut [10, 11] (fun v b wx => ∃ (a2 : Option Addr) (c2 : Nat), v = .slice a2 R.length c2 ∧ b = .bool okb ∧ Hid (Rd3 wx a2 R) ∧ Hid (Below W0.heap.size W0 wx) ∧ Hid (∀ x, a2 = some x → x.block < wx.heap.size))
    case first =>
      go_region_held3 (fun w' => w'.cell? ⟨w.heap.size, 0, none⟩ = some (.int .i64 p) ∧ w'.cell? ⟨w.heap.size, 1, none⟩ = some (.int .i64 q)) (first | go_keep | exact ⟨cellB hbS x0, cellB hbS x1⟩ | exact ⟨cellB hbF x0, cellB hbF x1⟩ | exact ⟨cellB hbR x0, cellB hbR x1⟩) (first
        | (go_at_call 39; refine (HS.out _ _ _ (ho1.below hbf).rd3).mono ?_; rintro e w2 ⟨v2, rfl, hown2, hb2⟩; have hbS : Below W0.heap.size W0 w2 := belT hbF hb2; obtain ⟨a2, c2, rfl, hr2, hl2⟩ := hown2.slice)
        | (go_at_call 40; refine (toFraction_any p q _).mono ?_; rintro e wf ⟨rfl, hbf⟩; have hbF : Below W0.heap.size W0 wf := belT hbR hbf)
        | (go_at_call 17; refine (toRightS_any a cap xs _ (hc0.below (belD (Below.refl _ _))) hn).mono ?_; rintro e w1 ⟨g1, hg1, rfl, ho1, hb1⟩; have hbR : Below W0.heap.size W0 w1 := belT (belD (Below.refl _ _)) hb1))
      have hl2' := fun x hx => (hl2 x hx).2
      clear hl2 hown2 hb1 hbf hb2 ho1
      go_wp2
      go_meet
      case rel => exact ⟨a2, c2, rfl, rfl, hr2, hbS, hl2'⟩
    case rest =>
    obtain ⟨a2, c2, rfl, rfl, HR2, HB2, HL2⟩ := hcut
    have b2 : Below W0.heap.size W0 wc := HB2.out
    have hc := hc0
    have hB2 := heap_grow hB0 HB2.out
    have hr2 : Rd3 wc a2 R := HR2.out
    have hl2 : ∀ x, a2 = some x → x.block < wc.heap.size := HL2.out
    have hs2 := b2.size
    clear HR2 HB2 HL2 x0 x1
    go_wp2_with fail
    refine (toRightS_any a cap xs wc (hc.below b2) hn).mono ?_
    rintro e w3 ⟨g3, hg3, rfl, ho3, hb3⟩
    have b3 := belT b2 hb3
    have hs3 := hb3.size
    have r23 := hr2.below hb3
    have hB3 := heap_grow hB2 hb3
    have x0 := cell_of_block hB3 0
    have x1 := cell_of_block hB3 1
    simp at x0 x1
    go_wp2_with fail
    refine (toFraction_any p q _).mono ?_
    rintro e w3f ⟨rfl, hbf⟩
    have hfz := hbf.size
    have ho3 := ho3.below hbf
    have r23 := r23.below hbf
    have b3 := belT b3 hbf
    have hB3 := heap_grow hB3 hbf
    clear x0 x1
    go_wp2_with fail
    refine (HI.out _ _ _ ho3.rd3).mono ?_
    rintro e w4 ⟨v4, rfl, hown4, hb4⟩
    have b4 := belT b3 hb4
    have r24 := r23.below hb4
    have hs4 := hb4.size
    have hg3w : W0.heap.size ≤ g3 := by have := b2.size; omega
    have hg33 := ho3.lt
    have o34 := ho3.below hb4
    clear hb3 hb4 ho3 hr2 r23
    rcases hown4 with ⟨rfl, hR0⟩ | ⟨g4, c4, rfl, hg4, ho4⟩
    · subst hR0
      go_wp2_with fail
      refine (eqRightS_any none a2 0 c2 [] [] w4 (fun j hj => by simp at hj) r24 (by simp)).mono ?_
      rintro e w5 ⟨rfl, hb5⟩
      have b5 := belT b4 hb5
      have o35 := o34.below hb5
      clear o34 b4 hb5
      go_wp2_with fail
      refine (toRightS_any a cap xs w5 (hc.below b5) hn).mono ?_
      rintro e w6 ⟨g6, hg6, rfl, ho6, hb6⟩
      have b6 := belT b5 hb6
      have o36 := o35.below hb6
      clear o35 b5 hb6
      go_wp2_with fail
      refine (eqRightS_any _ _ _ _ xs xs w6 o36.rd3 ho6.rd3 hn).mono ?_
      rintro e w7 ⟨rfl, hb7⟩
      have b7 := belT b6 hb7
      have o37 := o36.below hb7
      clear o36 b6 hb7 ho6
      go_wp2_with fail
      refine (markRightS_any g3 _ xs.length _ (flat xs) 1 w7 o37 (flat_length _) hn (by omega) (by omega)).mono ?_
      rintro e w8 ⟨rfl, hm8, hgr8⟩
      have b8 := belG b7 hgr8 hg3w
      clear hm8 hgr8 b7 o37
      go_wp2_with fail
      refine (eqRightS_any none a2 0 c2 [] [] w8 (fun j hj => by simp at hj) (fun j hj => by simp at hj) (by simp)).mono ?_
      rintro e w9 ⟨rfl, hb9⟩
      have b9 := belT b8 hb9
      clear b8 hb9
      go_wp2_with fail
      refine (markRightS_nil 1 w9 0 none).mono ?_
      rintro e w9' ⟨rfl, rfl⟩
      go_wp2_with fail
      refine (heldRightS_any none 0 0 1 w9 (fun j hj => by simp [fromI] at hj) (by omega) (by omega) (by omega)).mono ?_
      rintro e w9' ⟨rfl, rfl⟩
      have hBz := heap_grow hB0 b9
      have z0 := cell_of_block hBz 0
      have z1 := cell_of_block hBz 1
      simp at z0 z1
      have hzl : w.heap.size < w9.heap.size := (Array.getElem?_eq_some_iff.1 hBz).1
      have hcz := hc.below b9
      clear hBz
      go_wp2
      go_region_held3 (fun w' => w'.cell? ⟨w.heap.size, 0, none⟩ = some (.int .i64 p) ∧ w'.cell? ⟨w.heap.size, 1, none⟩ = some (.int .i64 q)) (first | go_keep | exact ⟨cellB hbS z0, cellB hbS z1⟩ | exact ⟨cellB hbF z0, cellB hbF z1⟩ | exact ⟨cellB hbR z0, cellB hbR z1⟩) (first
        | (go_at_call 41; refine (HI.out _ _ _ (hoz.below hbf).rd3).mono ?_; rintro e w11 ⟨vz, rfl, hownz, hbz⟩; have hbS : Below w9.heap.size w9 w11 := belT hbF hbz; obtain ⟨a11, c11, rfl, hr11, _⟩ := hownz.slice)
        | (go_at_call 40; refine (toFraction_any p q _).mono ?_; rintro e wf ⟨rfl, hbf⟩; have hbF : Below w9.heap.size w9 wf := belT hbR hbf)
        | (go_at_call 17; refine (toRightS_any a cap xs _ (hcz.below (belD (Below.refl _ _))) hn).mono ?_; rintro e wz ⟨gz, hgz, rfl, hoz, hbz1⟩; have hbR : Below w9.heap.size w9 wz := belT (belD (Below.refl _ _)) hbz1))
      have b11 := belT b9 hbS
      clear b9 hbS hbF hbR hbf hbz hbz1 hoz hownz z0 z1 hcz
      go_wp2_with fail
      refine (eqRightS_any a11 a2 c11 c2 [] [] w11 hr11 (fun j hj => by simp at hj) (by simp)).mono ?_
      rintro e w12 ⟨rfl, hb12⟩
      have b12 := belT b11 hb12
      go_wp2_with fail
      refine (heldRightS_any none 0 0 1 w12 (fun j hj => by simp [fromI] at hj) (by omega) (by omega) (by omega)).mono ?_
      rintro e w12' ⟨rfl, rfl⟩
      go_wp2
      all_goals go_ret
      all_goals exact ⟨rfl, belT bW0 (by assumption)⟩
    · have hg43 : g3 ≠ g4 := by omega
      have hg4w : W0.heap.size ≤ g4 := by omega
      have n23 : ∀ x, a2 = some x → x.block ≠ g3 := fun x hx => by have := hl2 x hx; omega
      have n24 : ∀ x, a2 = some x → x.block ≠ g4 := fun x hx => by have := hl2 x hx; omega
      clear hl2
      go_wp2_with fail
      refine (eqRightS_any _ a2 _ c2 R R w4 ho4.rd3 r24 hR).mono ?_
      rintro e w5 ⟨rfl, hb5⟩
      have b5 := belT b4 hb5
      have o35 := o34.below hb5
      have o45 := ho4.below hb5
      have r25 := r24.below hb5
      clear b4 o34 ho4 r24 hb5
      go_wp2_with fail
      refine (toRightS_any a cap xs w5 (hc.below b5) hn).mono ?_
      rintro e w6 ⟨g6, hg6, rfl, ho6, hb6⟩
      have b6 := belT b5 hb6
      have o36 := o35.below hb6
      have o46 := o45.below hb6
      have r26 := r25.below hb6
      clear b5 o35 o45 r25 hb6
      go_wp2_with fail
      refine (eqRightS_any _ _ _ _ xs xs w6 o36.rd3 ho6.rd3 hn).mono ?_
      rintro e w7 ⟨rfl, hb7⟩
      have b7 := belT b6 hb7
      have o37 := o36.below hb7
      have o47 := o46.below hb7
      have r27 := r26.below hb7
      clear b6 o36 o46 r26 hb7 ho6
      go_wp2_with fail
      refine (markRightS_any g3 _ xs.length _ (flat xs) 1 w7 o37 (flat_length _) hn (by omega) (by omega)).mono ?_
      rintro e w8 ⟨rfl, hm8, hgr8⟩
      have b8 := belG b7 hgr8 hg3w
      have o48 := o47.grown hgr8 (Ne.symm hg43)
      have r28 := rd3_grown r27 hgr8 n23
      clear b7 o37 o47 r27 hm8 hgr8
      go_wp2_with fail
      refine (eqRightS_any _ a2 _ c2 R R w8 o48.rd3 r28 hR).mono ?_
      rintro e w9 ⟨rfl, hb9⟩
      have b9 := belT b8 hb9
      have r29 := r28.below hb9
      have o49 := o48.below hb9
      clear b8 r28 o48 hb9
      go_wp2_with fail
      refine (markRightS_any g4 _ R.length _ (flat R) 1 w9 o49 (flat_length _) hR (by omega) (by omega)).mono ?_
      rintro e w10 ⟨rfl, hm10, hgr10⟩
      have b10 := belG b9 hgr10 hg4w
      have r210 := rd3_grown r29 hgr10 n24
      clear b9 r29 o49 hgr10
      go_wp2_with fail
      refine (heldRightS_any _ _ R.length 1 w10 hm10.rd hR (by omega) (by omega)).mono ?_
      rintro e w10' ⟨rfl, rfl⟩
      have hBz := heap_grow hB0 b10
      have z0 := cell_of_block hBz 0
      have z1 := cell_of_block hBz 1
      simp at z0 z1
      have hzl : w.heap.size < w10.heap.size := (Array.getElem?_eq_some_iff.1 hBz).1
      have hcz := hc.below b10
      clear hBz
      go_wp2
      go_region_held3 (fun w' => w'.cell? ⟨w.heap.size, 0, none⟩ = some (.int .i64 p) ∧ w'.cell? ⟨w.heap.size, 1, none⟩ = some (.int .i64 q)) (first | go_keep | exact ⟨cellB hbS z0, cellB hbS z1⟩ | exact ⟨cellB hbF z0, cellB hbF z1⟩ | exact ⟨cellB hbR z0, cellB hbR z1⟩) (first
        | (go_at_call 41; refine (HI.out _ _ _ (hoz.below hbf).rd3).mono ?_; rintro e w12 ⟨vz, rfl, hownz, hbz⟩; have hbS : Below w10.heap.size w10 w12 := belT hbF hbz; obtain ⟨a12, c12, rfl, hr12, _⟩ := hownz.slice)
        | (go_at_call 40; refine (toFraction_any p q _).mono ?_; rintro e wf ⟨rfl, hbf⟩; have hbF : Below w10.heap.size w10 wf := belT hbR hbf)
        | (go_at_call 17; refine (toRightS_any a cap xs _ (hcz.below (belD (Below.refl _ _))) hn).mono ?_; rintro e wz ⟨gz, hgz, rfl, hoz, hbz1⟩; have hbR : Below w10.heap.size w10 wz := belT (belD (Below.refl _ _)) hbz1))
      have b12 := belT b10 hbS
      have r212 := r210.below hbS
      have m12 := hm10.below hbS
      clear b10 r210 hm10 hbS hbF hbR hbf hbz hbz1 hoz hownz z0 z1 hcz
      go_wp2_with fail
      refine (eqRightS_any a12 a2 c12 c2 R R w12 hr12 r212 hR).mono ?_
      rintro e w13 ⟨rfl, hb13⟩
      have b13 := belT b12 hb13
      have m13 := m12.below hb13
      clear b12 r212 m12 hb13
      go_wp2_with fail
      refine (heldRightS_any _ _ R.length 1 w13 m13.rd hR (by omega) (by omega)).mono ?_
      rintro e w13' ⟨rfl, rfl⟩
      go_wp2
      all_goals go_ret
      all_goals exact ⟨rfl, belT bW0 (by assumption)⟩
  · have hz0 : ((if xs.length ≤ 1048576 then 1048576 - (xs.length : Int) else -1)) = -1 := if_neg hn
    have hsz : ∀ W : World, Calls Try.prog 15 #[.slice a xs.length cap, .int .i64 1048576] W fun e w' => e = .returned (.int .i64 (-1)) ∧ W = w' := fun W => by rw [← hz0]; exact szRightS_any a cap xs.length W hm
    clear hz0
    have HZ := hide hsz
    clear hsz
    go_enter Try.func11, Try.ntmps11
    go_wp2_with fail
    go_at_call 15
    refine (HZ.out _).mono ?_
    rintro e w' ⟨rfl, rfl⟩
    go_wp2
    all_goals go_ret
    all_goals exact ⟨rfl, (by repeat first | exact Below.refl _ _ | assumption | (refine belA ?_) | (refine belD ?_) | (refine belN ?_) | (refine belS ?_ (by simp <;> omega)) | (refine belT ?_ (by assumption)))⟩

end Go.Proofs.Ytjcoajaoofjjmaa
