/- The walk of the law TurnNet. -/
import Derived.Test.YtamadhdnblmfhaaTurnN3
import Derived.Test.YtamadhdnblmfhaaNetB
import Derived.Deep.RegionHeld3
namespace Go.Proofs.Ytamadhdnblmfhaa
set_option linter.unusedSimpArgs false
set_option linter.unusedVariables false
open Go.RowKit

theorem blk_grownTurnNet {w w' : World} {b g : Nat} {x : Obj} (h : w.heap[b]? = some x) (hb : w.grownBy w' (some g)) (hne : b ≠ g) : w'.heap[b]? = some x := by
  rw [hb.block b (Array.getElem?_eq_some_iff.1 h).1 (by simpa using hne)]; exact h

set_option maxRecDepth 100000 in
set_option maxHeartbeats 4000000 in
theorem law_TurnNet (p : Int) (a : Option Addr) (cap : Nat) (ts : List T3) (w : World) (hc : Rd3 w a ts) (hm : ts.length ≤ 9223372036854775807) :
    Calls Try.prog 10 #[.agg #[.int .i64 p, .slice a ts.length cap]] w fun e w' => Rets w (.bool true) e w' := by
  by_cases hn : ts.length ≤ 1048576
  case neg =>
    have hz0 : ((if ts.length ≤ 1048576 then 1048576 - (ts.length : Int) else -1)) = -1 := if_neg hn
    have HZ := hide (fun W : World => (show Calls Try.prog 25 #[.agg #[.int .i64 p, .slice a ts.length cap], .int .i64 1048576] W (Rets W (.int .i64 (-1))) by rw [← hz0]; exact szNet_any p a cap ts.length W hm))
    clear hz0
    go_enter Try.func10, Try.ntmps10
    go_wp2_with fail
    (with_reducible refine (HZ.out _).mono ?_)
    rintro e w1 ⟨rfl, hb1⟩
    have b1 := belT (belA (Below.refl w.heap.size w)) hb1
    go_wp2
    go_ret
    exact ⟨rfl, b1⟩
  have hz0 : ((if ts.length ≤ 1048576 then 1048576 - (ts.length : Int) else -1)) = 1048576 - (ts.length : Int) := if_pos hn
  have HZ := hide (fun W : World => (show Calls Try.prog 25 #[.agg #[.int .i64 p, .slice a ts.length cap], .int .i64 1048576] W (Rets W (.int .i64 (1048576 - (ts.length : Int)))) by rw [← hz0]; exact szNet_any p a cap ts.length W hm))
  clear hz0
  have hln : ¬ (1048576 - (ts.length : Int)) < 0 := by omega
  have hR : (turnM p ts).length ≤ 1048576 := by rw [turn_length]; exact hn
  have HS := hide (fun (a : Option Addr) (cap : Nat) (w : World) (hc : Rd3 w a ts) (hcap : ts.length ≤ cap) => specTurnNet_any p a cap ts w hc hn)
  have HI := hide (fun (a : Option Addr) (cap : Nat) (w : World) (hc : Rd3 w a ts) (hcap : ts.length ≤ cap) => implTurnNet_any p a cap ts w hc hn)
  generalize turnM p ts = R at *
  go_enter Try.func10, Try.ntmps10
  go_wp2_with fail
  (with_reducible refine (HZ.out _).mono ?_)
  rintro e w1 ⟨rfl, hb1⟩
  have b1 := belT (belA (Below.refl w.heap.size w)) hb1
  have k1 := heap_grow (blk_new w #[.int .i64 p, .slice a ts.length cap] 42) hb1
  have c10 := cell_of_block k1 0
  have c11 := cell_of_block k1 1
  simp at c10 c11
  clear hb1
  go_wp2_with fail
  refine (toNet_any p a cap ts w1 (hc.below b1) hn).mono ?_
  rintro e w2 ⟨g2, hg2, rfl, ho2, hb2⟩
  have b2 := belT b1 hb2
  have k2 := heap_grow k1 hb2
  clear k1 c10 c11 b1 hb2
  go_wp2_with fail
  refine (HS.out _ _ _ ho2.rd3 (Nat.le_refl _)).mono ?_
  rintro e w4 ⟨v2, rfl, hown2, hb4⟩
  obtain ⟨a2, c2, rfl, hr2, hl2⟩ := hown2.slice
  clear hown2
  have al4 : Below w4.heap.size w4 (w4.alloc (.cells #[.int .i64 p, .slice a2 R.length c2] 26)) := (Below.refl _ _).alloc (Nat.le_refl _) _
  have b4 := belA (o := .cells #[.int .i64 p, .slice a2 R.length c2] 26) (belT b2 hb4)
  have k4 := blk_alloc (o := .cells #[.int .i64 p, .slice a2 R.length c2] 26) (heap_grow k2 hb4)
  have N4 := blk_new w4 #[.int .i64 p, .slice a2 R.length c2] 26
  have r24 := hr2.below al4
  have kw4 : w.heap.size < w4.heap.size := (Array.getElem?_eq_some_iff.1 (heap_grow k2 hb4)).1
  have z4 : (w4.alloc (.cells #[.int .i64 p, .slice a2 R.length c2] 26)).heap.size = w4.heap.size + 1 := by simp
  have q0 := cell_of_block (heap_grow k2 hb4) 0
  have q1 := cell_of_block (heap_grow k2 hb4) 1
  simp at q0 q1
  have Z4 := hide z4
  clear k2 b2 hb4 ho2 hr2 al4 z4
  go_wp2_with fail
  refine (toNet_any p a cap ts _ (hc.below b4) hn).mono ?_
  rintro e w5 ⟨g5, hg5, rfl, ho5, hb5⟩
  rw [Z4.out] at hg5
  have b5 := belA (o := .cells #[.int .i64 p, .slice (some ⟨g5, 0, none⟩) ts.length ts.length] 26) (belT b4 hb5)
  have al5 : Below w5.heap.size w5 (w5.alloc (.cells #[.int .i64 p, .slice (some ⟨g5, 0, none⟩) ts.length ts.length] 26)) := (Below.refl _ _).alloc (Nat.le_refl _) _
  have k5 := blk_alloc (o := .cells #[.int .i64 p, .slice (some ⟨g5, 0, none⟩) ts.length ts.length] 26) (heap_grow k4 hb5)
  have N5 := blk_alloc (o := .cells #[.int .i64 p, .slice (some ⟨g5, 0, none⟩) ts.length ts.length] 26) (heap_grow N4 hb5)
  have n5 := blk_new w5 #[.int .i64 p, .slice (some ⟨g5, 0, none⟩) ts.length ts.length] 26
  have o5 := ho5.below al5
  have r25 := (r24.below hb5).below al5
  have hg5l : g5 < w5.heap.size := ho5.lt
  have n25 : ∀ x, a2 = some x → x.block ≠ g5 := fun x hx => by have := (hl2 x hx).2; omega
  have l25 : ∀ x, a2 = some x → x.block < w5.heap.size := fun x hx => by have := (hl2 x hx).2; omega
  have z5 : (w5.alloc (.cells #[.int .i64 p, .slice (some ⟨g5, 0, none⟩) ts.length ts.length] 26)).heap.size = w5.heap.size + 1 := by simp
  have Z5 := hide z5
  clear k4 N4 b4 hb5 ho5 al5 r24 hl2 z5 q0 q1 Z4
  go_wp2_with fail
  refine (HI.out _ _ _ o5.rd3 (Nat.le_refl _)).mono ?_
  rintro e w7 ⟨v7, rfl, hown7, hb7⟩
  have b7 := belT b5 hb7
  have k7 := heap_grow k5 hb7
  have N7 := heap_grow N5 hb7
  have n7 := heap_grow n5 hb7
  have o7 := o5.below hb7
  have r27 := r25.below hb7
  have z57 : w5.heap.size < w7.heap.size := (Array.getElem?_eq_some_iff.1 n7).1
  clear k5 N5 n5 o5 b5 hb7 r25
  generalize hB4 : w4.heap.size = B4 at *
  generalize hB5 : w5.heap.size = B5 at *
  have hpr : (v7 = .slice none 0 0 ∧ R = []) ∨ ∃ g7 c7, v7 = .slice (some ⟨g7, 0, none⟩) R.length c7 ∧ B5 < g7 ∧ OwnP w7 g7 37 (flat R) := by
    rcases hown7 with h | ⟨g7, c7, h1, h2, h3⟩
    · exact .inl h
    · exact .inr ⟨g7, c7, h1, by rw [Z5.out] at h2; omega, h3⟩
  clear hown7 Z5
  rcases hpr with ⟨rfl, hR0⟩ | ⟨g7, c7, rfl, hg7, ho7⟩
  · subst hR0
    clear l25
    have al7 : Below w7.heap.size w7 (w7.alloc (.cells #[.int .i64 p, .slice none 0 0] 26)) := (Below.refl _ _).alloc (Nat.le_refl _) _
    have b7' := belT b7 al7
    have k7' := heap_grow k7 al7
    have N7' := heap_grow N7 al7
    have n7' := heap_grow n7 al7
    have m7' := blk_new w7 #[.int .i64 p, .slice none 0 0] 26
    have o7' := o7.below al7
    have r27' := r27.below al7
    have z7' : w7.heap.size < (w7.alloc (.cells #[.int .i64 p, .slice none 0 0] 26)).heap.size := by simp
    have c70 := cell_of_block N7 0
    have c71 := cell_of_block N7 1
    simp at c70 c71
    have l45 : B4 < w7.heap.size := by omega
    clear b7 k7 N7 n7 o7 r27 al7
    go_wp2_with fail
    clear c70 c71
    generalize hB7 : w7.heap.size = B7 at *
    generalize w7.alloc (.cells #[.int .i64 p, .slice none 0 0] 26) = w7b at *
    refine (eqNet_any p p none a2 0 c2 [] [] w7b (fun j hj => by simp at hj) (fun j hj => by simp at hj) (by simp)).mono ?_
    rintro e w8 ⟨rfl, hb8⟩
    have b8 := belT b7' hb8
    have k8 := heap_grow k7' hb8
    have N8 := heap_grow N7' hb8
    have n8 := heap_grow n7' hb8
    have m8 := heap_grow m7' hb8
    have o8 := o7'.below hb8
    have r28 := r27'.below hb8
    clear k7' N7' n7' m7' o7' b7' r27' hb8
    have c80 := cell_of_block k8 0
    have c81 := cell_of_block k8 1
    have d80 := cell_of_block n8 0
    have d81 := cell_of_block n8 1
    simp at c80 c81 d80 d81
    have hl8 := (Array.getElem?_eq_some_iff.1 n8).1
    have hbx5 : w.heap.size < B5 := by omega
    go_wp2
    have hcd := hc.below (belD b8)
    have o8d : OwnP w8.drew g5 37 (flat ts) := o8
    go_region_held3 (fun w' => w'.cell? ⟨B5, 0, none⟩ = some (.int .i64 p) ∧ w'.cell? ⟨B5, 1, none⟩ = some (.slice (some ⟨g5, 0, none⟩) ts.length ts.length) ∧ w'.cell? ⟨w.heap.size, 0, none⟩ = some (.int .i64 p) ∧ w'.cell? ⟨w.heap.size, 1, none⟩ = some (.slice a ts.length cap))
      (first
        | go_keep
        | exact ⟨(hb10.cell (p := ⟨B5, 0, none⟩) (Nat.lt_of_lt_of_le hl8 hb9.size)).trans ((hb9.cell (p := ⟨B5, 0, none⟩) hl8).trans d80), (hb10.cell (p := ⟨B5, 1, none⟩) (Nat.lt_of_lt_of_le hl8 hb9.size)).trans ((hb9.cell (p := ⟨B5, 1, none⟩) hl8).trans d81), (hb10.cell (p := ⟨w.heap.size, 0, none⟩) (Nat.lt_of_lt_of_le (Nat.lt_trans hbx5 hl8) hb9.size)).trans ((hb9.cell (p := ⟨w.heap.size, 0, none⟩) (Nat.lt_trans hbx5 hl8)).trans c80), (hb10.cell (p := ⟨w.heap.size, 1, none⟩) (Nat.lt_of_lt_of_le (Nat.lt_trans hbx5 hl8) hb9.size)).trans ((hb9.cell (p := ⟨w.heap.size, 1, none⟩) (Nat.lt_trans hbx5 hl8)).trans c81)⟩
        | exact ⟨(hb9.cell (p := ⟨B5, 0, none⟩) hl8).trans d80, (hb9.cell (p := ⟨B5, 1, none⟩) hl8).trans d81, (hb9.cell (p := ⟨w.heap.size, 0, none⟩) (Nat.lt_trans hbx5 hl8)).trans c80, (hb9.cell (p := ⟨w.heap.size, 1, none⟩) (Nat.lt_trans hbx5 hl8)).trans c81⟩)
      ((first
        | (go_at_call 27; refine (toNet_any p a cap ts _ hcd hn).mono ?_; rintro e w9 ⟨g9, hg9, rfl, ho9, hb9⟩)
        | (go_at_call 29; refine (eqNet_any p p (some ⟨g5, 0, none⟩) (some ⟨g9, 0, none⟩) ts.length ts.length ts ts _ (o8d.below hb9).rd3 ho9.rd3 hn).mono ?_; rintro e w10 ⟨rfl, hb10⟩)))
    have b10 := belT (belT (belD b8) hb9) hb10
    have k10 := heap_grow (heap_grow (w := w8.drew) k8 hb9) hb10
    have n10 := heap_grow (heap_grow (w := w8.drew) n8 hb9) hb10
    have N10 := heap_grow (heap_grow (w := w8.drew) N8 hb9) hb10
    have m10 := heap_grow (heap_grow (w := w8.drew) m8 hb9) hb10
    have o10 := (o8d.below hb9).below hb10
    clear hcd o8d o8 k8 n8 N8 m8 c80 c81 d80 d81 b8 hb9 hb10 r28 ho9 hl8
    have d100 := cell_of_block n10 0
    have d101 := cell_of_block n10 1
    simp at d100 d101
    go_wp2_with fail
    refine (markNet_any p g5 _ ts.length _ (flat ts) 1 w10 o10 (flat_length _) hn (by omega) (by omega)).mono ?_
    rintro e w11 ⟨rfl, hm11, hgr11⟩
    have b11 := belG b10 hgr11 (by omega)
    have k11 := blk_grownTurnNet k10 hgr11 (by omega)
    have N11 := blk_grownTurnNet N10 hgr11 (by omega)
    have m11 := blk_grownTurnNet m10 hgr11 (by omega)
    clear b10 k10 n10 N10 m10 o10 d100 d101 hm11 hgr11
    have c110 := cell_of_block N11 0
    have c111 := cell_of_block N11 1
    have d110 := cell_of_block m11 0
    have d111 := cell_of_block m11 1
    simp at c110 c111 d110 d111
    go_wp2_with fail
    refine (eqNet_any p p none a2 0 c2 [] [] w11 (fun j hj => by simp at hj) (fun j hj => by simp at hj) (by simp)).mono ?_
    rintro e w12 ⟨rfl, hb12⟩
    have b12 := belT b11 hb12
    have k12 := heap_grow k11 hb12
    have N12 := heap_grow N11 hb12
    have m12 := heap_grow m11 hb12
    clear c110 c111 d110 d111 b11 k11 N11 m11
    have d120 := cell_of_block m12 0
    have d121 := cell_of_block m12 1
    simp at d120 d121
    clear hb12
    go_wp2_with fail
    refine (markNet_nil p 0 none 1 w12 (by omega)).mono ?_
    rintro e w13 ⟨rfl, hb13⟩
    have b13 := belT b12 hb13
    have k13 := heap_grow k12 hb13
    have N13 := heap_grow N12 hb13
    have m13 := heap_grow m12 hb13
    clear b12 k12 N12 m12 hb13 d120 d121
    have d130 := cell_of_block m13 0
    have d131 := cell_of_block m13 1
    simp at d130 d131
    go_wp2_with fail
    refine (heldNet_any p none 0 0 1 w13 (fun j hj => by simp [fromI] at hj) (by omega) (by omega) (by omega)).mono ?_
    rintro e w14 ⟨rfl, hb14⟩
    have b14 := belT b13 hb14
    have k14 := heap_grow k13 hb14
    have N14 := heap_grow N13 hb14
    have m14 := heap_grow m13 hb14
    clear b13 k13 N13 m13 hb14 d130 d131
    have c140 := cell_of_block k14 0
    have c141 := cell_of_block k14 1
    simp at c140 c141
    go_wp2_with fail
    refine (toNet_any p a cap ts w14 (hc.below b14) hn).mono ?_
    rintro e w15 ⟨g15, hg15, rfl, ho15, hb15⟩
    have b15 := belT b14 hb15
    have N15 := heap_grow N14 hb15
    have m15 := heap_grow m14 hb15
    clear b14 k14 N14 m14 c140 c141 hb15
    go_wp2_with fail
    refine (HI.out _ _ _ ho15.rd3 (Nat.le_refl _)).mono ?_
    rintro e w16 ⟨v16, rfl, hown16, hb16⟩
    obtain ⟨a16, c16, rfl, hr16, _⟩ := hown16.slice
    have b16 := belA (o := .cells #[.int .i64 p, .slice a16 0 c16] 26) (belT b15 hb16)
    have al16 : Below w16.heap.size w16 (w16.alloc (.cells #[.int .i64 p, .slice a16 0 c16] 26)) := (Below.refl _ _).alloc (Nat.le_refl _) _
    have N16 := heap_grow (heap_grow N15 hb16) al16
    have m16 := heap_grow (heap_grow m15 hb16) al16
    have r1616 := hr16.below al16
    have c160 := cell_of_block (heap_grow N15 hb16) 0
    have c161 := cell_of_block (heap_grow N15 hb16) 1
    simp at c160 c161
    have l4 : B4 < w16.heap.size := (Array.getElem?_eq_some_iff.1 (heap_grow N15 hb16)).1
    clear b15 N15 m15 hb16 hown16 ho15 al16 hr16
    go_wp2_with fail
    clear c160 c161
    generalize w16.alloc (.cells #[.int .i64 p, .slice a16 0 c16] 26) = w16b at *
    refine (eqNet_any p p a16 a2 c16 c2 [] [] w16b r1616 (fun j hj => by simp at hj) (by simp)).mono ?_
    rintro e w17 ⟨rfl, hb17⟩
    have b17 := belT b16 hb17
    have m17 := heap_grow m16 hb17
    have d170 := cell_of_block m17 0
    have d171 := cell_of_block m17 1
    simp at d170 d171
    clear b16 hb17 m16
    go_wp2_with fail
    refine (heldNet_any p none 0 0 1 w17 (fun j hj => by simp [fromI] at hj) (by omega) (by omega) (by omega)).mono ?_
    rintro e w18 ⟨rfl, hb18⟩
    have b18 := belT b17 hb18
    go_wp2
    all_goals go_ret
    all_goals exact ⟨rfl, by assumption⟩
  · skip
    have n27 : ∀ x, a2 = some x → x.block ≠ g7 := fun x hx => by have := l25 x hx; omega
    have hg75 : g7 ≠ g5 := by omega
    have hg7l : g7 < w7.heap.size := ho7.lt
    clear l25
    have al7 : Below w7.heap.size w7 (w7.alloc (.cells #[.int .i64 p, .slice (some ⟨g7, 0, none⟩) R.length c7] 26)) := (Below.refl _ _).alloc (Nat.le_refl _) _
    have b7' := belT b7 al7
    have k7' := heap_grow k7 al7
    have N7' := heap_grow N7 al7
    have n7' := heap_grow n7 al7
    have m7' := blk_new w7 #[.int .i64 p, .slice (some ⟨g7, 0, none⟩) R.length c7] 26
    have o7' := o7.below al7
    have r27' := r27.below al7
    have z7' : w7.heap.size < (w7.alloc (.cells #[.int .i64 p, .slice (some ⟨g7, 0, none⟩) R.length c7] 26)).heap.size := by simp
    have c70 := cell_of_block N7 0
    have c71 := cell_of_block N7 1
    simp at c70 c71
    have l45 : B4 < w7.heap.size := by omega
    have ho7' := ho7.below al7
    clear ho7
    clear b7 k7 N7 n7 o7 r27 al7
    go_wp2_with fail
    clear c70 c71
    generalize hB7 : w7.heap.size = B7 at *
    generalize w7.alloc (.cells #[.int .i64 p, .slice (some ⟨g7, 0, none⟩) R.length c7] 26) = w7b at *
    refine (eqNet_any p p (some ⟨g7, 0, none⟩) a2 c7 c2 R R w7b ho7'.rd3 r27' hR).mono ?_
    rintro e w8 ⟨rfl, hb8⟩
    have b8 := belT b7' hb8
    have k8 := heap_grow k7' hb8
    have N8 := heap_grow N7' hb8
    have n8 := heap_grow n7' hb8
    have m8 := heap_grow m7' hb8
    have o8 := o7'.below hb8
    have r28 := r27'.below hb8
    have ho8 := ho7'.below hb8
    clear ho7'
    clear k7' N7' n7' m7' o7' b7' r27' hb8
    have c80 := cell_of_block k8 0
    have c81 := cell_of_block k8 1
    have d80 := cell_of_block n8 0
    have d81 := cell_of_block n8 1
    simp at c80 c81 d80 d81
    have hl8 := (Array.getElem?_eq_some_iff.1 n8).1
    have hbx5 : w.heap.size < B5 := by omega
    go_wp2
    have hcd := hc.below (belD b8)
    have o8d : OwnP w8.drew g5 37 (flat ts) := o8
    go_region_held3 (fun w' => w'.cell? ⟨B5, 0, none⟩ = some (.int .i64 p) ∧ w'.cell? ⟨B5, 1, none⟩ = some (.slice (some ⟨g5, 0, none⟩) ts.length ts.length) ∧ w'.cell? ⟨w.heap.size, 0, none⟩ = some (.int .i64 p) ∧ w'.cell? ⟨w.heap.size, 1, none⟩ = some (.slice a ts.length cap))
      (first
        | go_keep
        | exact ⟨(hb10.cell (p := ⟨B5, 0, none⟩) (Nat.lt_of_lt_of_le hl8 hb9.size)).trans ((hb9.cell (p := ⟨B5, 0, none⟩) hl8).trans d80), (hb10.cell (p := ⟨B5, 1, none⟩) (Nat.lt_of_lt_of_le hl8 hb9.size)).trans ((hb9.cell (p := ⟨B5, 1, none⟩) hl8).trans d81), (hb10.cell (p := ⟨w.heap.size, 0, none⟩) (Nat.lt_of_lt_of_le (Nat.lt_trans hbx5 hl8) hb9.size)).trans ((hb9.cell (p := ⟨w.heap.size, 0, none⟩) (Nat.lt_trans hbx5 hl8)).trans c80), (hb10.cell (p := ⟨w.heap.size, 1, none⟩) (Nat.lt_of_lt_of_le (Nat.lt_trans hbx5 hl8) hb9.size)).trans ((hb9.cell (p := ⟨w.heap.size, 1, none⟩) (Nat.lt_trans hbx5 hl8)).trans c81)⟩
        | exact ⟨(hb9.cell (p := ⟨B5, 0, none⟩) hl8).trans d80, (hb9.cell (p := ⟨B5, 1, none⟩) hl8).trans d81, (hb9.cell (p := ⟨w.heap.size, 0, none⟩) (Nat.lt_trans hbx5 hl8)).trans c80, (hb9.cell (p := ⟨w.heap.size, 1, none⟩) (Nat.lt_trans hbx5 hl8)).trans c81⟩)
      ((first
        | (go_at_call 27; refine (toNet_any p a cap ts _ hcd hn).mono ?_; rintro e w9 ⟨g9, hg9, rfl, ho9, hb9⟩)
        | (go_at_call 29; refine (eqNet_any p p (some ⟨g5, 0, none⟩) (some ⟨g9, 0, none⟩) ts.length ts.length ts ts _ (o8d.below hb9).rd3 ho9.rd3 hn).mono ?_; rintro e w10 ⟨rfl, hb10⟩)))
    have b10 := belT (belT (belD b8) hb9) hb10
    have k10 := heap_grow (heap_grow (w := w8.drew) k8 hb9) hb10
    have n10 := heap_grow (heap_grow (w := w8.drew) n8 hb9) hb10
    have N10 := heap_grow (heap_grow (w := w8.drew) N8 hb9) hb10
    have m10 := heap_grow (heap_grow (w := w8.drew) m8 hb9) hb10
    have o10 := (o8d.below hb9).below hb10
    have r210 := (Rd3.below (w := w8.drew) r28 hb9).below hb10
    have ho10 := (OwnP.below (w := w8.drew) ho8 hb9).below hb10
    clear ho8
    clear hcd o8d o8 k8 n8 N8 m8 c80 c81 d80 d81 b8 hb9 hb10 r28 ho9 hl8
    have d100 := cell_of_block n10 0
    have d101 := cell_of_block n10 1
    simp at d100 d101
    go_wp2_with fail
    refine (markNet_any p g5 _ ts.length _ (flat ts) 1 w10 o10 (flat_length _) hn (by omega) (by omega)).mono ?_
    rintro e w11 ⟨rfl, hm11, hgr11⟩
    have b11 := belG b10 hgr11 (by omega)
    have k11 := blk_grownTurnNet k10 hgr11 (by omega)
    have N11 := blk_grownTurnNet N10 hgr11 (by omega)
    have m11 := blk_grownTurnNet m10 hgr11 (by omega)
    have ho11 := ho10.grown hgr11 hg75
    have r211 := rd3_grown r210 hgr11 n25
    clear ho10 r210
    clear b10 k10 n10 N10 m10 o10 d100 d101 hm11 hgr11
    have c110 := cell_of_block N11 0
    have c111 := cell_of_block N11 1
    have d110 := cell_of_block m11 0
    have d111 := cell_of_block m11 1
    simp at c110 c111 d110 d111
    go_wp2_with fail
    refine (eqNet_any p p (some ⟨g7, 0, none⟩) a2 c7 c2 R R w11 ho11.rd3 r211 hR).mono ?_
    rintro e w12 ⟨rfl, hb12⟩
    have b12 := belT b11 hb12
    have k12 := heap_grow k11 hb12
    have N12 := heap_grow N11 hb12
    have m12 := heap_grow m11 hb12
    clear c110 c111 d110 d111 b11 k11 N11 m11
    have d120 := cell_of_block m12 0
    have d121 := cell_of_block m12 1
    simp at d120 d121
    have ho12 := ho11.below hb12
    have r212 := r211.below hb12
    clear ho11 r211 hb12
    go_wp2_with fail
    refine (markNet_any p g7 _ R.length _ (flat R) 1 w12 ho12 (flat_length _) hR (by omega) (by omega)).mono ?_
    rintro e w13 ⟨rfl, hm13, hgr13⟩
    have b13 := belG b12 hgr13 (by omega)
    have k13 := blk_grownTurnNet k12 hgr13 (by omega)
    have N13 := blk_grownTurnNet N12 hgr13 (by omega)
    have m13 := blk_grownTurnNet m12 hgr13 (by omega)
    have r213 := rd3_grown r212 hgr13 n27
    clear b12 k12 N12 m12 r212 ho12 hgr13 d120 d121
    have d130 := cell_of_block m13 0
    have d131 := cell_of_block m13 1
    simp at d130 d131
    go_wp2_with fail
    refine (heldNet_any p _ _ R.length 1 w13 hm13.rd hR (by omega) (by omega)).mono ?_
    rintro e w14 ⟨rfl, hb14⟩
    have r214 := r213.below hb14
    have hm14 := hm13.below hb14
    clear r213 hm13
    have b14 := belT b13 hb14
    have k14 := heap_grow k13 hb14
    have N14 := heap_grow N13 hb14
    have m14 := heap_grow m13 hb14
    clear b13 k13 N13 m13 hb14 d130 d131
    have c140 := cell_of_block k14 0
    have c141 := cell_of_block k14 1
    simp at c140 c141
    go_wp2_with fail
    refine (toNet_any p a cap ts w14 (hc.below b14) hn).mono ?_
    rintro e w15 ⟨g15, hg15, rfl, ho15, hb15⟩
    have b15 := belT b14 hb15
    have N15 := heap_grow N14 hb15
    have m15 := heap_grow m14 hb15
    have r215 := r214.below hb15
    have hm15 := hm14.below hb15
    clear r214 hm14
    clear b14 k14 N14 m14 c140 c141 hb15
    go_wp2_with fail
    refine (HI.out _ _ _ ho15.rd3 (Nat.le_refl _)).mono ?_
    rintro e w16 ⟨v16, rfl, hown16, hb16⟩
    obtain ⟨a16, c16, rfl, hr16, _⟩ := hown16.slice
    have b16 := belA (o := .cells #[.int .i64 p, .slice a16 R.length c16] 26) (belT b15 hb16)
    have al16 : Below w16.heap.size w16 (w16.alloc (.cells #[.int .i64 p, .slice a16 R.length c16] 26)) := (Below.refl _ _).alloc (Nat.le_refl _) _
    have N16 := heap_grow (heap_grow N15 hb16) al16
    have m16 := heap_grow (heap_grow m15 hb16) al16
    have r1616 := hr16.below al16
    have c160 := cell_of_block (heap_grow N15 hb16) 0
    have c161 := cell_of_block (heap_grow N15 hb16) 1
    simp at c160 c161
    have l4 : B4 < w16.heap.size := (Array.getElem?_eq_some_iff.1 (heap_grow N15 hb16)).1
    have r216 := (r215.below hb16).below al16
    have hm16 := (hm15.below hb16).below al16
    clear r215 hm15
    clear b15 N15 m15 hb16 hown16 ho15 al16 hr16
    go_wp2_with fail
    clear c160 c161
    generalize w16.alloc (.cells #[.int .i64 p, .slice a16 R.length c16] 26) = w16b at *
    refine (eqNet_any p p a16 a2 c16 c2 R R w16b r1616 r216 hR).mono ?_
    rintro e w17 ⟨rfl, hb17⟩
    have b17 := belT b16 hb17
    have m17 := heap_grow m16 hb17
    have d170 := cell_of_block m17 0
    have d171 := cell_of_block m17 1
    simp at d170 d171
    have hm17 := hm16.below hb17
    clear b16 hb17 r216 hm16 m16
    go_wp2_with fail
    refine (heldNet_any p _ _ R.length 1 w17 hm17.rd hR (by omega) (by omega)).mono ?_
    rintro e w18 ⟨rfl, hb18⟩
    have b18 := belT b17 hb18
    go_wp2
    all_goals go_ret
    all_goals exact ⟨rfl, by assumption⟩

end Go.Proofs.Ytamadhdnblmfhaa
