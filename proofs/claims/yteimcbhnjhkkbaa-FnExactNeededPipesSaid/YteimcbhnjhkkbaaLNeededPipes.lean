/- The walk of the law NeededPipes. -/
import Derived.Test.YteimcbhnjhkkbaaNeed
import Derived.Test.YteimcbhnjhkkbaaNetB
import Derived.Deep.RegionHeld3
namespace Go.Proofs.Yteimcbhnjhkkbaa
set_option linter.unusedSimpArgs false
set_option linter.unusedVariables false
open Go.RowKit

theorem blk_grown_NeededPipes {w w' : World} {b g : Nat} {x : Obj} (h : w.heap[b]? = some x) (hb : w.grownBy w' (some g)) (hne : b ≠ g) : w'.heap[b]? = some x := by
  rw [hb.block b (Array.getElem?_eq_some_iff.1 h).1 (by simpa using hne)]; exact h

set_option maxHeartbeats 2000000 in
theorem law_NeededPipes (p : Int) (a : Option Addr) (cap : Nat) (ts : List T3) (x y : Int) (w : World) (hc : Rd3 w a ts) (hm : ts.length ≤ 9223372036854775807) :
    Calls Try.prog 7 #[.agg #[.int .i64 p, .slice a ts.length cap], .int .i64 x, .int .i64 y] w fun e w' => Rets w (.bool true) e w' := by
  by_cases hn : ts.length ≤ 1048576
  case neg =>
    have hz0 : ((if ts.length ≤ 1048576 then 1048576 - (ts.length : Int) else -1)) = -1 := if_neg hn
    have HZ := hide (fun W : World => (show Calls Try.prog 21 #[.agg #[.int .i64 p, .slice a ts.length cap], .int .i64 1048576] W (Rets W (.int .i64 (-1))) by rw [← hz0]; exact szNet_any p a cap ts.length W hm))
    clear hz0
    go_enter Try.func7, Try.ntmps7
    go_wp2_with fail
    (with_reducible refine (HZ.out _).mono ?_)
    rintro e w1 ⟨rfl, hb1⟩
    have b1 := belT (belA (Below.refl w.heap.size w)) hb1
    go_wp2
    go_ret
    exact ⟨rfl, b1⟩
  have hz0 : ((if ts.length ≤ 1048576 then 1048576 - (ts.length : Int) else -1)) = 1048576 - (ts.length : Int) := if_pos hn
  have HZ := hide (fun W : World => (show Calls Try.prog 21 #[.agg #[.int .i64 p, .slice a ts.length cap], .int .i64 1048576] W (Rets W (.int .i64 (1048576 - (ts.length : Int)))) by rw [← hz0]; exact szNet_any p a cap ts.length W hm))
  clear hz0
  have hln : ¬ (1048576 - (ts.length : Int)) < 0 := by omega
  have hR : (needM p ts x y).length ≤ 1048576 := needM_length p ts x y hn
  have HS := hide (fun (a : Option Addr) (cap : Nat) (w : World) (hc : Rd3 w a ts) (hcap : ts.length ≤ cap) => specNeeded_any p x y a cap ts w hc hn hcap)
  have HI := hide (fun (a : Option Addr) (cap : Nat) (w : World) (hc : Rd3 w a ts) => implNeeded_any p x y a cap ts w hc hn)
  generalize needM p ts x y = R at *
  go_enter Try.func7, Try.ntmps7
  go_wp2_with fail
  (with_reducible refine (HZ.out _).mono ?_)
  rintro e w1 ⟨rfl, hb1⟩
  have b1 := belT (belA (Below.refl w.heap.size w)) hb1
  have k1 := heap_grow (blk_new w #[.int .i64 p, .slice a ts.length cap] 44) hb1
  have c10 := cell_of_block k1 0
  have c11 := cell_of_block k1 1
  simp at c10 c11
  clear hb1
  go_wp2_with fail
  refine (toNet_any p a cap ts w1 (hc.below b1) hn).mono ?_
  rintro e w2 ⟨g2, hg2, rfl, ho2, hb2⟩
  have b2 := belT b1 hb2
  have k2 := heap_grow k1 hb2
  clear k1 c10 c11 b1 hb2
  go_wp2_with fail
  refine (HS.out _ _ _ ho2.rd3 (Nat.le_refl _)).mono ?_
  rintro e w4 ⟨v2, rfl, hown2, hb4⟩
  obtain ⟨a2, c2, rfl, hr2⟩ := hown2.slice
  have hl2 : ∀ x, a2 = some x → x.block < w4.heap.size := fun x hx => (hown2.lt x.block (by rw [hx]; rfl)).2
  clear hown2
  have b4 := belT b2 hb4
  have k4 := heap_grow k2 hb4
  have c40 := cell_of_block k4 0
  have c41 := cell_of_block k4 1
  simp at c40 c41
  clear k2 b2 hb4 ho2
  go_wp2_with fail
  refine (toNet_any p a cap ts w4 (hc.below b4) hn).mono ?_
  rintro e w5 ⟨g5, hg5, rfl, ho5, hb5⟩
  have b5 := belA (o := .cells #[.int .i64 p, .slice (some ⟨g5, 0, none⟩) ts.length ts.length] 26) (belT b4 hb5)
  have al5 : Below w5.heap.size w5 (w5.alloc (.cells #[.int .i64 p, .slice (some ⟨g5, 0, none⟩) ts.length ts.length] 26)) := (Below.refl _ _).alloc (Nat.le_refl _) _
  have k5 := blk_alloc (o := .cells #[.int .i64 p, .slice (some ⟨g5, 0, none⟩) ts.length ts.length] 26) (heap_grow k4 hb5)
  have n5 := blk_new w5 #[.int .i64 p, .slice (some ⟨g5, 0, none⟩) ts.length ts.length] 26
  have o5 := ho5.below al5
  have r25 := (hr2.below hb5).below al5
  have hkw : w.heap.size < w4.heap.size := (Array.getElem?_eq_some_iff.1 k4).1
  have hbx5 : w.heap.size < w5.heap.size := Nat.lt_of_lt_of_le hkw hb5.size
  have hg5w : w.heap.size < g5 := by omega
  have hg5l : g5 < w5.heap.size := ho5.lt
  have n25 : ∀ x, a2 = some x → x.block ≠ g5 := fun x hx => by have := hl2 x hx; omega
  have l25 : ∀ x, a2 = some x → x.block < w5.heap.size := fun x hx => by have := hl2 x hx; have := hb5.size; omega
  clear k4 b4 hb5 ho5 al5 c40 c41 hr2 hl2
  go_wp2_with fail
  refine (HI.out _ _ _ o5.rd3).mono ?_
  rintro e w7 ⟨v7, rfl, hown7, hb7⟩
  have b7 := belT b5 hb7
  have k7 := heap_grow k5 hb7
  have n7 := heap_grow n5 hb7
  have o7 := o5.below hb7
  have r27 := r25.below hb7
  clear k5 n5 o5 b5 hb7 r25
  generalize hB5 : w5.heap.size = B5 at *
  have hpr : (v7 = .slice none 0 0 ∧ R = []) ∨ ∃ g7 c7, v7 = .slice (some ⟨g7, 0, none⟩) R.length c7 ∧ B5 < g7 ∧ OwnP w7 g7 3 R := by
    rcases hown7.cases with h | ⟨g7, c7, h1, h2, h3⟩
    · exact .inl h
    · exact .inr ⟨g7, c7, h1, by simp at h2; omega, h3⟩
  clear hown7
  rcases hpr with ⟨rfl, hR0⟩ | ⟨g7, c7, rfl, hg7, ho7⟩
  · subst hR0
    clear l25
    go_wp2_with fail
    refine (eqIntS_any none a2 0 c2 [] [] w7 (fun j hj => by simp at hj) (fun j hj => by simp at hj) (by simp)).mono ?_
    rintro e w8 ⟨rfl, hb8⟩
    have b8 := belT b7 hb8
    have k8 := heap_grow k7 hb8
    have n8 := heap_grow n7 hb8
    have o8 := o7.below hb8
    have r28 := r27.below hb8
    clear k7 n7 o7 b7 r27 hb8
    have c80 := cell_of_block k8 0
    have c81 := cell_of_block k8 1
    have d80 := cell_of_block n8 0
    have d81 := cell_of_block n8 1
    simp at c80 c81 d80 d81
    have hl8 := (Array.getElem?_eq_some_iff.1 n8).1
    go_wp2
    have hcd := hc.below (belD b8)
    have o8d : OwnP w8.drew g5 60 (flat ts) := o8
    go_region_held3 (fun w' => w'.cell? ⟨B5, 0, none⟩ = some (.int .i64 p) ∧ w'.cell? ⟨B5, 1, none⟩ = some (.slice (some ⟨g5, 0, none⟩) ts.length ts.length) ∧ w'.cell? ⟨w.heap.size, 0, none⟩ = some (.int .i64 p) ∧ w'.cell? ⟨w.heap.size, 1, none⟩ = some (.slice a ts.length cap))
      (first
        | go_keep
        | exact ⟨(hb10.cell (p := ⟨B5, 0, none⟩) (Nat.lt_of_lt_of_le hl8 hb9.size)).trans ((hb9.cell (p := ⟨B5, 0, none⟩) hl8).trans d80), (hb10.cell (p := ⟨B5, 1, none⟩) (Nat.lt_of_lt_of_le hl8 hb9.size)).trans ((hb9.cell (p := ⟨B5, 1, none⟩) hl8).trans d81), (hb10.cell (p := ⟨w.heap.size, 0, none⟩) (Nat.lt_of_lt_of_le (Nat.lt_trans hbx5 hl8) hb9.size)).trans ((hb9.cell (p := ⟨w.heap.size, 0, none⟩) (Nat.lt_trans hbx5 hl8)).trans c80), (hb10.cell (p := ⟨w.heap.size, 1, none⟩) (Nat.lt_of_lt_of_le (Nat.lt_trans hbx5 hl8) hb9.size)).trans ((hb9.cell (p := ⟨w.heap.size, 1, none⟩) (Nat.lt_trans hbx5 hl8)).trans c81)⟩
        | exact ⟨(hb9.cell (p := ⟨B5, 0, none⟩) hl8).trans d80, (hb9.cell (p := ⟨B5, 1, none⟩) hl8).trans d81, (hb9.cell (p := ⟨w.heap.size, 0, none⟩) (Nat.lt_trans hbx5 hl8)).trans c80, (hb9.cell (p := ⟨w.heap.size, 1, none⟩) (Nat.lt_trans hbx5 hl8)).trans c81⟩)
      ((first
        | (go_at_call 23; refine (toNet_any p a cap ts _ hcd hn).mono ?_; rintro e w9 ⟨g9, hg9, rfl, ho9, hb9⟩)
        | (go_at_call 25; refine (eqNet_any p p (some ⟨g5, 0, none⟩) (some ⟨g9, 0, none⟩) ts.length ts.length ts ts _ (o8d.below hb9).rd3 ho9.rd3 hn).mono ?_; rintro e w10 ⟨rfl, hb10⟩)))
    have b10 := belT (belT (belD b8) hb9) hb10
    have k10 := heap_grow (heap_grow (w := w8.drew) k8 hb9) hb10
    have n10 := heap_grow (heap_grow (w := w8.drew) n8 hb9) hb10
    have o10 := (o8d.below hb9).below hb10
    clear hcd o8d o8 k8 n8 c80 c81 d80 d81 b8 hb9 hb10 r28 ho9
    have d100 := cell_of_block n10 0
    have d101 := cell_of_block n10 1
    simp at d100 d101
    go_wp2_with fail
    refine (markNet_any p g5 _ ts.length _ (flat ts) 1 w10 o10 (flat_length _) hn (by omega) (by omega)).mono ?_
    rintro e w11 ⟨rfl, hm11, hgr11⟩
    have b11 := belG b10 hgr11 (by omega)
    have k11 := blk_grown_NeededPipes k10 hgr11 (by omega)
    clear b10 k10 n10 o10 d100 d101 hm11 hgr11
    go_wp2_with fail
    refine (eqIntS_any none a2 0 c2 [] [] w11 (fun j hj => by simp at hj) (fun j hj => by simp at hj) (by simp)).mono ?_
    rintro e w12 ⟨rfl, hb12⟩
    have b12 := belT b11 hb12
    have k12 := heap_grow k11 hb12
    clear b11 k11 hb12
    go_wp2_with fail
    refine (markIntS_nil 1 w12 0 none).mono ?_
    rintro e w12' ⟨rfl, rfl⟩
    go_wp2_with fail
    refine (heldIntS_any none 0 0 1 w12 (fun j hj => by simp [fromI] at hj) (by omega) (by omega) (by omega)).mono ?_
    rintro e w12' ⟨rfl, rfl⟩
    have b13 := b12
    have k13 := k12
    clear b12 k12
    obtain ⟨w13, rfl⟩ : ∃ w13, w13 = w12 := ⟨_, rfl⟩
    have c130 := cell_of_block k13 0
    have c131 := cell_of_block k13 1
    simp at c130 c131
    go_wp2_with fail
    refine (toNet_any p a cap ts w13 (hc.below b13) hn).mono ?_
    rintro e w14 ⟨g14, hg14, rfl, ho14, hb14⟩
    have b14 := belT b13 hb14
    clear b13 k13 c130 c131 hb14
    go_wp2_with fail
    refine (HI.out _ _ _ ho14.rd3).mono ?_
    rintro e w15 ⟨v15, rfl, hown15, hb15⟩
    obtain ⟨a15, c15, rfl, hr15⟩ := hown15.slice
    have b15 := belT b14 hb15
    clear b14 hb15 hown15 ho14
    go_wp2_with fail
    refine (eqIntS_any a15 a2 c15 c2 [] [] w15 hr15 (fun j hj => by simp at hj) (by simp)).mono ?_
    rintro e w16 ⟨rfl, hb16⟩
    have b16 := belT b15 hb16
    clear b15 hb16
    go_wp2_with fail
    refine (heldIntS_any none 0 0 1 w16 (fun j hj => by simp [fromI] at hj) (by omega) (by omega) (by omega)).mono ?_
    rintro e w16' ⟨rfl, rfl⟩
    go_wp2
    all_goals go_ret
    all_goals exact ⟨rfl, by assumption⟩
  · skip
    have n27 : ∀ x, a2 = some x → x.block ≠ g7 := fun x hx => by have := l25 x hx; omega
    have hg75 : g7 ≠ g5 := by omega
    have hg7w : w.heap.size ≤ g7 := by omega
    have hg7k : w.heap.size ≠ g7 := by omega
    clear l25
    go_wp2_with fail
    refine (eqIntS_any (some ⟨g7, 0, none⟩) a2 c7 c2 R R w7 ho7.rd r27 hR).mono ?_
    rintro e w8 ⟨rfl, hb8⟩
    have b8 := belT b7 hb8
    have k8 := heap_grow k7 hb8
    have n8 := heap_grow n7 hb8
    have o8 := o7.below hb8
    have r28 := r27.below hb8
    have ho8 := ho7.below hb8
    clear ho7
    clear k7 n7 o7 b7 r27 hb8
    have c80 := cell_of_block k8 0
    have c81 := cell_of_block k8 1
    have d80 := cell_of_block n8 0
    have d81 := cell_of_block n8 1
    simp at c80 c81 d80 d81
    have hl8 := (Array.getElem?_eq_some_iff.1 n8).1
    go_wp2
    have hcd := hc.below (belD b8)
    have o8d : OwnP w8.drew g5 60 (flat ts) := o8
    go_region_held3 (fun w' => w'.cell? ⟨B5, 0, none⟩ = some (.int .i64 p) ∧ w'.cell? ⟨B5, 1, none⟩ = some (.slice (some ⟨g5, 0, none⟩) ts.length ts.length) ∧ w'.cell? ⟨w.heap.size, 0, none⟩ = some (.int .i64 p) ∧ w'.cell? ⟨w.heap.size, 1, none⟩ = some (.slice a ts.length cap))
      (first
        | go_keep
        | exact ⟨(hb10.cell (p := ⟨B5, 0, none⟩) (Nat.lt_of_lt_of_le hl8 hb9.size)).trans ((hb9.cell (p := ⟨B5, 0, none⟩) hl8).trans d80), (hb10.cell (p := ⟨B5, 1, none⟩) (Nat.lt_of_lt_of_le hl8 hb9.size)).trans ((hb9.cell (p := ⟨B5, 1, none⟩) hl8).trans d81), (hb10.cell (p := ⟨w.heap.size, 0, none⟩) (Nat.lt_of_lt_of_le (Nat.lt_trans hbx5 hl8) hb9.size)).trans ((hb9.cell (p := ⟨w.heap.size, 0, none⟩) (Nat.lt_trans hbx5 hl8)).trans c80), (hb10.cell (p := ⟨w.heap.size, 1, none⟩) (Nat.lt_of_lt_of_le (Nat.lt_trans hbx5 hl8) hb9.size)).trans ((hb9.cell (p := ⟨w.heap.size, 1, none⟩) (Nat.lt_trans hbx5 hl8)).trans c81)⟩
        | exact ⟨(hb9.cell (p := ⟨B5, 0, none⟩) hl8).trans d80, (hb9.cell (p := ⟨B5, 1, none⟩) hl8).trans d81, (hb9.cell (p := ⟨w.heap.size, 0, none⟩) (Nat.lt_trans hbx5 hl8)).trans c80, (hb9.cell (p := ⟨w.heap.size, 1, none⟩) (Nat.lt_trans hbx5 hl8)).trans c81⟩)
      ((first
        | (go_at_call 23; refine (toNet_any p a cap ts _ hcd hn).mono ?_; rintro e w9 ⟨g9, hg9, rfl, ho9, hb9⟩)
        | (go_at_call 25; refine (eqNet_any p p (some ⟨g5, 0, none⟩) (some ⟨g9, 0, none⟩) ts.length ts.length ts ts _ (o8d.below hb9).rd3 ho9.rd3 hn).mono ?_; rintro e w10 ⟨rfl, hb10⟩)))
    have b10 := belT (belT (belD b8) hb9) hb10
    have k10 := heap_grow (heap_grow (w := w8.drew) k8 hb9) hb10
    have n10 := heap_grow (heap_grow (w := w8.drew) n8 hb9) hb10
    have o10 := (o8d.below hb9).below hb10
    have r210 := (Rd.below (w := w8.drew) r28 hb9).below hb10
    have ho10 := (OwnP.below (w := w8.drew) ho8 hb9).below hb10
    clear ho8
    clear hcd o8d o8 k8 n8 c80 c81 d80 d81 b8 hb9 hb10 r28 ho9
    have d100 := cell_of_block n10 0
    have d101 := cell_of_block n10 1
    simp at d100 d101
    go_wp2_with fail
    refine (markNet_any p g5 _ ts.length _ (flat ts) 1 w10 o10 (flat_length _) hn (by omega) (by omega)).mono ?_
    rintro e w11 ⟨rfl, hm11, hgr11⟩
    have b11 := belG b10 hgr11 (by omega)
    have k11 := blk_grown_NeededPipes k10 hgr11 (by omega)
    have ho11 := ho10.grown hgr11 hg75
    have r211 := rd_grown r210 hgr11 n25
    clear ho10 r210
    clear b10 k10 n10 o10 d100 d101 hm11 hgr11
    go_wp2_with fail
    refine (eqIntS_any (some ⟨g7, 0, none⟩) a2 c7 c2 R R w11 ho11.rd r211 hR).mono ?_
    rintro e w12 ⟨rfl, hb12⟩
    have b12 := belT b11 hb12
    have k12 := heap_grow k11 hb12
    have ho12 := ho11.below hb12
    have r212 := r211.below hb12
    clear b11 k11 ho11 r211 hb12
    go_wp2_with fail
    refine (markIntS_any g7 _ _ R 1 w12 ho12 hR (by omega) (by omega)).mono ?_
    rintro e w13 ⟨rfl, hm13, hgr13⟩
    have b13 := belG b12 hgr13 hg7w
    have k13 := blk_grown_NeededPipes k12 hgr13 hg7k
    have r213 := rd_grown r212 hgr13 n27
    clear b12 k12 r212 ho12 hgr13
    go_wp2_with fail
    refine (heldIntS_any _ _ R.length 1 w13 hm13.rd hR (by omega) (by omega)).mono ?_
    rintro e w13' ⟨rfl, rfl⟩
    have c130 := cell_of_block k13 0
    have c131 := cell_of_block k13 1
    simp at c130 c131
    go_wp2_with fail
    refine (toNet_any p a cap ts w13 (hc.below b13) hn).mono ?_
    rintro e w14 ⟨g14, hg14, rfl, ho14, hb14⟩
    have b14 := belT b13 hb14
    have r214 := r213.below hb14
    have m14 := hm13.below hb14
    clear r213 hm13
    clear b13 k13 c130 c131 hb14
    go_wp2_with fail
    refine (HI.out _ _ _ ho14.rd3).mono ?_
    rintro e w15 ⟨v15, rfl, hown15, hb15⟩
    obtain ⟨a15, c15, rfl, hr15⟩ := hown15.slice
    have b15 := belT b14 hb15
    have r215 := r214.below hb15
    have m15 := m14.below hb15
    clear r214 m14
    clear b14 hb15 hown15 ho14
    go_wp2_with fail
    refine (eqIntS_any a15 a2 c15 c2 R R w15 hr15 r215 hR).mono ?_
    rintro e w16 ⟨rfl, hb16⟩
    have b16 := belT b15 hb16
    have m16 := m15.below hb16
    clear b15 hb16 r215 m15
    go_wp2_with fail
    refine (heldIntS_any _ _ R.length 1 w16 m16.rd hR (by omega) (by omega)).mono ?_
    rintro e w16' ⟨rfl, rfl⟩
    go_wp2
    all_goals go_ret
    all_goals exact ⟨rfl, by assumption⟩

end Go.Proofs.Yteimcbhnjhkkbaa
