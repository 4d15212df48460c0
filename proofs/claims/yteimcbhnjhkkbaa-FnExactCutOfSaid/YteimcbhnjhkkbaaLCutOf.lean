/- The walk of the law CutOf. -/
import Derived.Test.YteimcbhnjhkkbaaCutO
import Derived.Deep.RegionHeld3
namespace Go.Proofs.Yteimcbhnjhkkbaa
set_option linter.unusedSimpArgs false
set_option linter.unusedVariables false
open Go.RowKit

set_option maxHeartbeats 2000000 in
theorem law_CutOf (p : Int) (a : Option Addr) (cap : Nat) (ts : List T3) (af : Option Addr) (capf : Nat) (xs : List Int) (x y : Int) (w : World) (hc : Rd3 w a ts) (hf : Rd w af xs) (hm : ts.length ≤ 9223372036854775807) :
    Calls Try.prog 4 #[.agg #[.int .i64 p, .slice a ts.length cap], .slice af xs.length capf, .int .i64 x, .int .i64 y] w fun e w' => Rets w (.bool true) e w' := by
  by_cases hnf : xs.length ≤ 1048576
  case neg =>
    have hld : decide ((1048576 : Int) < (xs.length : Int)) = true := by simp; omega
    go_enter Try.func4, Try.ntmps4
    go_wp2
    go_ret
    exact ⟨rfl, (by repeat first | exact Below.refl _ _ | assumption | (refine belA ?_) | (refine belD ?_) | (refine belN ?_) | (refine belS ?_ (by simp <;> omega)) | (refine belT ?_ (by assumption)))⟩
  have hld : decide ((1048576 : Int) < (xs.length : Int)) = false := by simp; omega
  by_cases hn : ts.length ≤ 1048576
  case neg =>
    have hz0 : ((if ts.length ≤ 1048576 then 1048576 - (ts.length : Int) else -1)) = -1 := if_neg hn
    have HZ := hide (fun W : World => (show Calls Try.prog 21 #[.agg #[.int .i64 p, .slice a ts.length cap], .int .i64 1048576] W (Rets W (.int .i64 (-1))) by rw [← hz0]; exact szNet_any p a cap ts.length W hm))
    clear hz0
    go_enter Try.func4, Try.ntmps4
    go_wp2_with fail
    (with_reducible refine (HZ.out _).mono ?_)
    rintro e w1 ⟨rfl, hb1⟩
    have b1 := belT (belA (Below.refl w.heap.size w)) hb1
    go_wp2
    go_ret
    exact ⟨rfl, b1⟩
  have hz0 : ((if ts.length ≤ 1048576 then 1048576 - (ts.length : Int) else -1)) = 1048576 - (ts.length : Int) := if_pos hn
  have HZ := hide (fun W : World => (show Calls Try.prog 21 #[.agg #[.int .i64 p, .slice a ts.length cap], .int .i64 1048576] W (Rets W (.int .i64 (1048576 - (ts.length : Int)))) by rw [← hz0]; exact szNet_any p a cap ts.length W hm))
  clear hz0
  have hln : ¬ (1048576 - (ts.length : Int)) < 0 := by omega
  have HS := hide (fun (a : Option Addr) (cap : Nat) (af : Option Addr) (capf : Nat) (w : World) (hc : Rd3 w a ts) (hf : Rd w af xs) => specCutOf_any p x y a af cap capf ts xs w hc hf hn hnf)
  have HI := hide (fun (a : Option Addr) (cap : Nat) (af : Option Addr) (capf : Nat) (w : World) (hc : Rd3 w a ts) (hf : Rd w af xs) => implCutOf_any p x y a af cap capf ts xs w hc hf hn hnf)
  go_enter Try.func4, Try.ntmps4
  go_wp2_with fail
  (with_reducible refine (HZ.out _).mono ?_)
  rintro e w1 ⟨rfl, hb1⟩
  have b1 := belT (belA (Below.refl w.heap.size w)) hb1
  have k1 := heap_grow (blk_new w #[.int .i64 p, .slice a ts.length cap] 44) hb1
  have c10 := cell_of_block k1 0
  have c11 := cell_of_block k1 1
  simp at c10 c11
  clear hb1
  go_wp2_with fail
  refine (toNet_any p a cap ts w1 (hc.below b1) hn).mono ?_
  rintro e w2 ⟨g2, hg2, rfl, ho2, hb2⟩
  have b2 := belT b1 hb2
  have k2 := heap_grow k1 hb2
  clear k1 c10 c11 b1 hb2
  go_wp2_with fail
  refine (toIntS_any af capf xs w2 (hf.below b2) hnf).mono ?_
  rintro e w3 ⟨g3, hg3, rfl, ho3, hb3⟩
  have b3 := belT b2 hb3
  have k3 := heap_grow k2 hb3
  have ho2 := ho2.below hb3
  clear k2 b2 hb3
  go_wp2_with fail
  refine (HS.out _ _ _ _ _ ho2.rd3 ho3.rd).mono ?_
  rintro e w4 ⟨rfl, hb4⟩
  have b4 := belT b3 hb4
  have k4 := heap_grow k3 hb4
  have c40 := cell_of_block k4 0
  have c41 := cell_of_block k4 1
  simp at c40 c41
  clear k3 b3 hb4 ho2
  go_wp2_with fail
  refine (toNet_any p a cap ts w4 (hc.below b4) hn).mono ?_
  rintro e w5 ⟨g5, hg5, rfl, ho5, hb5⟩
  have b5 := belA (o := .cells #[.int .i64 p, .slice (some ⟨g5, 0, none⟩) ts.length ts.length] 26) (belT b4 hb5)
  have al5 : Below w5.heap.size w5 (w5.alloc (.cells #[.int .i64 p, .slice (some ⟨g5, 0, none⟩) ts.length ts.length] 26)) := (Below.refl _ _).alloc (Nat.le_refl _) _
  have k5 := blk_alloc (o := .cells #[.int .i64 p, .slice (some ⟨g5, 0, none⟩) ts.length ts.length] 26) (heap_grow k4 hb5)
  have n5 := blk_new w5 #[.int .i64 p, .slice (some ⟨g5, 0, none⟩) ts.length ts.length] 26
  have o5 := ho5.below al5
  have hbx5 : w.heap.size < w5.heap.size := Nat.lt_of_lt_of_le (Array.getElem?_eq_some_iff.1 k4).1 hb5.size
  clear k4 b4 hb5 ho5 al5 c40 c41
  go_wp2_with fail
  refine (toIntS_any af capf xs _ (hf.below b5) hnf).mono ?_
  rintro e w6 ⟨g6, hg6, rfl, ho6, hb6⟩
  have b6 := belT b5 hb6
  have k6 := heap_grow k5 hb6
  have n6 := heap_grow n5 hb6
  have o6 := o5.below hb6
  have c60 := cell_of_block n6 0
  have c61 := cell_of_block n6 1
  simp at c60 c61
  clear k5 n5 o5 b5 hb6
  go_wp2_with fail
  refine (HI.out _ _ _ _ _ o6.rd3 ho6.rd).mono ?_
  rintro e w7 ⟨rfl, hb7⟩
  have f7 := ho6.ownP.below hb7
  clear ho6
  have b7 := belT b6 hb7
  have k7 := heap_grow k6 hb7
  have n7 := heap_grow n6 hb7
  have o7 := o6.below hb7
  clear k6 n6 o6 b6 hb7
  have c70 := cell_of_block k7 0
  have c71 := cell_of_block k7 1
  have d70 := cell_of_block n7 0
  have d71 := cell_of_block n7 1
  simp at c70 c71 d70 d71
  have hl7 := (Array.getElem?_eq_some_iff.1 n7).1
  go_wp2
  have hcd := hc.below (belD b7)
  have o7d : OwnP w7.drew g5 60 (flat ts) := o7
  generalize hB5 : w5.heap.size = B5 at *
  go_region_held3 (fun w' => w'.cell? ⟨B5, 0, none⟩ = some (.int .i64 p) ∧ w'.cell? ⟨B5, 1, none⟩ = some (.slice (some ⟨g5, 0, none⟩) ts.length ts.length) ∧ w'.cell? ⟨w.heap.size, 0, none⟩ = some (.int .i64 p) ∧ w'.cell? ⟨w.heap.size, 1, none⟩ = some (.slice a ts.length cap))
    (first
      | go_keep
      | exact ⟨(hb9.cell (p := ⟨B5, 0, none⟩) (Nat.lt_of_lt_of_le hl7 hb8.size)).trans ((hb8.cell (p := ⟨B5, 0, none⟩) hl7).trans d70), (hb9.cell (p := ⟨B5, 1, none⟩) (Nat.lt_of_lt_of_le hl7 hb8.size)).trans ((hb8.cell (p := ⟨B5, 1, none⟩) hl7).trans d71), (hb9.cell (p := ⟨w.heap.size, 0, none⟩) (Nat.lt_of_lt_of_le (Nat.lt_trans hbx5 hl7) hb8.size)).trans ((hb8.cell (p := ⟨w.heap.size, 0, none⟩) (Nat.lt_trans hbx5 hl7)).trans c70), (hb9.cell (p := ⟨w.heap.size, 1, none⟩) (Nat.lt_of_lt_of_le (Nat.lt_trans hbx5 hl7) hb8.size)).trans ((hb8.cell (p := ⟨w.heap.size, 1, none⟩) (Nat.lt_trans hbx5 hl7)).trans c71)⟩
      | exact ⟨(hb8.cell (p := ⟨B5, 0, none⟩) hl7).trans d70, (hb8.cell (p := ⟨B5, 1, none⟩) hl7).trans d71, (hb8.cell (p := ⟨w.heap.size, 0, none⟩) (Nat.lt_trans hbx5 hl7)).trans c70, (hb8.cell (p := ⟨w.heap.size, 1, none⟩) (Nat.lt_trans hbx5 hl7)).trans c71⟩)
    ((first
      | (go_at_call 23; refine (toNet_any p a cap ts _ hcd hn).mono ?_; rintro e w8 ⟨g8, hg8, rfl, ho8, hb8⟩)
      | (go_at_call 25; refine (eqNet_any p p (some ⟨g5, 0, none⟩) (some ⟨g8, 0, none⟩) ts.length ts.length ts ts _ (o7d.below hb8).rd3 ho8.rd3 hn).mono ?_; rintro e w9 ⟨rfl, hb9⟩)))
  have b9 := belT (belT (belD b7) hb8) hb9
  have f9 := (OwnP.below (w := w7.drew) f7 hb8).below hb9
  clear hcd o7d o7 k7 n7 c70 c71 d70 d71 b7 hb8 hb9
  go_wp2_with fail
  refine (toIntS_any af capf xs w9 (hf.below b9) hnf).mono ?_
  rintro e w10 ⟨g10, hg10, rfl, ho10, hb10⟩
  have b10 := belT b9 hb10
  go_wp2_with fail
  refine (eqIntS_any _ _ _ _ xs xs w10 (f9.below hb10).rd ho10.rd hnf).mono ?_
  rintro e w11 ⟨rfl, hb11⟩
  have b11 := belT b10 hb11
  go_wp2
  all_goals go_ret
  all_goals exact ⟨rfl, by assumption⟩

end Go.Proofs.Yteimcbhnjhkkbaa
