/- Cuts by the reference; which sets are cuts. -/
import Derived.Test.YteimcbhnjhkkbaaCut
namespace Go.Proofs.Yteimcbhnjhkkbaa
set_option linter.unusedSimpArgs false
set_option linter.unusedVariables false
open Go.RowKit


def isCutM (p : Int) (ts : List T3) (s x y : Int) : Bool := decide (0 ≤ cutM p ts s) && placeM p ts x && placeM p ts y && memB s x && !memB s y

theorem place_bd {p : Int} {ts : List T3} {x : Int} (h : placeM p ts x = true) : 0 ≤ x ∧ x ≤ 7 := by
  simp only [placeM, Bool.and_eq_true] at h
  have h1 := netOk_parts h.1
  have h2 := inB_iff.1 h.2
  omega
theorem cutM_bd (p : Int) (ts : List T3) (s : Int) : cutM p ts s < 0 ∨ 0 ≤ s := by
  by_cases h : 0 ≤ s
  · exact .inr h
  · left
    have : inB s 0 (2 ^ p.toNat - 1) = false := inB_not.2 (by omega)
    simp [cutM, this]
/-- A cut has its two places apart. -/
theorem isCut_two (p : Int) (ts : List T3) (s x y : Int) : isCutM p ts s x y = (decide (0 ≤ cutM p ts s) && twoM p ts x y && memB s x && !memB s y) := by
  simp only [isCutM, placeM, twoM]
  by_cases hxy : x = y
  · subst hxy
    cases memB s x <;> simp
  · have : (x != y) = true := by simpa using hxy
    rw [this]
    cases decide (0 ≤ cutM p ts s) <;> cases netOk p ts <;> cases inB x 0 (p - 1) <;> cases inB y 0 (p - 1) <;> rfl

theorem implIsCut_any (p s x y : Int) (a : Option Addr) (cap : Nat) (ts : List T3) (w : World) (hc : Rd3 w a ts) (hn : ts.length ≤ 1048576) :
    Calls Try.prog 15 #[.agg #[.int .i64 p, .slice a ts.length cap], .int .i64 s, .int .i64 x, .int .i64 y] w fun e w' => Rets w (.bool (isCutM p ts s x y)) e w' := by
  have HC := hide (fun W (hb : Below w.heap.size w W) => implCutWidth_any p s a cap ts W (hc.below hb) hn)
  have HX := hide (fun W (hb : Below w.heap.size w W) => isPlace_any p a cap ts x W (hc.below hb) hn)
  have HY := hide (fun W (hb : Below w.heap.size w W) => isPlace_any p a cap ts y W (hc.below hb) hn)
  have HM := hide (show isCutM p ts s x y = (decide (0 ≤ cutM p ts s) && placeM p ts x && placeM p ts y && memB s x && !memB s y) from rfl)
  have hbx := @place_bd p ts x
  have hby := @place_bd p ts y
  have hcs := cutM_bd p ts s
  generalize cutM p ts s = C at *
  generalize placeM p ts x = X at *
  generalize placeM p ts y = Y at *
  by_cases hC : 0 ≤ C
  case neg =>
    have hd : decide (0 ≤ C) = false := by simpa using hC
    go_enter Try.func15, Try.ntmps15
    go_wp2_with fail
    (with_reducible refine (HC.out _ (belA (Below.refl _ _))).mono ?_)
    rintro e w2 ⟨rfl, hb⟩
    have b0 := belT (belA (Below.refl w.heap.size w)) hb
    go_wp2
    go_ret
    exact ⟨ret_bool (by rw [HM.out, hd]; rfl), b0⟩
  have hd : decide (0 ≤ C) = true := by simpa using hC
  have hs : 0 ≤ s := by omega
  clear hcs
  cases X
  · clear hbx hby
    go_enter Try.func15, Try.ntmps15
    go_wp2_with fail
    (with_reducible refine (HC.out _ (belA (Below.refl _ _))).mono ?_)
    rintro e w2 ⟨rfl, hb⟩
    have b0 := belT (belA (Below.refl w.heap.size w)) hb
    have hbk := heap_grow (blk_new w #[.int .i64 p, .slice a ts.length cap] 26) hb
    have c0 := cell_of_block hbk 0
    have c1 := cell_of_block hbk 1
    simp at c0 c1
    go_wp2_with fail
    (with_reducible refine (HX.out _ b0).mono ?_)
    rintro e w3 ⟨rfl, hb3⟩
    have b3 := belT b0 hb3
    go_wp2
    go_ret
    exact ⟨ret_bool (by rw [HM.out, hd]; rfl), b3⟩
  cases Y
  · clear hbx hby
    go_enter Try.func15, Try.ntmps15
    go_wp2_with fail
    (with_reducible refine (HC.out _ (belA (Below.refl _ _))).mono ?_)
    rintro e w2 ⟨rfl, hb⟩
    have b0 := belT (belA (Below.refl w.heap.size w)) hb
    have hbk := heap_grow (blk_new w #[.int .i64 p, .slice a ts.length cap] 26) hb
    have c0 := cell_of_block hbk 0
    have c1 := cell_of_block hbk 1
    simp at c0 c1
    go_wp2_with fail
    (with_reducible refine (HX.out _ b0).mono ?_)
    rintro e w3 ⟨rfl, hb3⟩
    have b3 := belT b0 hb3
    have hbk3 := heap_grow hbk hb3
    have d0 := cell_of_block hbk3 0
    have d1 := cell_of_block hbk3 1
    simp at d0 d1
    go_wp2_with fail
    (with_reducible refine (HY.out _ b3).mono ?_)
    rintro e w4 ⟨rfl, hb4⟩
    have b4 := belT b3 hb4
    go_wp2
    go_ret
    exact ⟨ret_bool (by rw [HM.out, hd]; rfl), b4⟩
  obtain ⟨x0, x7⟩ := hbx rfl
  obtain ⟨y0, y7⟩ := hby rfl
  clear hbx hby
  cases hx : memB s x with
  | false =>
    have hx1 := memB_1 hx
    rw [hx] at HM
    clear hx
    go_enter Try.func15, Try.ntmps15
    go_wp2_with fail
    (with_reducible refine (HC.out _ (belA (Below.refl _ _))).mono ?_)
    rintro e w2 ⟨rfl, hb⟩
    have b0 := belT (belA (Below.refl w.heap.size w)) hb
    have hbk := heap_grow (blk_new w #[.int .i64 p, .slice a ts.length cap] 26) hb
    have c0 := cell_of_block hbk 0
    have c1 := cell_of_block hbk 1
    simp at c0 c1
    go_wp2_with fail
    (with_reducible refine (HX.out _ b0).mono ?_)
    rintro e w3 ⟨rfl, hb3⟩
    have b3 := belT b0 hb3
    have hbk3 := heap_grow hbk hb3
    have d0 := cell_of_block hbk3 0
    have d1 := cell_of_block hbk3 1
    simp at d0 d1
    go_wp2_with fail
    (with_reducible refine (HY.out _ b3).mono ?_)
    rintro e w4 ⟨rfl, hb4⟩
    have b4 := belT b3 hb4
    go_wp2
    all_goals go_ret
    all_goals exact ⟨ret_bool (by rw [HM.out, hd]; rfl), b4⟩
  | true =>
    have hx1 := memB_1 hx
    rw [hx] at HM
    clear hx
    have hy1 := memB_0 (s := s) (x := y) rfl
    generalize memB s y = my at *
    go_enter Try.func15, Try.ntmps15
    go_wp2_with fail
    (with_reducible refine (HC.out _ (belA (Below.refl _ _))).mono ?_)
    rintro e w2 ⟨rfl, hb⟩
    have b0 := belT (belA (Below.refl w.heap.size w)) hb
    have hbk := heap_grow (blk_new w #[.int .i64 p, .slice a ts.length cap] 26) hb
    have c0 := cell_of_block hbk 0
    have c1 := cell_of_block hbk 1
    simp at c0 c1
    go_wp2_with fail
    (with_reducible refine (HX.out _ b0).mono ?_)
    rintro e w3 ⟨rfl, hb3⟩
    have b3 := belT b0 hb3
    have hbk3 := heap_grow hbk hb3
    have d0 := cell_of_block hbk3 0
    have d1 := cell_of_block hbk3 1
    simp at d0 d1
    go_wp2_with fail
    (with_reducible refine (HY.out _ b3).mono ?_)
    rintro e w4 ⟨rfl, hb4⟩
    have b4 := belT b3 hb4
    go_wp2
    all_goals go_ret
    all_goals exact ⟨ret_bool (by rw [HM.out, hd]; simp_all), b4⟩


end Go.Proofs.Yteimcbhnjhkkbaa
