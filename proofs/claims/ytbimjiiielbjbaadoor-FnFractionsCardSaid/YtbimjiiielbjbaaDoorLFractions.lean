/- The walk of the law Fractions. -/
import Derived.Test.YtbimjiiielbjbaaDoorFracDraw
import Derived.Test.YtbimjiiielbjbaaDoorRegL
namespace Go.Proofs.YtbimjiiielbjbaaDoor
set_option linter.unusedSimpArgs false
set_option linter.unusedVariables false
open Go.RowKit

theorem idQ {Q : Ending → World → Prop} : ∀ e w', Q e w' → Q e w' := fun _ _ h => h

theorem btoi_any (q : Bool) (w : World) : Calls Tryd.prog 17 #[.bool q] w fun e w' => e = .returned (.int .i64 (if q then 1 else 0)) ∧ w = w' := by
  cases q
  · go_enter Tryd.func17, Tryd.ntmps17
    go_wp2
    go_ret
    exact ⟨rfl, rfl⟩
  · go_enter Tryd.func17, Tryd.ntmps17
    go_wp2
    go_ret
    exact ⟨rfl, rfl⟩

theorem cmpM_bd (a b c d : Int) : -1 ≤ cmpM a b c d ∧ cmpM a b c d ≤ 1 := by
  unfold cmpM; split
  · split
    · omega
    · split <;> omega
  · omega

structure FracBd (a b c d x y p q n m : Int) : Prop where
  h1 : 0 ≤ x * b ∧ x * b ≤ 1000000
  h2 : 0 ≤ x * b * d ∧ x * b * d ≤ 100000000
  h3 : 0 ≤ a * d ∧ a * d ≤ 10000
  h4 : 0 ≤ c * b ∧ c * b ≤ 10000
  h5 : 0 ≤ (a * d + c * b) * y ∧ (a * d + c * b) * y ≤ 1000000000
  h6 : 0 ≤ p * b ∧ p * b ≤ 1000000
  h7 : 0 ≤ p * b * d ∧ p * b * d ≤ 100000000
  h8 : 0 ≤ a * c ∧ a * c ≤ 10000
  h9 : 0 ≤ a * c * q ∧ a * c * q ≤ 1000000000
  g1 : 0 ≤ m * b ∧ m * b ≤ 1000000
  g2 : 0 ≤ n * a ∧ n * a ≤ 1000000
  g3 : 0 ≤ (m + 1) * b ∧ (m + 1) * b ≤ 1000000

theorem frac_bd {a b c d x y p q n m : Int} (h : smallF a b) (k : smallF c d) (hx : frOk x y = true) (hp : frOk p q = true) (n0 : 0 ≤ n) (n1 : n ≤ 255) (m0 : 0 ≤ m) (m1 : m ≤ 10000) : FracBd a b c d x y p q n m := by
  obtain ⟨hok, ha, hb⟩ := h
  obtain ⟨kok, hc, hd⟩ := k
  obtain ⟨b1, _, a0, _⟩ := frOk_bd hok
  obtain ⟨d1, _, c0, _⟩ := frOk_bd kok
  obtain ⟨y1, y2, x0, x1⟩ := frOk_bd hx
  obtain ⟨q1, q2, p0, p1⟩ := frOk_bd hp
  have b0 : 0 ≤ b := by omega
  have d0 : 0 ≤ d := by omega
  have y0 : 0 ≤ y := by omega
  have q0 : 0 ≤ q := by omega
  have e1 := mul_two x0 x1 b0 hb
  have e2 := mul_two e1.1 e1.2 d0 hd
  have e3 := mul_two a0 ha d0 hd
  have e4 := mul_two c0 hc b0 hb
  have e5 := mul_two (show 0 ≤ a * d + c * b by omega) (show a * d + c * b ≤ 3120 by omega) y0 y2
  have e6 := mul_two p0 p1 b0 hb
  have e7 := mul_two e6.1 e6.2 d0 hd
  have e8 := mul_two a0 ha c0 hc
  have e9 := mul_two e8.1 e8.2 q0 q2
  have f1 := mul_two m0 m1 b0 hb
  have f2 := mul_two n0 n1 a0 ha
  have f3 := mul_two (show 0 ≤ m + 1 by omega) (show m + 1 ≤ 10001 by omega) b0 hb
  exact ⟨⟨e1.1, by omega⟩, ⟨e2.1, by omega⟩, ⟨e3.1, by omega⟩, ⟨e4.1, by omega⟩, ⟨e5.1, by omega⟩, ⟨e6.1, by omega⟩, ⟨e7.1, by omega⟩, ⟨e8.1, by omega⟩, ⟨e9.1, by omega⟩, ⟨f1.1, by omega⟩, ⟨f2.1, by omega⟩, ⟨f3.1, by omega⟩⟩

set_option maxRecDepth 100000 in
set_option maxHeartbeats 40000000 in
theorem law_Fractions (ad : Option Addr) (cap : Nat) (bs : List Int) (w : World) (hr : Rd8 w ad bs) (hm : bs.length ≤ 9223372036854775807) (ht : Tab w) :
    Calls Tryd.prog 4 #[.slice ad bs.length cap] w fun e w' => Rets w (.bool true) e w' := by
  by_cases hl : bs.length ≤ 1048576
  case neg =>
    have hd : decide (1048576 < bs.length) = true := by simp; omega
    have HB := hide (show ∀ W, Calls Tryd.prog 8 #[.slice ad bs.length cap] W fun e w' => e = .returned (.bool true) ∧ W = w' from fun W => by rw [← hd]; exact big_any ad bs.length cap W hm)
    clear hd
    go_enter Tryd.func4, Tryd.ntmps4
    go_wp2_with fail
    refine (HB.out _).mono ?_
    rintro e w' ⟨rfl, rfl⟩
    go_wp2
    go_ret
    exact ⟨rfl, Below.refl _ _⟩
  have hd : decide (1048576 < bs.length) = false := by simp; omega
  have HB := hide (show ∀ W, Calls Tryd.prog 8 #[.slice ad bs.length cap] W fun e w' => e = .returned (.bool false) ∧ W = w' from fun W => by rw [← hd]; exact big_any ad bs.length cap W hm)
  clear hd
  go_enter Tryd.func4, Tryd.ntmps4
  go_wp2_with fail
  refine (HB.out _).mono ?_
  rintro e w' ⟨rfl, rfl⟩
  go_wp2_with fail
  refine (DrawFractions_any ad cap bs w hr hl).mono ?_
  rintro e w1 ⟨a, b, c, d, rfl, hs1, hs2, B1⟩
  obtain ⟨x, y, p, q, HL⟩ := frac_law hs1 hs2
  have HAdd := hide (fun W => (show Calls Tryd.prog 10 #[.agg #[.int .i64 a, .int .i64 b], .agg #[.int .i64 c, .int .i64 d]] W fun e w' => Rets W (.tuple #[.agg #[.int .i64 x, .int .i64 y], .bool true]) e w' by
    have := implAddFractions_any a b c d W; rw [HL.add] at this; exact this))
  have HAdd' := hide (fun W => (show Calls Tryd.prog 10 #[.agg #[.int .i64 c, .int .i64 d], .agg #[.int .i64 a, .int .i64 b]] W fun e w' => Rets W (.tuple #[.agg #[.int .i64 x, .int .i64 y], .bool true]) e w' by
    have := implAddFractions_any c d a b W; rw [HL.add'] at this; exact this))
  have HMul := hide (fun W => (show Calls Tryd.prog 11 #[.agg #[.int .i64 a, .int .i64 b], .agg #[.int .i64 c, .int .i64 d]] W fun e w' => Rets W (.tuple #[.agg #[.int .i64 p, .int .i64 q], .bool true]) e w' by
    have := implTimesFraction_any a b c d W; rw [HL.mul] at this; exact this))
  have HMul' := hide (fun W => (show Calls Tryd.prog 11 #[.agg #[.int .i64 c, .int .i64 d], .agg #[.int .i64 a, .int .i64 b]] W fun e w' => Rets W (.tuple #[.agg #[.int .i64 p, .int .i64 q], .bool true]) e w' by
    have := implTimesFraction_any c d a b W; rw [HL.mul'] at this; exact this))
  have HOkx := hide (fun W => (show Calls Tryd.prog 12 #[.agg #[.int .i64 x, .int .i64 y]] W fun e w' => Rets W (.bool true) e w' by
    have := implFractionOk_any x y W; rw [HL.okx] at this; exact this))
  have HOkp := hide (fun W => (show Calls Tryd.prog 12 #[.agg #[.int .i64 p, .int .i64 q]] W fun e w' => Rets W (.bool true) e w' by
    have := implFractionOk_any p q W; rw [HL.okp] at this; exact this))
  have HMk := hide (fun W => (show Calls Tryd.prog 16 #[.int .i64 (3 * a), .int .i64 (3 * b)] W fun e w' => Rets W (.tuple #[.agg #[.int .i64 a, .int .i64 b], .bool true]) e w' by
    have := implMakeFraction_any (3 * a) (3 * b) W; rw [HL.three] at this; exact this))
  have HCmp := hide (fun W => (show Calls Tryd.prog 15 #[.agg #[.int .i64 a, .int .i64 b], .agg #[.int .i64 c, .int .i64 d]] W fun e w' => Rets W (.int .i64 (-cmpM c d a b)) e w' by
    rw [← HL.neg]; exact implCompareFractions_any a b c d W))
  have hkb := cmpM_bd c d a b
  have HSame := hide (show (-cmpM c d a b == 0) = (a == c && b == d) by rw [← HL.neg]; exact HL.same)
  have HCmp' := hide (fun W => implCompareFractions_any c d a b W)
  have HCmpX := hide (fun W => (show Calls Tryd.prog 15 #[.agg #[.int .i64 x, .int .i64 y], .agg #[.int .i64 a, .int .i64 b]] W fun e w' => Rets W (.int .i64 (if 0 < c then 1 else 0)) e w' by
    rw [← HL.more]; exact implCompareFractions_any x y a b W))
  have HTx := hide (fun W (h : Below w.heap.size w W) => implFractionText_any a b W (ht.below h))
  have HT3 := hide (fun W (h : Below w.heap.size w W) => (show Calls Tryd.prog 7 #[.agg #[.int .i64 3, .int .i64 4]] W fun e w' => Rets W (.string ⟨#[51, 47, 52]⟩) e w' by
    rw [← frac_34]; exact implFractionText_any 3 4 W (ht.below h)))
  have HPt := hide (fun n W => implPartOf_any a b n W)
  have HRb := hide (fun W (h : Below w.heap.size w W) => hr.below h)
  have HLw := hide HL
  have hsz := frac_pos a b hs1
  have a0 := (frOk_bd hs1.1).2.2.1
  have a9 := hs1.2.1
  have b0 := (frOk_bd hs1.1).1
  have b9 := hs1.2.2
  have HS1 := hide hs1
  have HS2 := hide hs2
  have HSz := hide hsz
  clear HL hs1 hs2 ht hsz
  generalize fracS a b = TX at *
  generalize cmpM c d a b = kk at *
  go_wp2_with fail
  have A2 := heap_grow (blk_newF w1 #[.int .i64 a, .int .i64 b] 25) ((Below.refl _ _).alloc (Nat.le_refl _) (.cells #[.int .i64 c, .int .i64 d] 25))
  have C2 := blk_newF (w1.alloc (.cells #[.int .i64 a, .int .i64 b] 25)) #[.int .i64 c, .int .i64 d] 25
  have B2 := belA (o := .cells #[.int .i64 c, .int .i64 d] 25) (belA (o := .cells #[.int .i64 a, .int .i64 b] 25) B1)
  rw [World.size_alloc] at C2
  (with_reducible refine (HAdd.out _).mono ?_)
  rintro e w3 ⟨rfl, hb3⟩
  have B3 := belT B2 hb3
  have A3 := heap_grow A2 hb3
  have C3 := heap_grow C2 hb3
  clear A2 C2 hb3 B2
  have cA0 := cell_of_block A3 0
  have cA1 := cell_of_block A3 1
  have cAl := (Array.getElem?_eq_some_iff.1 A3).1
  have cC0 := cell_of_block C3 0
  have cC1 := cell_of_block C3 1
  have cCl := (Array.getElem?_eq_some_iff.1 C3).1
  simp at cA0 cA1 cC0 cC1
  have al3 := (Below.refl w3.heap.size w3).alloc (Nat.le_refl _) (.cells #[.int .i64 x, .int .i64 y] 25)
  have A4 := heap_grow A3 al3
  have C4 := heap_grow C3 al3
  have X4 := blk_newF w3 #[.int .i64 x, .int .i64 y] 25
  have B4 := belA (o := .cells #[.int .i64 x, .int .i64 y] 25) B3
  go_wp2_with fail
  clear A3 C3 al3 B3
  clear cA0 cA1 cAl cC0 cC1 cCl
  (with_reducible refine (HAdd'.out _).mono ?_)
  rintro e w5 ⟨rfl, hb5⟩
  have B5 := belT B4 hb5
  have A5 := heap_grow A4 hb5
  have C5 := heap_grow C4 hb5
  have X5 := heap_grow X4 hb5
  clear A4 C4 X4 hb5 B4
  have cA0 := cell_of_block A5 0
  have cA1 := cell_of_block A5 1
  have cAl := (Array.getElem?_eq_some_iff.1 A5).1
  have cC0 := cell_of_block C5 0
  have cC1 := cell_of_block C5 1
  have cCl := (Array.getElem?_eq_some_iff.1 C5).1
  simp at cA0 cA1 cC0 cC1
  have al5 := (Below.refl w5.heap.size w5).alloc (Nat.le_refl _) (.cells #[.int .i64 x, .int .i64 y] 25)
  have A6 := heap_grow A5 al5
  have C6 := heap_grow C5 al5
  have X6 := heap_grow X5 al5
  have Y6 := blk_newF w5 #[.int .i64 x, .int .i64 y] 25
  have B6 := belA (o := .cells #[.int .i64 x, .int .i64 y] 25) B5
  go_wp2_with fail
  clear A5 C5 X5 al5 B5
  clear cA0 cA1 cAl cC0 cC1 cCl
  (with_reducible refine (HMul.out _).mono ?_)
  rintro e w7 ⟨rfl, hb7⟩
  have B7 := belT B6 hb7
  have A7 := heap_grow A6 hb7
  have C7 := heap_grow C6 hb7
  have X7 := heap_grow X6 hb7
  have Y7 := heap_grow Y6 hb7
  clear A6 C6 X6 Y6 hb7 B6
  have cA0 := cell_of_block A7 0
  have cA1 := cell_of_block A7 1
  have cAl := (Array.getElem?_eq_some_iff.1 A7).1
  have cC0 := cell_of_block C7 0
  have cC1 := cell_of_block C7 1
  have cCl := (Array.getElem?_eq_some_iff.1 C7).1
  simp at cA0 cA1 cC0 cC1
  have al7 := (Below.refl w7.heap.size w7).alloc (Nat.le_refl _) (.cells #[.int .i64 p, .int .i64 q] 25)
  have A8 := heap_grow A7 al7
  have C8 := heap_grow C7 al7
  have X8 := heap_grow X7 al7
  have Y8 := heap_grow Y7 al7
  have P8 := blk_newF w7 #[.int .i64 p, .int .i64 q] 25
  have B8 := belA (o := .cells #[.int .i64 p, .int .i64 q] 25) B7
  go_wp2_with fail
  clear A7 C7 X7 Y7 al7 B7
  clear cA0 cA1 cAl cC0 cC1 cCl
  (with_reducible refine (HMul'.out _).mono ?_)
  rintro e w9 ⟨rfl, hb9⟩
  have B9 := belT B8 hb9
  have A9 := heap_grow A8 hb9
  have C9 := heap_grow C8 hb9
  have X9 := heap_grow X8 hb9
  have Y9 := heap_grow Y8 hb9
  have P9 := heap_grow P8 hb9
  clear A8 C8 X8 Y8 P8 hb9 B8
  have cX0 := cell_of_block X9 0
  have cX1 := cell_of_block X9 1
  have cXl := (Array.getElem?_eq_some_iff.1 X9).1
  have cY0 := cell_of_block Y9 0
  have cY1 := cell_of_block Y9 1
  have cYl := (Array.getElem?_eq_some_iff.1 Y9).1
  have cP0 := cell_of_block P9 0
  have cP1 := cell_of_block P9 1
  have cPl := (Array.getElem?_eq_some_iff.1 P9).1
  have cA0 := cell_of_block A9 0
  have cA1 := cell_of_block A9 1
  have cAl := (Array.getElem?_eq_some_iff.1 A9).1
  have cC0 := cell_of_block C9 0
  have cC1 := cell_of_block C9 1
  have cCl := (Array.getElem?_eq_some_iff.1 C9).1
  simp at cX0 cX1 cY0 cY1 cP0 cP1 cA0 cA1 cC0 cC1
  have al9 := (Below.refl w9.heap.size w9).alloc (Nat.le_refl _) (.cells #[.int .i64 p, .int .i64 q] 25)
  have A10 := heap_grow A9 al9
  have C10 := heap_grow C9 al9
  have X10 := heap_grow X9 al9
  have Y10 := heap_grow Y9 al9
  have P10 := heap_grow P9 al9
  have Q10 := blk_newF w9 #[.int .i64 p, .int .i64 q] 25
  have B10 := belA (o := .cells #[.int .i64 p, .int .i64 q] 25) B9
  go_wp2_with fail
  clear A9 C9 X9 Y9 P9 al9 B9
  clear cX0 cX1 cXl cY0 cY1 cYl cP0 cP1 cPl cA0 cA1 cAl cC0 cC1 cCl
  (with_reducible refine (HOkx.out _).mono ?_)
  rintro e w11 ⟨rfl, hb11⟩
  have B11 := belT B10 hb11
  have A11 := heap_grow A10 hb11
  have C11 := heap_grow C10 hb11
  have X11 := heap_grow X10 hb11
  have Y11 := heap_grow Y10 hb11
  have P11 := heap_grow P10 hb11
  have Q11 := heap_grow Q10 hb11
  clear A10 C10 X10 Y10 P10 Q10 hb11 B10
  have cP0 := cell_of_block P11 0
  have cP1 := cell_of_block P11 1
  have cPl := (Array.getElem?_eq_some_iff.1 P11).1
  simp at cP0 cP1
  go_wp2_with fail
  clear cP0 cP1 cPl
  (with_reducible refine (HOkp.out _).mono ?_)
  rintro e w12 ⟨rfl, hb12⟩
  have B12 := belT B11 hb12
  have A12 := heap_grow A11 hb12
  have C12 := heap_grow C11 hb12
  have X12 := heap_grow X11 hb12
  have Y12 := heap_grow Y11 hb12
  have P12 := heap_grow P11 hb12
  have Q12 := heap_grow Q11 hb12
  clear A11 C11 X11 Y11 P11 Q11 hb12 B11
  have cA0 := cell_of_block A12 0
  have cA1 := cell_of_block A12 1
  have cAl := (Array.getElem?_eq_some_iff.1 A12).1
  simp at cA0 cA1
  go_wp2_with fail
  clear cA0 cA1 cAl
  refine (at_any ad cap bs 0 _ (HRb.out _ B12) hl (by omega) (by omega)).mono ?_
  rintro e wz ⟨⟨n, rfl, n0, n1⟩, rfl⟩
  obtain ⟨m1, m2, m3, m4, -⟩ := part_law HS1.out n0 n1
  have HP := hide (HPt.out n)
  have HBd := hide (frac_bd HS1.out HS2.out HLw.out.okx HLw.out.okp n0 n1 m3 m4)
  generalize partM a b n = m at *
  have cA0 := cell_of_block A12 0
  have cA1 := cell_of_block A12 1
  have cAl := (Array.getElem?_eq_some_iff.1 A12).1
  simp at cA0 cA1
  go_wp2_with fail
  clear cA0 cA1 cAl
  (with_reducible refine (HP.out _).mono ?_)
  rintro e w13 ⟨rfl, hb13⟩
  have B13 := belT B12 hb13
  have A13 := heap_grow A12 hb13
  have C13 := heap_grow C12 hb13
  have X13 := heap_grow X12 hb13
  have Y13 := heap_grow Y12 hb13
  have P13 := heap_grow P12 hb13
  have Q13 := heap_grow Q12 hb13
  clear A12 C12 X12 Y12 P12 Q12 hb13 B12
  have cA0 := cell_of_block A13 0
  have cA1 := cell_of_block A13 1
  have cAl := (Array.getElem?_eq_some_iff.1 A13).1
  have cC0 := cell_of_block C13 0
  have cC1 := cell_of_block C13 1
  have cCl := (Array.getElem?_eq_some_iff.1 C13).1
  simp at cA0 cA1 cC0 cC1
  go_wp2_with fail
  clear cA0 cA1 cAl cC0 cC1 cCl
  (with_reducible refine (HCmp.out _).mono ?_)
  rintro e w14 ⟨rfl, hb14⟩
  have B14 := belT B13 hb14
  have A14 := heap_grow A13 hb14
  have C14 := heap_grow C13 hb14
  have X14 := heap_grow X13 hb14
  have Y14 := heap_grow Y13 hb14
  have P14 := heap_grow P13 hb14
  have Q14 := heap_grow Q13 hb14
  clear A13 C13 X13 Y13 P13 Q13 hb14 B13
  have cA0 := cell_of_block A14 0
  have cA1 := cell_of_block A14 1
  have cAl := (Array.getElem?_eq_some_iff.1 A14).1
  simp at cA0 cA1
  go_wp2_with fail
  clear cA0 cA1 cAl
  (with_reducible refine (HTx.out _ B14).mono ?_)
  rintro e w15 ⟨rfl, hb15⟩
  have B15 := belT B14 hb15
  have A15 := heap_grow A14 hb15
  have C15 := heap_grow C14 hb15
  have X15 := heap_grow X14 hb15
  have Y15 := heap_grow Y14 hb15
  have P15 := heap_grow P14 hb15
  have Q15 := heap_grow Q14 hb15
  clear A14 C14 X14 Y14 P14 Q14 hb15 B14
  have cA0 := cell_of_block A15 0
  have cA1 := cell_of_block A15 1
  have cAl := (Array.getElem?_eq_some_iff.1 A15).1
  simp at cA0 cA1
  go_wp2_with fail
  clear cA0 cA1 cAl
  (with_reducible refine (HMk.out _).mono ?_)
  rintro e w16 ⟨rfl, hb16⟩
  have B16 := belT B15 hb16
  have A16 := heap_grow A15 hb16
  have C16 := heap_grow C15 hb16
  have X16 := heap_grow X15 hb16
  have Y16 := heap_grow Y15 hb16
  have P16 := heap_grow P15 hb16
  have Q16 := heap_grow Q15 hb16
  clear A15 C15 X15 Y15 P15 Q15 hb16 B15
  have al := (Below.refl w16.heap.size w16).alloc (Nat.le_refl _) (.cells #[.int .i64 a, .int .i64 b] 25)
  have A17 := heap_grow A16 al
  have C17 := heap_grow C16 al
  have X17 := heap_grow X16 al
  have Y17 := heap_grow Y16 al
  have P17 := heap_grow P16 al
  have Q17 := heap_grow Q16 al
  have F17 := blk_newF w16 #[.int .i64 a, .int .i64 b] 25
  have B17 := belA (o := .cells #[.int .i64 a, .int .i64 b] 25) B16
  have cA0 := cell_of_block A16 0
  have cA1 := cell_of_block A16 1
  have cAl := (Array.getElem?_eq_some_iff.1 A16).1
  have cC0 := cell_of_block C16 0
  have cC1 := cell_of_block C16 1
  have cCl := (Array.getElem?_eq_some_iff.1 C16).1
  have cX0 := cell_of_block X16 0
  have cX1 := cell_of_block X16 1
  have cXl := (Array.getElem?_eq_some_iff.1 X16).1
  have cP0 := cell_of_block P16 0
  have cP1 := cell_of_block P16 1
  have cPl := (Array.getElem?_eq_some_iff.1 P16).1
  simp at cA0 cA1 cC0 cC1 cX0 cX1 cP0 cP1
  obtain ⟨u1, u2, u3, u4, u5, u6, u7, u8, u9, v1, v2, v3⟩ := HBd.out
  have hm1 : m * b ≤ n * a := m1
  have hm2 : n * a < (m + 1) * b := m2
  have hcc : c = 0 ∨ 0 < c := by have := (frOk_bd HS2.out.1).2.2.1; omega
  go_wp2_with fail
  simp only [List.append_eq, List.cons_append, List.nil_append]
  have hE : ((a = c) = True ∧ (b = d) = True ∧ kk = 0) ∨ ((a = c) = True ∧ (b = d) = False ∧ kk ≠ 0) ∨ ((a = c) = False ∧ (b = d) = (b = d) ∧ kk ≠ 0) := by
    have hS := HSame.out
    by_cases h1 : a = c
    · by_cases h2 : b = d
      · refine .inl ⟨eq_true h1, eq_true h2, ?_⟩
        have hz : (-kk == 0) = true := by rw [hS, beq_iff_eq.2 h1, beq_iff_eq.2 h2]; rfl
        have := beq_iff_eq.1 hz
        omega
      · refine .inr (.inl ⟨eq_true h1, eq_false h2, ?_⟩)
        intro e
        rw [e, beq_false_of_ne h2, Bool.and_false] at hS
        exact absurd hS (by decide)
    · refine .inr (.inr ⟨eq_false h1, rfl, ?_⟩)
      intro e
      rw [e, beq_false_of_ne h1, Bool.false_and] at hS
      exact absurd hS (by decide)
  have hvx := HLw.out.valx
  have hvp := HLw.out.valp
  have W1 : IntKind.i64.wrap (x * b) = x * b := IntWalk.i64_in _ (by omega)
  have W2 : IntKind.i64.wrap (x * b * d) = x * b * d := IntWalk.i64_in _ (by omega)
  have W3 : IntKind.i64.wrap (a * d) = a * d := IntWalk.i64_in _ (by omega)
  have W4 : IntKind.i64.wrap (c * b) = c * b := IntWalk.i64_in _ (by omega)
  have W5 : IntKind.i64.wrap (a * d + c * b) = a * d + c * b := IntWalk.i64_in _ (by omega)
  have W6 : IntKind.i64.wrap ((a * d + c * b) * y) = (a * d + c * b) * y := IntWalk.i64_in _ (by omega)
  have W7 : IntKind.i64.wrap (p * b) = p * b := IntWalk.i64_in _ (by omega)
  have W8 : IntKind.i64.wrap (p * b * d) = p * b * d := IntWalk.i64_in _ (by omega)
  have W9 : IntKind.i64.wrap (a * c) = a * c := IntWalk.i64_in _ (by omega)
  have W10 : IntKind.i64.wrap (a * c * q) = a * c * q := IntWalk.i64_in _ (by omega)
  have W11 : IntKind.i64.wrap (m * b) = m * b := IntWalk.i64_in _ (by omega)
  have W12 : IntKind.i64.wrap (n * a) = n * a := IntWalk.i64_in _ (by omega)
  have W13 : IntKind.i64.wrap (m + 1) = m + 1 := IntWalk.i64_in _ (by omega)
  have W14 : IntKind.i64.wrap ((m + 1) * b) = (m + 1) * b := IntWalk.i64_in _ (by omega)
  obtain ⟨z1, z2⟩ := HSz.out
  have W0 : IntKind.i64.wrap 0 = 0 := IntWalk.i64_in _ (by omega)
  have W15 : IntKind.i64.wrap (-kk) = -kk := IntWalk.i64_in _ (by omega)
  rcases hE with ⟨E1, E2, E3⟩ | ⟨E1, E2, E3⟩ | ⟨E1, E2, E3⟩
  case' inr.inr => clear E2
  all_goals refine wp_region_l (by kernel_rfl) (by kernel_rfl) (by kernel_rfl) ?_
  all_goals iterate 110 (refine wpG_step (fun K hK => ?_); go_simp; first | (refine hK _ ?_; clear hK K) | (apply Exists.intro; refine ⟨fun _ => ?_, hK _ ?_⟩; (first | (go_at_call 15; first | ((with_reducible refine (HCmp'.out _).mono ?_); exact idQ) | ((with_reducible refine (HCmpX.out _).mono ?_); exact idQ)) | (go_at_call 17; exact same_g (btoi_any _ _)) | (go_at_call 7; exact HT3.out _ (B17.trans ((below_grew _ _).mono B17.size))) | (simp only [E1, E2, if_true, if_false]; exact ⟨rfl, rfl⟩)); clear hK K))
  all_goals refine wpG_nil ?_
  all_goals intro wr hbr
  all_goals go_wp2
  all_goals go_ret
  all_goals exact ⟨by simp [*] <;> omega, B17.trans (hbr.mono B17.size)⟩

end Go.Proofs.YtbimjiiielbjbaaDoor
