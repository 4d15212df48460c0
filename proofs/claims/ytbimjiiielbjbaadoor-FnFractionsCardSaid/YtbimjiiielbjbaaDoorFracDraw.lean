/- Drawn fractions. -/
import Derived.Test.YtbimjiiielbjbaaDoorFracL
import Derived.Test.YtbimjiiielbjbaaDoorCur
import Derived.Deep.RegionHeld3
namespace Go.Proofs.YtbimjiiielbjbaaDoor
set_option linter.unusedSimpArgs false
set_option linter.unusedVariables false
open Go.RowKit

theorem blk_newF (w : World) (C : Array Value) (T : TypeId) : (w.alloc (.cells C T)).heap[w.heap.size]? = some (.cells C T (0, 0)) := by
  show (w.heap.push _)[w.heap.size]? = _; simp
theorem blk_grownF {w w' : World} {b : Nat} {r : Option Nat} {x : Obj} (h : w.heap[b]? = some x) (hb : w.grownBy w' r) (hne : some b ≠ r) : w'.heap[b]? = some x := by
  rw [hb.block b (Array.getElem?_eq_some_iff.1 h).1 hne]; exact h

def DrF (B g : Nat) (w : World) (e : Ending) (w' : World) : Prop := ∃ t b : Int, e = .returned (.agg #[.int .i64 t, .int .i64 b]) ∧ smallF t b ∧ CurAt B w' g ∧ w.grownBy w' (some g)

set_option maxRecDepth 100000 in
theorem l11Fraction_any (B g : Nat) (w : World) (hc : CurAt B w g) :
    Calls Tryd.prog 22 #[.pointer (some ⟨g, 0, none⟩)] w (DrF B g w) := by
  have hgl := hc.lt
  go_enter Tryd.func22, Tryd.ntmps22
  go_wp2_with fail
  refine (l01Below_any B g 40 _ hc.al (by omega) (by omega)).mono ?_
  rintro e w1 ⟨x, rfl, x0, x1, hc1, hg1⟩
  have R1 := blk_grownF (blk_newF w #[.int .i64 0, .int .i64 0] 25) hg1 (by simp; omega)
  have gr1 := grownBy_trans (r := some g) (grownBy_below (grownBy_refl w (some g)) ((Below.refl _ _).alloc (Nat.le_refl _) (.cells #[.int .i64 0, .int .i64 0] 25)) (Nat.le_refl _) (Nat.le_refl _)) hg1
  clear hg1 hc
  go_wp2_with fail
  refine (l01Below_any B g 40 _ hc1 (by omega) (by omega)).mono ?_
  rintro e w2 ⟨y, rfl, y0, y1, hc2, hg2⟩
  have R2 := blk_grownF R1 hg2 (by simp; omega)
  have gr2 := grownBy_trans gr1 hg2
  clear hg2 hc1 R1 gr1
  obtain ⟨t, b, hmk, hsm⟩ := mk_small (n := x) (m := 1 + y) x0 (by omega) (by omega) (by omega)
  have HM := hide (show Calls Tryd.prog 31 #[.int .i64 x, .int .i64 (1 + y)] w2 fun e w' => Rets w2 (.tuple #[.agg #[.int .i64 t, .int .i64 b], .bool true]) e w' by
    have := specMakeFraction_any x (1 + y) w2
    rw [hmk] at this
    exact this)
  clear hmk
  go_wp2_with fail
  (with_reducible refine HM.out.mono ?_)
  rintro e w3 ⟨rfl, hb3⟩
  have R3 := heap_grow R2 hb3
  have gr3 := grownBy_below gr2 hb3 gr2.size (Nat.le_refl _)
  have hc3 := hc2.below hb3
  have hs3 := gr3.size
  clear R2 gr2 hc2 hb3
  have r0 := cell_of_block R3 0
  have r1 := cell_of_block R3 1
  have f0 := frozen_of_block R3 0
  have f1 := frozen_of_block R3 1
  have rl := (Array.getElem?_eq_some_iff.1 R3).1
  simp at r0 r1
  obtain ⟨R4, L4⟩ := store_two (x := .int .i64 t) (y := .int .i64 b) R3
  go_wp2
  clear r0 r1 f0 f1
  generalize (w3.setCell ⟨w.heap.size, 0, none⟩ (.int .i64 t)).setCell ⟨w.heap.size, 1, none⟩ (.int .i64 b) = w4 at *
  have L5 : Below w.heap.size w3 (w4.alloc (.cells #[.int .i64 t, .int .i64 b] 25)) := L4.alloc (Nat.le_trans hs3 L4.size) _
  have R5 := heap_grow R4 ((Below.refl w4.heap.size w4).alloc (Nat.le_refl _) (.cells #[.int .i64 t, .int .i64 b] 25))
  have hc5 := hc3.belowB L5 hgl.2
  have gr5 := grownBy_below gr3 L5 (Nat.le_refl _) hs3
  generalize w4.alloc (.cells #[.int .i64 t, .int .i64 b] 25) = w5 at *
  have r0 := cell_of_block R5 0
  have r1 := cell_of_block R5 1
  simp at r0 r1
  exact bodyPost_ret (by simp [results, Tryd.results22, go_sem, *]; try rfl) rfl ⟨t, b, rfl, hsm, hc5, gr5⟩

/-- Two drawn fractions. -/
def DrF2 (w : World) (e : Ending) (w' : World) : Prop := ∃ a b c d : Int, e = .returned (.tuple #[.agg #[.int .i64 a, .int .i64 b], .agg #[.int .i64 c, .int .i64 d]]) ∧ smallF a b ∧ smallF c d ∧ Below w.heap.size w w'

set_option maxRecDepth 100000 in
set_option maxHeartbeats 4000000 in
theorem DrawFractions_any (a : Option Addr) (cap : Nat) (bs : List Int) (w : World) (hr : Rd8 w a bs) (hl : bs.length ≤ 1048576) :
    Calls Tryd.prog 9 #[.slice a bs.length cap] w (DrF2 w) := by
  have HN := hide (fun W (hb : Below w.heap.size w W) => l01New_any a cap bs W (hr.below hb) hl)
  have R1 := blk_newF w #[.int .i64 0, .int .i64 0] 25
  have S1 := blk_newF (w.alloc (.cells #[.int .i64 0, .int .i64 0] 25)) #[.int .i64 0, .int .i64 0] 25
  have R2 := heap_grow R1 ((Below.refl _ _).alloc (Nat.le_refl _) (.cells #[.int .i64 0, .int .i64 0] 25))
  have B2 : Below w.heap.size w ((w.alloc (.cells #[.int .i64 0, .int .i64 0] 25)).alloc (.cells #[.int .i64 0, .int .i64 0] 25)) := belA (belA (Below.refl _ _))
  rw [World.size_alloc] at S1
  have HR := hide R2
  have HS := hide S1
  have HB := hide B2
  clear R1 R2 S1 B2
  go_enter Tryd.func9, Tryd.ntmps9
  go_wp2_with fail
  refine (HN.out _ HB.out).mono ?_
  rintro e w1 ⟨g, hg, rfl, hc1, hb1⟩
  simp at hg
  have R1 := heap_grow HR.out hb1
  have S1 := heap_grow HS.out hb1
  have B1 := belT HB.out hb1
  clear hb1
  go_wp2_with fail
  refine (l11Fraction_any _ g w1 hc1).mono ?_
  rintro e w2 ⟨t, b, rfl, hs1, hc2, hg2⟩
  have R2 := blk_grownF R1 hg2 (by simp; omega)
  have S2 := blk_grownF S1 hg2 (by simp; omega)
  have B2 := B1.grown hg2 B1.size (fun k hk => by cases hk; omega)
  have z1 := hc1.lt.2
  have z2 := hg2.size
  clear R1 S1 B1 hg2 hc1
  go_wp2
  have al3 : Below w2.heap.size w2 (w2.alloc (.cells #[.int .i64 t, .int .i64 b] 25)) := (Below.refl _ _).alloc (Nat.le_refl _) _
  have T3 := blk_newF w2 #[.int .i64 t, .int .i64 b] 25
  have R3 := heap_grow R2 al3
  have S3 := heap_grow S2 al3
  have B3 := belT B2 al3
  have hc3 := hc2.below al3
  have z3 : w2.heap.size < (w2.alloc (.cells #[.int .i64 t, .int .i64 b] 25)).heap.size := by simp
  clear R2 S2 B2 hc2 al3
  generalize w2.alloc (.cells #[.int .i64 t, .int .i64 b] 25) = w3 at *
  have k0 := cell_of_block T3 0
  have k1 := cell_of_block T3 1
  simp at k0 k1
  have hgb : w2.heap.size ≠ g := by omega
  have hb1 : w2.heap.size ≠ w.heap.size := by omega
  have hb2 : w2.heap.size ≠ w.heap.size + 1 := by omega
  have hb3 : w.heap.size ≠ w2.heap.size := by omega
  have hb4 : w.heap.size + 1 ≠ w2.heap.size := by omega
  generalize w2.heap.size = bt at *
  go_region_held3 (fun w' => w'.cell? ⟨bt, 0, none⟩ = some (.int .i64 t) ∧ w'.cell? ⟨bt, 1, none⟩ = some (.int .i64 b)) (first | go_keep | exact ⟨hg4.cell (by assumption) (by simpa using hgb), hg4.cell (by assumption) (by simpa using hgb)⟩) ((go_at_call 22; refine (l11Fraction_any _ g _ hc3.dr1).mono ?_; rintro e w4 ⟨c, d, rfl, hs2, hc4, hg4⟩; have T4 := blk_grownF (w := w3.drew) T3 hg4 (by simp; omega); have t0 := cell_of_block T4 0; have t1 := cell_of_block T4 1; simp at t0 t1; have R4 := blk_grownF (w := w3.drew) R3 hg4 (by simp; omega); have S4 := blk_grownF (w := w3.drew) S3 hg4 (by simp; omega); have r0 := cell_of_block R4 0; have r1 := cell_of_block R4 1; have f0 := frozen_of_block R4 0; have f1 := frozen_of_block R4 1; have s0 := cell_of_block S4 0; have s1 := cell_of_block S4 1; have e0 := frozen_of_block S4 0; have e1 := frozen_of_block S4 1; simp at r0 r1 s0 s1))
  have B4 : Below w.heap.size w w4 := (belD B3).grown hg4 (by have := B3.size; exact this) (fun k hk => by cases hk; omega)
  obtain ⟨R5, L5⟩ := store_two (x := .int .i64 t) (y := .int .i64 b) R4
  have g5 : w4.grownBy ((w4.setCell ⟨w.heap.size, 0, none⟩ (.int .i64 t)).setCell ⟨w.heap.size, 1, none⟩ (.int .i64 b)) (some w.heap.size) := grownBy_trans (grownBy_set _ _ _ _) (grownBy_set _ _ _ _)
  have S5 := blk_grownF S4 g5 (by simp)
  have B5 := B4.trans L5
  clear r0 r1 f0 f1 s0 s1 e0 e1 t0 t1 T4 g5
  generalize (w4.setCell ⟨w.heap.size, 0, none⟩ (.int .i64 t)).setCell ⟨w.heap.size, 1, none⟩ (.int .i64 b) = w5 at *
  obtain ⟨S6, L6⟩ := store_two (x := .int .i64 c) (y := .int .i64 d) S5
  have g6 : w5.grownBy ((w5.setCell ⟨w.heap.size + 1, 0, none⟩ (.int .i64 c)).setCell ⟨w.heap.size + 1, 1, none⟩ (.int .i64 d)) (some (w.heap.size + 1)) := grownBy_trans (grownBy_set _ _ _ _) (grownBy_set _ _ _ _)
  have R6 := blk_grownF R5 g6 (by simp)
  have B6 := B5.trans (L6.mono (Nat.le_succ _))
  generalize (w5.setCell ⟨w.heap.size + 1, 0, none⟩ (.int .i64 c)).setCell ⟨w.heap.size + 1, 1, none⟩ (.int .i64 d) = w6 at *
  have r0 := cell_of_block R6 0
  have r1 := cell_of_block R6 1
  have s0 := cell_of_block S6 0
  have s1 := cell_of_block S6 1
  simp at r0 r1 s0 s1
  clear hb1 hb2 hb3 hb4 k0 k1
  go_wp2
  exact bodyPost_ret (by simp [results, Tryd.results9, go_sem, *]; try rfl) rfl ⟨t, b, c, d, rfl, hs1, hs2, B6⟩

end Go.Proofs.YtbimjiiielbjbaaDoor
