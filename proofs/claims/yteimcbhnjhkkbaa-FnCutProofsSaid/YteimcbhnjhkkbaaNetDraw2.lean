/- Drawn nets with two places. -/
import Derived.Test.YteimcbhnjhkkbaaNetDraw
namespace Go.Proofs.Yteimcbhnjhkkbaa
set_option linter.unusedSimpArgs false
set_option linter.unusedVariables false
open Go.RowKit

def DrNE (w : World) (e : Ending) (w' : World) : Prop := ∃ (p : Int) (a : Option Addr) (cap : Nat) (ts : List T3) (x y : Int), e = .returned (.tuple #[.agg #[.int .i64 p, .slice a ts.length cap], .int .i64 x, .int .i64 y]) ∧ twoM p ts x y = true ∧ ts.length ≤ 9 ∧ p ≤ 6 ∧ ts.length ≤ cap ∧ Rd3 w' a ts ∧ Below w.heap.size w w'

theorem OwnsT.cap {T : TypeId} {base : Nat} {w : World} {a : Option Addr} {n cap : Nat} {ts : List T3} (h : OwnsT T base w (.slice a n cap) ts) : n ≤ cap := by
  obtain ⟨_, h2⟩ := h
  rcases h2 with ⟨hv, _⟩ | ⟨g, c, cur, hv, _, _, hnc, _⟩
  · cases hv; exact Nat.le_refl _
  · cases hv; exact hnc

theorem set2_other {w : World} {b i c : Nat} {x y v : Value} (hne : b ≠ c) (h : w.cell? ⟨b, i, none⟩ = some v) : ((w.setCell ⟨c, 0, none⟩ x).setCell ⟨c, 1, none⟩ y).cell? ⟨b, i, none⟩ = some v :=
  grown_cell (grownBy_trans (grownBy_set w c 0 x) (grownBy_set _ c 1 y)) h (by simp; omega)

set_option maxRecDepth 100000 in
set_option maxHeartbeats 2000000 in
theorem DrawNetEnds_any (a : Option Addr) (cap : Nat) (bs : List Int) (w : World) (hr : Rd8 w a bs) (hl : bs.length ≤ 1048576) :
    Calls Try.prog 9 #[.slice a bs.length cap] w (DrNE w) := by
  go_enter Try.func9, Try.ntmps9
  go_wp2_with fail
  refine (l01New_any a cap bs _ (hr.below (belA (Below.refl _ _))) hl).mono ?_
  rintro e w1 ⟨g, hg, rfl, hc1, hb1⟩
  have hr1 := heap_grow (blk_new w #[.int .i64 0, .slice none 0 0] 26) hb1
  have b1 := belT (belA (Below.refl w.heap.size w)) hb1
  have hgw : w.heap.size < g := by simp at hg; omega
  clear hb1
  go_wp2_with fail
  refine (l08Net_any _ g w1 hc1).mono ?_
  rintro e w2 ⟨p, v, ts, rfl, hnet, hl9, hp6, hown, hgr, hc2⟩
  obtain ⟨av, cv, rfl, hrd⟩ := hown.slice
  have hcapv := hown.cap
  have hc1l := hc1.lt
  have hr2 := grown_heap hgr hr1 (by intro e; cases e; omega)
  have b2 := b1.grown hgr b1.size (fun k hk => by cases hk; omega)
  have hs12 := hgr.size
  obtain ⟨np1, np2, _, hpipes⟩ := netOk_parts hnet
  have hav : ∀ x, av = some x → w1.heap.size ≤ x.block := fun x hx => (hown.lt x.block (by rw [hx]; rfl)).1
  clear hgr hr1 b1 hown
  go_wp2_with fail
  refine (l01Below_any _ g p _ hc2.al (by omega) (by omega)).mono ?_
  rintro e w3 ⟨y, rfl, y0, y1, hc3, hg3⟩
  have al2 := (Below.refl w2.heap.size w2).alloc (Nat.le_refl _) (.cells #[.int .i64 p, .slice av ts.length cv] 26)
  have hn3 := grown_heap hg3 (blk_new w2 #[.int .i64 p, .slice av ts.length cv] 26) (by intro e; cases e; omega)
  have hr3 := grown_heap hg3 (heap_grow hr2 al2) (by intro e; cases e; omega)
  have b3 := (b2.alloc b2.size (.cells #[.int .i64 p, .slice av ts.length cv] 26)).grown hg3 (by have := b2.size; simp; omega) (fun k hk => by cases hk; omega)
  have hrd3 : Rd3 w3 av ts := by
    have h1 := hrd.below al2
    intro j hj
    obtain ⟨b, off, e, k0, k1, k2⟩ := h1 j hj
    have hb := hav _ e
    exact ⟨b, off, e, grown_cell hg3 k0 (by intro e; cases e; simp at hb; omega), grown_cell hg3 k1 (by intro e; cases e; simp at hb; omega), grown_cell hg3 k2 (by intro e; cases e; simp at hb; omega)⟩
  have hw23 : w2.heap.size < w3.heap.size := by have := hg3.size; simp at this; omega
  have hgn : g < w2.heap.size := Nat.lt_of_lt_of_le hc1l.2 hs12
  clear hr2 hrd b2 hg3 al2 hc2 hr
  generalize hnb : w2.heap.size = nb at *
  have c0 := cell_of_block hn3 0
  have c1 := cell_of_block hn3 1
  have r0 := cell_of_block hr3 0
  have r1 := cell_of_block hr3 1
  have rf0 := frozen_of_block hr3 0
  have rf1 := frozen_of_block hr3 1
  simp at c0 c1 r0 r1
  have s1 : IntKind.i64.wrap (y + 1) = y + 1 := IntWalk.i64_in _ (by omega)
  have s2 : IntKind.i64.wrap (p - 1) = p - 1 := IntWalk.i64_in _ (by omega)
  have hne : nb ≠ g := by omega
  have hne2 : nb ≠ w.heap.size := by have := b3.size; omega
  have hne3 : w.heap.size ≠ g := by omega
  have pz : ¬ p = 0 := by omega
  have HC3 := hide hc3
  go_wp2
  go_region_held3 (fun w' => w'.cell? ⟨nb, 0, none⟩ = some (.int .i64 p) ∧ w'.cell? ⟨nb, 1, none⟩ = some (.slice av ts.length cv)) (first | go_keep | exact ⟨set2_other hne2 q0, set2_other hne2 q1⟩ | (go_split_ands; refine ⟨?_, ?_⟩; (exact hg4.cell (by assumption) (by simpa using hne)); (exact hg4.cell (by assumption) (by simpa using hne))))
    ((go_at_call 35; refine (l01Below_any _ g (p - 1) _ HC3.out.dr1 (by omega) (by omega)).mono ?_; rintro e w4 ⟨z, rfl, z0, z1, hc4, hg4⟩; have s3 : IntKind.i64.wrap (y + 1 + z) = y + 1 + z := IntWalk.i64_in _ (by omega); have q0 : w4.cell? ⟨nb, 0, none⟩ = some (.int .i64 p) := (hg4.cell (w := w3.drew) c0 (by simpa using hne)); have q1 : w4.cell? ⟨nb, 1, none⟩ = some (.slice av ts.length cv) := (hg4.cell (w := w3.drew) c1 (by simpa using hne)); have hr4 := grown_heap (w := w3.drew) hg4 hr3 (by intro e; cases e; omega); have k0 := cell_of_block hr4 0; have k1 := cell_of_block hr4 1; have kf0 := frozen_of_block hr4 0; have kf1 := frozen_of_block hr4 1; simp at k0 k1))
  have hb4 : 0 ≤ (y + 1 + z).tmod p ∧ (y + 1 + z).tmod p ≤ p - 1 ∧ y ≠ (y + 1 + z).tmod p := by
    rw [Int.tmod_eq_emod_of_nonneg (by omega)]
    have hps : p = 2 ∨ p = 3 ∨ p = 4 ∨ p = 5 ∨ p = 6 := by omega
    rcases hps with rfl | rfl | rfl | rfl | rfl <;> omega
  generalize (y + 1 + z).tmod p = b at *
  have hW := (store_two (x := .int .i64 p) (y := .slice av ts.length cv) hr4).1
  have BW : Below w.heap.size w4 ((w4.setCell ⟨w.heap.size, 0, none⟩ (.int .i64 p)).setCell ⟨w.heap.size, 1, none⟩ (.slice av ts.length cv)) := (below_set w4 _ 0 _).trans (below_set _ _ 1 _)
  have b4 : Below w.heap.size w w4 := (belD b3).grown hg4 b3.size (fun k hk => by cases hk; omega)
  have b5 := b4.trans BW
  have hrd5 : Rd3 ((w4.setCell ⟨w.heap.size, 0, none⟩ (.int .i64 p)).setCell ⟨w.heap.size, 1, none⟩ (.slice av ts.length cv)) av ts := by
    intro j hj
    obtain ⟨b', off, e, k0, k1, k2⟩ := hrd3 j hj
    have hb := hav _ e
    simp at hb
    have nh : b' ≠ w.heap.size := by have := hc1l.1; simp at this; omega
    refine ⟨b', off, e, ?_, ?_, ?_⟩
    · exact set2_other nh (grown_cell (w := w3.drew) hg4 k0 (by intro e; cases e; omega))
    · exact set2_other nh (grown_cell (w := w3.drew) hg4 k1 (by intro e; cases e; omega))
    · exact set2_other nh (grown_cell (w := w3.drew) hg4 k2 (by intro e; cases e; omega))
  have htw : twoM p ts y b = true := by
    simp only [twoM, Bool.and_eq_true, bne_iff_ne]
    exact ⟨⟨⟨hnet, inB_iff.2 (by omega)⟩, inB_iff.2 (by omega)⟩, hb4.2.2⟩
  have k0' := cell_of_block hW 0
  have k1' := cell_of_block hW 1
  simp at k0' k1'
  clear hW BW b4 q0 q1 k0 k1 kf0 kf1 r0 r1 rf0 rf1 c0 c1
  generalize (w4.setCell ⟨w.heap.size, 0, none⟩ (.int .i64 p)).setCell ⟨w.heap.size, 1, none⟩ (.slice av ts.length cv) = W at *
  go_wp2
  refine bodyPost_ret (by simp [results, Try.results9, go_sem, *]; try rfl) rfl ?_
  exact ⟨p, av, cv, ts, y, b, rfl, htw, hl9, hp6, hcapv, hrd5, b5⟩

end Go.Proofs.Yteimcbhnjhkkbaa
