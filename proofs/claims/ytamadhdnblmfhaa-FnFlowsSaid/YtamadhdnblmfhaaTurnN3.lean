/- A net with its pipes turned, by the reference. -/
import Derived.Test.YtamadhdnblmfhaaTurnN2
import Derived.StillTailTactics
namespace Go.Proofs.Ytamadhdnblmfhaa
set_option linter.unusedSimpArgs false
set_option linter.unusedVariables false
open Go.RowKit

theorem specTurnNet_any (p : Int) (a : Option Addr) (cap : Nat) (ts : List T3) (w : World) (hc : Rd3 w a ts) (hn : ts.length ≤ 1048576) :
    Calls Try.prog 24 #[.agg #[.int .i64 p, .slice a ts.length cap]] w fun e w' => GivesH p (turnM p ts) w e w' := by
  have HN := hide (fun W (hb : Below w.heap.size w W) => specNetOk_any p a cap ts W (hc.below hb) hn)
  have HCp := hide (fun W (hb : Below w.heap.size w W) => l08Copy_any p a cap ts W (hc.below hb) hn)
  have B1 : Below w.heap.size w ((w.alloc (.cells #[.int .i64 p, .slice a ts.length cap] 26)).alloc (.cells #[.int .i64 0, .slice none 0 0] 26)) := belA (belA (Below.refl _ _))
  have X1 := blk_alloc (o := .cells #[.int .i64 0, .slice none 0 0] 26) (blk_new w #[.int .i64 p, .slice a ts.length cap] 26)
  have R1 := blk_new (w.alloc (.cells #[.int .i64 p, .slice a ts.length cap] 26)) #[.int .i64 0, .slice none 0 0] 26
  rw [World.size_alloc] at R1
  have HB1 := hide B1
  have HX1 := hide X1
  have HR1 := hide R1
  clear B1 X1 R1
  have HW := hide (show turnM p ts = if netOk p ts then ts.map swp else ts from rfl)
  generalize turnM p ts = M at *
  generalize netOk p ts = no at *
  go_enter Try.func24, Try.ntmps24
  go_wp2_with fail
  (with_reducible refine (HCp.out _ HB1.out).mono ?_)
  rintro e w2 ⟨v2, rfl, hown2, hb2⟩
  have hown2 := hown2.mono (base' := w.heap.size + 2) (by simp)
  obtain ⟨a2, c2, rfl, hr2⟩ := hown2.slice
  have B2 := belA (o := .cells #[.int .i64 p, .slice a2 ts.length c2] 26) (belT HB1.out hb2)
  have X2 := blk_alloc (o := .cells #[.int .i64 p, .slice a2 ts.length c2] 26) (heap_grow HX1.out hb2)
  have R2 := blk_alloc (o := .cells #[.int .i64 p, .slice a2 ts.length c2] 26) (heap_grow HR1.out hb2)
  have Y2 := blk_new w2 #[.int .i64 p, .slice a2 ts.length c2] 26
  have O2 := hown2.below (w' := w2.alloc (.cells #[.int .i64 p, .slice a2 ts.length c2] 26)) ((Below.refl _ _).alloc (Nat.le_refl _) _)
  have Z2 : w.heap.size + 2 ≤ w2.heap.size := by have := hb2.size; simp at this; omega
  have z2 : w.heap.size < w2.heap.size := by omega
  have q0 := cell_of_block (heap_grow HX1.out hb2) 0
  have q1 := cell_of_block (heap_grow HX1.out hb2) 1
  simp at q0 q1
  have S2 := hown2.lt
  clear hb2 hr2 hown2 q0 q1
  have s2 : w2.heap.size < (w2.alloc (.cells #[.int .i64 p, .slice a2 ts.length c2] 26)).heap.size := by simp
  go_wp2
  generalize (w2.alloc (.cells #[.int .i64 p, .slice a2 ts.length c2] 26)) = W2 at *
  by_cases ht : ts = []
  · subst ht
    have HM := hide (show M = [] by rw [HW.out]; split <;> rfl)
    simp only [List.length_nil] at R2 O2 B2 Y2 X2
    obtain ⟨R4, O4, L4⟩ := net_stored (p := p) R2 O2
    have B4 := B2.trans (L4.mono (Nat.le_succ _))
    have c0 := cell_of_block X2 0
    have c1 := cell_of_block X2 1
    have y0 := cell_of_block Y2 0
    have y1 := cell_of_block Y2 1
    have r0 := cell_of_block R2 0
    have r1 := cell_of_block R2 1
    have f0 := frozen_of_block R2 0
    have f1 := frozen_of_block R2 1
    simp at c0 c1 y0 y1 r0 r1
    refine wp_loop_rounds 1 ?_
    rw [rounds_succ]
    go_wp2
    generalize (W2.setCell ⟨w.heap.size + 1, 0, none⟩ (.int .i64 p)).setCell ⟨w.heap.size + 1, 1, none⟩ (.slice a2 0 c2) = w4 at *
    clear r0 r1 f0 f1 c0 c1 y0 y1
    have d0 := cell_of_block R4 0
    have d1 := cell_of_block R4 1
    simp at d0 d1
    exact bodyPost_ret (by simp [results, Try.results24, go_sem, *]; try rfl) rfl ⟨_, rfl, by rw [HM.out]; exact (OwnsT.mono (base := w.heap.size + 2) (base' := w.heap.size) O4 (by omega)).holds, B4⟩
  have hpos : 0 < ts.length := List.length_pos_iff.2 ht
  rcases O2.cases with ⟨_, h0⟩ | ⟨g, c, hv, hg, ho⟩
  · exact absurd h0 ht
  have e2 : a2 = some ⟨g, 0, none⟩ := by injection hv
  subst e2
  have g1 := (S2 g rfl).2
  clear hv ht
  cases no with
  | false =>
    have HM := hide (show M = ts by rw [HW.out]; rfl)
    have c0 := cell_of_block X2 0
    have c1 := cell_of_block X2 1
    have y0 := cell_of_block Y2 0
    have y1 := cell_of_block Y2 1
    simp at c0 c1 y0 y1
    refine wp_loop_rounds 1 ?_
    rw [rounds_succ]
    go_wp2_with fail
    (with_reducible refine (HN.out _ B2).mono ?_)
    rintro e w3 ⟨rfl, hb3⟩
    have B3 := belT B2 hb3
    have R3 := heap_grow R2 hb3
    have Y3 := heap_grow Y2 hb3
    have O3 := O2.below hb3
    clear c0 c1 y0 y1 hb3 B2 R2 Y2 X2 O2 ho
    obtain ⟨R4, O4, L4⟩ := net_stored (p := p) R3 O3
    have B4 := B3.trans (L4.mono (Nat.le_succ _))
    have y0 := cell_of_block Y3 0
    have y1 := cell_of_block Y3 1
    have r0 := cell_of_block R3 0
    have r1 := cell_of_block R3 1
    have f0 := frozen_of_block R3 0
    have f1 := frozen_of_block R3 1
    simp at y0 y1 r0 r1
    go_wp2
    generalize (w3.setCell ⟨w.heap.size + 1, 0, none⟩ (.int .i64 p)).setCell ⟨w.heap.size + 1, 1, none⟩ (.slice (some ⟨g, 0, none⟩) ts.length c2) = w4 at *
    clear r0 r1 f0 f1 y0 y1
    have d0 := cell_of_block R4 0
    have d1 := cell_of_block R4 1
    simp at d0 d1
    exact bodyPost_ret (by simp [results, Try.results24, go_sem, *]; try rfl) rfl ⟨_, rfl, by rw [HM.out]; exact (OwnsT.mono (base := w.heap.size + 2) (base' := w.heap.size) O4 (by omega)).holds, B4⟩
  | true =>
    have HM := hide (show M = ts.map swp by rw [HW.out]; rfl)
    have HX2 := hide X2
    have HY2 := hide Y2
    have HR2 := hide R2
    have HO2 := hide ho
    clear X2 Y2 R2 O2 ho HW
    go_loopw [4] (fun i wr => ∃ k : Nat, k ≤ ts.length ∧ i = .int .i64 k ∧ wr.heap[w.heap.size]? = some (.cells #[.int .i64 p, .slice a ts.length cap] 26 (0, 0)) ∧ wr.heap[w2.heap.size]? = some (.cells #[.int .i64 p, .slice (some ⟨g, 0, none⟩) ts.length c2] 26 (0, 0)) ∧ wr.heap[w.heap.size + 1]? = some (.cells #[.int .i64 0, .slice none 0 0] 26 (0, 0)) ∧ OwnP wr g 37 (flat (turnK ts k)) ∧ Below w.heap.size w wr) (fun i _ => ts.length - (intOf i).toNat)
    case atStart => exact ⟨0, Nat.zero_le _, rfl, HX2.out, HY2.out, HR2.out, by simpa [turnK] using HO2.out, B2⟩
    case round =>
      obtain ⟨k, hk, rfl, X4, Y4, R4, O4, B4⟩ := hrel
      have x4 := (Array.getElem?_eq_some_iff.1 Y4).1
      have c0 := cell_of_block X4 0
      have c1 := cell_of_block X4 1
      have y0 := cell_of_block Y4 0
      have y1 := cell_of_block Y4 1
      simp at c0 c1 y0 y1
      by_cases hlt : k < ts.length
      · go_wp2_with fail
        (with_reducible refine (HN.out _ B4).mono ?_)
        rintro e w5 ⟨rfl, hb5⟩
        have B5 := belT B4 hb5
        have X5 := heap_grow X4 hb5
        have Y5 := heap_grow Y4 hb5
        have R5 := heap_grow R4 hb5
        have O5 := O4.below hb5
        clear c0 c1 y0 y1 hb5 X4 Y4 R4 O4 B4 x4
        obtain ⟨b, off, rfl, hcell, hcell1, hcell2⟩ := hc.below B5 k hlt
        obtain ⟨b', off', eb, hw, _, _⟩ := hc k hlt
        cases eb
        have blw : b < w.heap.size := by have := World.block_lt_of_cell? w _ hw; simpa using this
        have HF := hide (turn_flat ts k hlt)
        have hll := turnK_length ts k (by omega)
        have HLL := hide hll
        clear hll hw
        generalize ts.getD k default = u at *
        obtain ⟨ux, uy, uz⟩ := u
        simp only at hcell hcell1 hcell2 HF
        have bl := World.block_lt_of_cell? w5 _ hcell
        simp at bl
        have HX5 := hide X5
        have HR5 := hide R5
        have HY5 := hide Y5
        have HO5 := hide O5
        have c1 := cell_of_block X5 1
        have y1 := cell_of_block Y5 1
        simp at c1 y1
        have i0 : (0 : Int) ≤ (k : Int) := by omega
        have i1 : (k : Int) < (ts.length : Int) := by omega
        have s0 := O5.cell (k * 3) (by rw [flat_length, HLL.out]; omega)
        have f0 := O5.frozen (k * 3)
        have HB5 := hide B5
        generalize List.getD _ (k * 3) 0 = ss at s0
        clear X5 R5 Y5 O5 B5
        go_wp2
        refine region_still 11 (by kernel_rfl) (by kernel_rfl) (fun w6 hh6 hc6 hf6 hb6 => ?_)
        simp only [List.take_succ_cons, List.take_zero, List.drop_succ_cons, List.drop_zero]
        iterate 11 still_step
        refine wpStill_nil ?_
        go_wp2
        have O6 : OwnP w6 g 37 (flat (turnK ts k)) := HO5.out.of_block (by rw [hh6])
        have X6 := HX5.out
        have Y6 := HY5.out
        have R6 := HR5.out
        rw [← hh6] at X6 Y6 R6
        have B6 := belT HB5.out hb6
        have F6 : w6.cell? ⟨b, off + k * 3, none⟩ = some (.int .i64 ux) := by rw [hc6]; exact hcell
        have O7 := O6.set (k * 3) uy
        have hgr := grownBy_set w6 g (k * 3) (.int .i64 uy)
        have X7 := blk_grown X6 hgr (by simp; omega)
        have Y7 := blk_grown Y6 hgr (by simp; omega)
        have R7 := blk_grown R6 hgr (by simp; omega)
        have B7 := belG B6 hgr (by omega)
        have F7 := hgr.cell F6 (by simp; omega)
        generalize w6.setCell ⟨g, k * 3, none⟩ (.int .i64 uy) = w7 at *
        clear hgr X6 Y6 R6 B6 F6 O6 hh6 hc6 hf6 hb6 hcell hcell1 hcell2 c1 y1 s0 f0 HX5 HY5 HR5 HO5 HB5
        have bl7 := World.block_lt_of_cell? w7 _ F7
        simp at bl7
        have c1 := cell_of_block X7 1
        have y1 := cell_of_block Y7 1
        simp at c1 y1
        have s0 := O7.cell (k * 3 + 1) (by rw [List.length_set, flat_length, HLL.out]; omega)
        have f0 := O7.frozen (k * 3 + 1)
        have HX7 := hide X7
        have HR7 := hide R7
        have HY7 := hide Y7
        have HO7 := hide O7
        have HB7 := hide B7
        generalize List.getD _ (k * 3 + 1) 0 = ss' at s0
        clear X7 R7 Y7 O7 B7
        refine region_still 11 (by kernel_rfl) (by kernel_rfl) (fun w8 hh8 hc8 hf8 hb8 => ?_)
        simp only [List.take_succ_cons, List.take_zero, List.drop_succ_cons, List.drop_zero]
        iterate 11 still_step
        refine wpStill_nil ?_
        go_wp2
        have O8 : OwnP w8 g 37 ((flat (turnK ts k)).set (k * 3) uy) := HO7.out.of_block (by rw [hh8])
        have X8 := HX7.out
        have Y8 := HY7.out
        have R8 := HR7.out
        rw [← hh8] at X8 Y8 R8
        have B8 := belT HB7.out hb8
        have O9 := O8.set (k * 3 + 1) ux
        rw [HF.out] at O9
        have hgr := grownBy_set w8 g (k * 3 + 1) (.int .i64 ux)
        have X9 := blk_grown X8 hgr (by simp; omega)
        have Y9 := blk_grown Y8 hgr (by simp; omega)
        have R9 := blk_grown R8 hgr (by simp; omega)
        have B9 := belG B8 hgr (by omega)
        generalize w8.setCell ⟨g, k * 3 + 1, none⟩ (.int .i64 ux) = w9 at *
        clear hgr X8 Y8 R8 B8 O8 hh8 hc8 hf8 hb8 c1 y1 s0 f0 HX7 HY7 HR7 HO7 HB7 F7
        go_roundw
        case rel => exact ⟨k + 1, by omega, by go_num, X9, Y9, R9, O9, B9⟩
        case measure => simp [intOf]; omega
      · have hkk : k = ts.length := by omega
        subst hkk
        have HT := hide (show turnK ts ts.length = ts.map swp by simp [turnK])
        have r0 := cell_of_block R4 0
        have r1 := cell_of_block R4 1
        have f0 := frozen_of_block R4 0
        have f1 := frozen_of_block R4 1
        simp at r0 r1
        obtain ⟨R7, O7, L7⟩ := net_held (n := ts.length) (c := c2) (p := p) R4 O4
        have B7 := B4.trans (L7.mono (Nat.le_succ _))
        go_wp2
        generalize (wr.setCell ⟨w.heap.size + 1, 0, none⟩ (.int .i64 p)).setCell ⟨w.heap.size + 1, 1, none⟩ (.slice (some ⟨g, 0, none⟩) ts.length c2) = w7 at *
        clear c0 c1 y0 y1 r0 r1 f0 f1
        have d0 := cell_of_block R7 0
        have d1 := cell_of_block R7 1
        simp at d0 d1
        rw [HT.out] at O7
        exact bodyPost_ret (by simp [results, Try.results24, go_sem, *]; try rfl) rfl ⟨_, rfl, by rw [HM.out]; exact .inr ⟨g, c2, by rw [List.length_map], by omega, O7⟩, B7⟩

end Go.Proofs.Ytamadhdnblmfhaa
