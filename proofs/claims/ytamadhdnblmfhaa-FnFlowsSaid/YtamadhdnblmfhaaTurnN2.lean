/- A net with its pipes turned: the walks. -/
import Derived.Test.YtamadhdnblmfhaaTurnN
namespace Go.Proofs.Ytamadhdnblmfhaa
set_option linter.unusedSimpArgs false
set_option linter.unusedVariables false
open Go.RowKit

/-- The call hands back a net (its slice at the head of a block of the call's own). -/
def GivesH (p : Int) (ts : List T3) (w : World) (e : Ending) (w' : World) : Prop := ∃ v, e = .returned (.agg #[.int .i64 p, v]) ∧ HoldsT 37 w.heap.size w' v ts ∧ Below w.heap.size w w'

theorem net_held {W : World} {g b n c : Nat} {c0 c1 : Value} {p : Int} {xs : List Int} (hR : W.heap[g]? = some (.cells #[c0, c1] 26 (0, 0))) (ho : OwnP W b 37 xs) :
    ((W.setCell ⟨g, 0, none⟩ (.int .i64 p)).setCell ⟨g, 1, none⟩ (.slice (some ⟨b, 0, none⟩) n c)).heap[g]? = some (.cells #[.int .i64 p, .slice (some ⟨b, 0, none⟩) n c] 26 (0, 0)) ∧ OwnP ((W.setCell ⟨g, 0, none⟩ (.int .i64 p)).setCell ⟨g, 1, none⟩ (.slice (some ⟨b, 0, none⟩) n c)) b 37 xs ∧ Below g W ((W.setCell ⟨g, 0, none⟩ (.int .i64 p)).setCell ⟨g, 1, none⟩ (.slice (some ⟨b, 0, none⟩) n c)) := by
  obtain ⟨h1, h2⟩ := store_two (x := .int .i64 p) (y := .slice (some ⟨b, 0, none⟩) n c) hR
  have hne : g ≠ b := by
    intro e; subst e
    obtain ⟨C, h3, _⟩ := ho
    rw [hR] at h3
    injection h3 with h3
    injection h3 with h3 h4
    exact absurd h4 (by decide)
  exact ⟨h1, (ho.set_other hne).set_other hne, h2⟩

theorem implTurnNet_any (p : Int) (a : Option Addr) (cap : Nat) (ts : List T3) (w : World) (hc : Rd3 w a ts) (hn : ts.length ≤ 1048576) :
    Calls Try.prog 42 #[.agg #[.int .i64 p, .slice a ts.length cap]] w fun e w' => GivesH p (turnM p ts) w e w' := by
  have HN := hide (fun W (hb : Below w.heap.size w W) => implNetOk_any p a cap ts W (hc.below hb) hn)
  have HCp := hide (fun W (hb : Below w.heap.size w W) => copyNet_any p a cap ts W (hc.below hb) hn)
  have B1 : Below w.heap.size w ((w.alloc (.cells #[.int .i64 p, .slice a ts.length cap] 26)).alloc (.cells #[.int .i64 0, .slice none 0 0] 26)) := belA (belA (Below.refl _ _))
  have X1 := blk_alloc (o := .cells #[.int .i64 0, .slice none 0 0] 26) (blk_new w #[.int .i64 p, .slice a ts.length cap] 26)
  have R1 := blk_new (w.alloc (.cells #[.int .i64 p, .slice a ts.length cap] 26)) #[.int .i64 0, .slice none 0 0] 26
  rw [World.size_alloc] at R1
  have HB1 := hide B1
  have HX1 := hide X1
  have HR1 := hide R1
  clear B1 X1 R1
  have HW := hide (show turnM p ts = if netOk p ts then ts.map swp else ts from rfl)
  generalize turnM p ts = M at *
  generalize netOk p ts = no at *
  go_enter Try.func42, Try.ntmps42
  go_wp2_with fail
  (with_reducible refine (HCp.out _ HB1.out).mono ?_)
  rintro e w2 ⟨v2, rfl, hown2, hb2⟩
  have hown2 := hown2.mono (base' := w.heap.size + 2) (by simp)
  obtain ⟨a2, c2, rfl, hr2⟩ := hown2.slice
  have B2 := belA (o := .cells #[.int .i64 p, .slice a2 ts.length c2] 26) (belT HB1.out hb2)
  have X2 := blk_alloc (o := .cells #[.int .i64 p, .slice a2 ts.length c2] 26) (heap_grow HX1.out hb2)
  have R2 := blk_alloc (o := .cells #[.int .i64 p, .slice a2 ts.length c2] 26) (heap_grow HR1.out hb2)
  have Y2 := blk_new w2 #[.int .i64 p, .slice a2 ts.length c2] 26
  have O2 := hown2.below (w' := w2.alloc (.cells #[.int .i64 p, .slice a2 ts.length c2] 26)) ((Below.refl _ _).alloc (Nat.le_refl _) _)
  have Z2 : w.heap.size + 2 ≤ w2.heap.size := by have := hb2.size; simp at this; omega
  have z2 : w.heap.size < w2.heap.size := by omega
  have q0 := cell_of_block (heap_grow HX1.out hb2) 0
  have q1 := cell_of_block (heap_grow HX1.out hb2) 1
  simp at q0 q1
  have S2 := hown2.lt
  clear hb2 hr2 hown2
  go_wp2_with fail
  (with_reducible refine (HN.out _ B2).mono ?_)
  rintro e w3 ⟨rfl, hb3⟩
  have B3 := belT B2 hb3
  have X3 := heap_grow X2 hb3
  have R3 := heap_grow R2 hb3
  have Y3 := heap_grow Y2 hb3
  have O3 := O2.below hb3
  have Z3 : w2.heap.size + 1 ≤ w3.heap.size := by have := hb3.size; simp at this; omega
  clear B2 X2 R2 Y2 O2 hb3 q0 q1
  have c0 := cell_of_block X3 0
  have c1 := cell_of_block X3 1
  have y0 := cell_of_block Y3 0
  have y1 := cell_of_block Y3 1
  have r0 := cell_of_block R3 0
  have r1 := cell_of_block R3 1
  have f0 := frozen_of_block R3 0
  have f1 := frozen_of_block R3 1
  simp at c0 c1 y0 y1 r0 r1
  cases no with
  | false =>
    have HM := hide (show M = ts by rw [HW.out]; rfl)
    obtain ⟨R4, O4, L4⟩ := net_stored (p := p) R3 O3
    have B4 := B3.trans (L4.mono (Nat.le_succ _))
    go_wp2
    generalize (w3.setCell ⟨w.heap.size + 1, 0, none⟩ (.int .i64 p)).setCell ⟨w.heap.size + 1, 1, none⟩ (.slice a2 ts.length c2) = w4 at *
    clear r0 r1 f0 f1 c0 c1 y0 y1
    have d0 := cell_of_block R4 0
    have d1 := cell_of_block R4 1
    simp at d0 d1
    exact bodyPost_ret (by simp [results, Try.results42, go_sem, *]; try rfl) rfl ⟨_, rfl, by rw [HM.out]; exact (OwnsT.mono (base := w.heap.size + 2) (base' := w.heap.size) O4 (by omega)).holds, B4⟩
  | true =>
    rcases O3.cases with ⟨hv, rfl⟩ | ⟨g, c, hv, hg, ho⟩
    · have HM := hide (show M = [] by rw [HW.out]; rfl)
      obtain ⟨R4, O4, L4⟩ := net_stored (p := p) R3 O3
      have B4 := B3.trans (L4.mono (Nat.le_succ _))
      have hv0 := hide hv
      clear hv
      go_wp2
      refine wp_loop_rounds 1 ?_
      rw [rounds_succ]
      go_wp2
      have R4 := R4
      simp only [List.length_nil] at R4 O4 B4
      generalize (w3.setCell ⟨w.heap.size + 1, 0, none⟩ (.int .i64 p)).setCell ⟨w.heap.size + 1, 1, none⟩ (.slice a2 0 c2) = w4 at *
      clear r0 r1 f0 f1 c0 c1 y0 y1
      have d0 := cell_of_block R4 0
      have d1 := cell_of_block R4 1
      simp at d0 d1
      exact bodyPost_ret (by simp [results, Try.results42, go_sem, *]; try rfl) rfl ⟨_, rfl, by rw [HM.out]; exact (OwnsT.mono (base := w.heap.size + 2) (base' := w.heap.size) O4 (by omega)).holds, B4⟩
    · have e2 : a2 = some ⟨g, 0, none⟩ := by injection hv
      subst e2
      have HM := hide (show M = ts.map swp by rw [HW.out]; rfl)
      have g1 := (S2 g rfl).2
      have HX3 := hide X3
      have HY3 := hide Y3
      have HR3 := hide R3
      have HO3 := hide ho
      clear X3 Y3 R3 O3 ho hv HW HN
      go_wp2
      clear c0 c1 y0 y1 r0 r1 f0 f1
      go_loopw [4, 15] (fun _ i wr => ∃ k : Nat, k ≤ ts.length ∧ i = .int .i64 k ∧ wr.heap[w.heap.size]? = some (.cells #[.int .i64 p, .slice a ts.length cap] 26 (0, 0)) ∧ wr.heap[w2.heap.size]? = some (.cells #[.int .i64 p, .slice (some ⟨g, 0, none⟩) ts.length c2] 26 (0, 0)) ∧ wr.heap[w.heap.size + 1]? = some (.cells #[.int .i64 0, .slice none 0 0] 26 (0, 0)) ∧ OwnP wr g 37 (flat (turnK ts k)) ∧ Below w.heap.size w wr) (fun _ i _ => ts.length - (intOf i).toNat)
      case atStart => exact ⟨0, Nat.zero_le _, rfl, HX3.out, HY3.out, HR3.out, by simpa [turnK] using HO3.out, B3⟩
      case round =>
        obtain ⟨k, hk, rfl, X4, Y4, R4, O4, B4⟩ := hrel
        have x4 := (Array.getElem?_eq_some_iff.1 Y4).1
        by_cases hlt : k < ts.length
        · obtain ⟨b, off, rfl, hcell, hcell1, hcell2⟩ := hc.below B4 k hlt
          have HF := hide (turn_flat ts k hlt)
          generalize ts.getD k default = u at *
          obtain ⟨ux, uy, uz⟩ := u
          simp only at hcell hcell1 hcell2 HF
          have bl := World.block_lt_of_cell? wr _ hcell
          simp at bl
          have HX4 := hide X4
          have HR4 := hide R4
          have HY4 := hide Y4
          have HO4 := hide O4
          clear X4 R4 Y4 O4
          go_wp2
          have al := (Below.refl wr.heap.size wr).alloc (Nat.le_refl _) (.cells #[.int .i64 ux, .int .i64 uy, .int .i64 uz] 37)
          have P5 := blk_new wr #[.int .i64 ux, .int .i64 uy, .int .i64 uz] 37
          have X5 := heap_grow HX4.out al
          have Y5 := heap_grow HY4.out al
          have R5 := heap_grow HR4.out al
          have O5 := HO4.out.below al
          have B5 := belT B4 al
          have Z5 : wr.heap.size < (wr.alloc (.cells #[.int .i64 ux, .int .i64 uy, .int .i64 uz] 37)).heap.size := by simp
          generalize wr.alloc (.cells #[.int .i64 ux, .int .i64 uy, .int .i64 uz] 37) = w5 at *
          have d0 := cell_of_block P5 0
          have d1 := cell_of_block P5 1
          have y1 := cell_of_block Y5 1
          simp at d0 d1 y1
          have ne1 : w2.heap.size ≠ g := by omega
          have ne2 : wr.heap.size ≠ g := by omega
          have z6 : w2.heap.size < w5.heap.size := by omega
          have hgl : g < w5.heap.size := by omega
          have i0 : (0 : Int) ≤ (k : Int) := by omega
          have i1 : (k : Int) < (ts.length : Int) := by omega
          have hcgX := fun p b o hne h => cell_grewX w5 g p b o hne h
          refine wp_region_u (InX w5 g) (OwnX w5 g 37 (flat (turnK ts k))) (up_inX hgl) (up_ownX _ _ _) (inX_of hgl ⟨rfl, rfl, rfl, Nat.le_refl _, fun _ _ _ => rfl⟩) ⟨⟨rfl, rfl, rfl, Nat.le_refl _, fun _ _ _ => rfl⟩, O5.of_block rfl⟩ [0, 1, 2, 3, 4, 5, 6, 7, 8, 9, 10, 11] [12, 13, 14, 15] (by kernel_rfl) (by kernel_rfl) ?_
          simp only [pick, List.map_cons, List.map_nil, Array.getD_eq_getD_getElem?, List.getElem?_toArray, List.getElem?_cons_zero, List.getElem?_cons_succ, Option.getD_some]
          iterate 12 (refine wpG_step (fun K hK => ?_); go_simp; first | (refine hK _ ?_; clear hK K) | (apply Exists.intro; refine ⟨fun _ => ?_, hK _ ?_⟩; (fail); clear hK K))
          refine wpG_nil ?_
          clear hcgX
          have hll := turnK_length ts k (by omega)
          have HLL := hide hll
          clear hll
          refine wpT_setX (j := k * 3) (x := uy) hgl rfl (fun w' ho => by have q0 := ho.cell (k * 3) (by rw [flat_length, HLL.out]; omega); have f0 := ho.frozen (k * 3); go_simp) ?_
          simp only [Act.put, List.setIfInBounds_toArray, List.set_cons_zero, List.set_cons_succ]
          refine wpT_pureU (up_ownX _ _ _) rfl (fun wq => by (go_simp; rfl)) ?_
          simp only [Act.put, List.setIfInBounds_toArray, List.set_cons_zero, List.set_cons_succ]
          refine wpT_pureU (up_ownX _ _ _) rfl (fun wq => by (go_simp; rfl)) ?_
          simp only [Act.put, List.setIfInBounds_toArray, List.set_cons_zero, List.set_cons_succ]
          refine wpT_setX (j := k * 3 + 1) (x := ux) hgl rfl (fun w' ho => by have q0 := ho.cell (k * 3 + 1) (by rw [List.length_set, flat_length, HLL.out]; omega); have f0 := ho.frozen (k * 3 + 1); go_simp) ?_
          simp only [Act.put, List.setIfInBounds_toArray, List.set_cons_zero, List.set_cons_succ]
          rw [HF.out]
          intro w6 hC6 ⟨hgr6, hO6⟩
          clear hC6
          have X6 := blk_grown X5 hgr6 (by simp; omega)
          have Y6 := blk_grown Y5 hgr6 (by simp; omega)
          have R6 := blk_grown R5 hgr6 (by simp; omega)
          have B6 := belG B5 hgr6 (by omega)
          clear d0 d1 y1
          go_wp2
          go_roundw
          case rel => exact ⟨k + 1, by omega, by go_num, X6, Y6, R6, hO6, B6⟩
          case measure => simp [intOf]; omega
        · have hkk : k = ts.length := by omega
          subst hkk
          have HT := hide (show turnK ts ts.length = ts.map swp by simp [turnK])
          have y0 := cell_of_block Y4 0
          have y1 := cell_of_block Y4 1
          have r0 := cell_of_block R4 0
          have r1 := cell_of_block R4 1
          have f0 := frozen_of_block R4 0
          have f1 := frozen_of_block R4 1
          simp at y0 y1 r0 r1
          obtain ⟨R7, O7, L7⟩ := net_held (n := ts.length) (c := c2) (p := p) R4 O4
          have B7 := B4.trans (L7.mono (Nat.le_succ _))
          go_wp2
          generalize (wr.setCell ⟨w.heap.size + 1, 0, none⟩ (.int .i64 p)).setCell ⟨w.heap.size + 1, 1, none⟩ (.slice (some ⟨g, 0, none⟩) ts.length c2) = w7 at *
          clear y0 y1 r0 r1 f0 f1
          have d0 := cell_of_block R7 0
          have d1 := cell_of_block R7 1
          simp at d0 d1
          rw [HT.out] at O7
          exact bodyPost_ret (by simp [results, Try.results42, go_sem, *]; try rfl) rfl ⟨_, rfl, by rw [HM.out]; exact .inr ⟨g, c2, by rw [List.length_map], by omega, O7⟩, B7⟩

end Go.Proofs.Ytamadhdnblmfhaa
