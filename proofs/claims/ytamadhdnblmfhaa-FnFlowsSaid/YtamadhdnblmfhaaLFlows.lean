/- The walk of the law Flows. -/
import Derived.Test.YtamadhdnblmfhaaOutO
import Derived.Test.YtamadhdnblmfhaaNetDraw2
import Derived.Test.YtamadhdnblmfhaaTurnN3
import Derived.Test.YtamadhdnblmfhaaRegL
namespace Go.Proofs.Ytamadhdnblmfhaa
set_option linter.unusedSimpArgs false
set_option linter.unusedVariables false
open Go.RowKit

set_option maxRecDepth 100000 in
set_option maxHeartbeats 40000000 in
theorem law_Flows (a : Option Addr) (cap : Nat) (bs : List Int) (w : World) (hr : Rd8 w a bs) (hm : bs.length ≤ 9223372036854775807) :
    Calls Try.prog 3 #[.slice a bs.length cap] w fun e w' => Rets w (.bool true) e w' := by
  by_cases hl : bs.length ≤ 1048576
  case neg =>
    have hd : decide (1048576 < bs.length) = true := by simp; omega
    have HB := hide (show ∀ W, Calls Try.prog 15 #[.slice a bs.length cap] W fun e w' => e = .returned (.bool true) ∧ W = w' from fun W => by rw [← hd]; exact big_any a bs.length cap W hm)
    clear hd
    go_enter Try.func3, Try.ntmps3
    go_wp2_with fail
    refine (HB.out _).mono ?_
    rintro e w' ⟨rfl, rfl⟩
    go_wp2
    go_ret
    exact ⟨rfl, Below.refl _ _⟩
  have hd : decide (1048576 < bs.length) = false := by simp; omega
  have HB := hide (show ∀ W, Calls Try.prog 15 #[.slice a bs.length cap] W fun e w' => e = .returned (.bool false) ∧ W = w' from fun W => by rw [← hd]; exact big_any a bs.length cap W hm)
  clear hd
  go_enter Try.func3, Try.ntmps3
  go_wp2_with fail
  refine (HB.out _).mono ?_
  rintro e w' ⟨rfl, rfl⟩
  go_wp2_with fail
  refine (DrawNetEnds_any a cap bs w hr hl).mono ?_
  rintro e w1 ⟨p, av, cv, ts, x, y, rfl, htw, n9, p6, hcv, hrd, hb1⟩
  have hn : ts.length ≤ 1048576 := by omega
  have hF := flw_ok htw
  obtain ⟨hN, hp⟩ := netP_two htw
  have hpl : placeM p ts x = true := by
    simp only [twoM, Bool.and_eq_true] at htw
    simp only [placeM, Bool.and_eq_true]
    exact htw.1.1
  have hl : (findM p ts x y).length = ts.length := hF.len
  have CF := hide (fun W (h : Below w1.heap.size w1 W) => (show Calls Try.prog 17 #[.agg #[.int .i64 p, .slice av ts.length cv], .int .i64 x, .int .i64 y] W fun e w' => GivesIB (findM p ts x y) true W e w' by
    have := implFindFlow_any p x y av cv ts W (hrd.below h) hn; rw [htw] at this; exact this))
  have CG := hide (fun W (h : Below w1.heap.size w1 W) => implGreatest_any p x y av cv ts W (hrd.below h) hn)
  have CO := hide (fun W (h : Below w1.heap.size w1 W) (af : Option Addr) (capf : Nat) (hf : Rd W af (findM p ts x y)) => (show Calls Try.prog 19 #[.agg #[.int .i64 p, .slice av ts.length cv], .slice af ts.length capf, .int .i64 x, .int .i64 y] W fun e w' => Rets W (.bool true) e w' by
    have := implFlowOk_any p x y av af cv capf ts (findM p ts x y) W (hrd.below h) hf hn (by omega); rw [hF.ok, hl] at this; exact this))
  have CS := hide (fun W (h : Below w1.heap.size w1 W) (af : Option Addr) (capf : Nat) (hf : Rd W af (findM p ts x y)) => (show Calls Try.prog 20 #[.agg #[.int .i64 p, .slice av ts.length cv], .slice af ts.length capf, .int .i64 x, .int .i64 y] W fun e w' => Rets W (.int .i64 (greatM p ts x y)) e w' by
    have := implFlowSize_any p x y av af cv capf ts (findM p ts x y) W (hrd.below h) hf hn (by omega); rw [hF.size, hl] at this; exact this))
  have CZ := hide (fun W (h : Below w1.heap.size w1 W) (af : Option Addr) (capf : Nat) (hf : Rd W af (List.replicate ts.length 0)) => (show Calls Try.prog 20 #[.agg #[.int .i64 p, .slice av ts.length cv], .slice af ts.length capf, .int .i64 x, .int .i64 y] W fun e w' => Rets W (.int .i64 0) e w' by
    have := implFlowSize_any p x y av af cv capf ts (List.replicate ts.length 0) W (hrd.below h) hf hn (by simp; omega); rw [hF.zero, List.length_replicate] at this; exact this))
  have CU := hide (fun W (h : Below w1.heap.size w1 W) => specOutOf_ok p x av cv ts W (hrd.below h) hpl)
  have CW := hide (fun W (h : Below w1.heap.size w1 W) => specWidestWay_any p x y av cv ts W (hrd.below h) hn)
  have CT := hide (fun W (h : Below w1.heap.size w1 W) => specTurnNet_any p av cv ts W (hrd.below h) hn)
  have CI := hide (fun W (af : Option Addr) (capf : Nat) (k : Nat) (hk : k < ts.length) (hf : Rd W af (findM p ts x y)) => (show Calls Try.prog 23 #[.agg #[.int .i64 p, .slice av ts.length cv], .slice af ts.length capf, .int .i64 k] W fun e w' => Rets W (.bool (decide (0 < (findM p ts x y).getD k 0))) e w' by
    have := implIsUsed_any p av af cv capf ts.length (findM p ts x y) k W hf (by omega) hn
    have e : usedM ts.length (findM p ts x y) (k : Int) = decide (0 < (findM p ts x y).getD k 0) := by
      have e1 : inB (k : Int) 0 ((ts.length : Int) - 1) = true := inB_iff.2 (by omega)
      simp only [usedM, hl, e1, Int.toNat_natCast, beq_self_eq_true, Bool.true_and]
    rw [e, hl] at this; exact this))
  have CGT := hide (fun W (aT : Option Addr) (cT : Nat) (hT : Rd3 W aT (turnM p ts)) => (show Calls Try.prog 18 #[.agg #[.int .i64 p, .slice aT ts.length cT], .int .i64 y, .int .i64 x] W fun e w' => Rets W (.int .i64 (greatM p ts x y)) e w' by
    have := implGreatest_any p y x aT cT (turnM p ts) W hT (by rw [turn_length]; omega); rw [hF.turn, turn_length] at this; exact this))
  have HFT := hide hF.fit
  have hG0 := hF.nneg
  have hGO := hF.out
  have hWG := hF.wide
  have HSM := hide hF.some_
  have HLF := hide hl
  have hG2 := great_bd2 p ts x y
  have HTL := hide (turn_length p ts)
  clear hF htw hpl hp hN hr
  generalize findM p ts x y = fs at *
  generalize greatM p ts x y = G at *
  generalize outM p ts x = O at *
  generalize widestM p ts x y = Wd at *
  have hmk := make_ints 29 Try.underlying29 ts.length (by omega)
  have hbx := blk_new w1 #[.int .i64 p, .slice av ts.length cv] 26
  go_wp2_with fail
  (with_reducible refine (CF.out _ (belA (Below.refl _ _))).mono ?_)
  rintro e w2 ⟨vf, rfl, hof, hb2⟩
  obtain ⟨af, capf, rfl, hrf⟩ := hof.slice
  rw [HLF.out]
  have B2 := hide (belT (belA (Below.refl w1.heap.size w1)) hb2)
  have hx2 := heap_grow hbx hb2
  have CEL := hide (fun (W : World) (hW : Below w2.heap.size w2 W) => (show W.cell? ⟨w1.heap.size, 0, none⟩ = some (.int .i64 p) ∧ W.cell? ⟨w1.heap.size, 1, none⟩ = some (.slice av ts.length cv) by
    have h := heap_grow hx2 hW
    exact ⟨by have := cell_of_block h 0; simpa using this, by have := cell_of_block h 1; simpa using this⟩))
  have HRF := hide hrf
  have hsz2 : w1.heap.size < w2.heap.size := (Array.getElem?_eq_some_iff.1 hx2).1
  have c0 := cell_of_block hx2 0
  have c1 := cell_of_block hx2 1
  simp at c0 c1
  have cg := CG.out w2 B2.out
  have HRD := hide hrd
  clear hx2 hrf hof hb2 hbx CF hrd
  go_wp2_with fail
  (with_reducible refine cg.mono ?_)
  rintro e w3 ⟨rfl, hb3⟩
  obtain ⟨d0, d1⟩ := CEL.out w3 hb3
  have B3 := hide (show Below w1.heap.size w1 w3 from B2.out.trans (hb3.mono B2.out.size))
  have co := CO.out w3 B3.out af capf (HRF.out.below hb3)
  have H3 := hide hb3
  clear cg hb3 c0 c1
  go_wp2_with fail
  (with_reducible refine co.mono ?_)
  rintro e w4 ⟨rfl, hb4⟩
  have H4 := hide (H3.out.trans (hb4.mono H3.out.size))
  obtain ⟨e0, e1⟩ := CEL.out w4 H4.out
  have B4 := hide (show Below w1.heap.size w1 w4 from B2.out.trans (H4.out.mono B2.out.size))
  have cs := CS.out w4 B4.out af capf (HRF.out.below H4.out)
  clear co hb4 d0 d1
  go_wp2_with fail
  (with_reducible refine cs.mono ?_)
  rintro e w5 ⟨rfl, hb5⟩
  have H5 := hide (H4.out.trans (hb5.mono H4.out.size))
  obtain ⟨d0, d1⟩ := CEL.out w5 H5.out
  have B5 := hide (show Below w1.heap.size w1 w5 from B2.out.trans (H5.out.mono B2.out.size))
  have cu := CU.out w5 B5.out
  clear cs hb5 e0 e1
  go_wp2_with fail
  (with_reducible refine cu.mono ?_)
  rintro e w6 ⟨rfl, hb6⟩
  have H6 := hide (H5.out.trans (hb6.mono H5.out.size))
  obtain ⟨e0, e1⟩ := CEL.out w6 H6.out
  have B6 := hide (show Below w1.heap.size w1 w6 from B2.out.trans (H6.out.mono B2.out.size))
  have cw := CW.out w6 B6.out
  clear cu hb6 d0 d1
  go_wp2_with fail
  (with_reducible refine cw.mono ?_)
  rintro e w7 ⟨rfl, hb7⟩
  have H7 := hide (H6.out.trans (hb7.mono H6.out.size))
  clear cw hb7 e0 e1 H3 H4 H5 H6 B3 B4 B5 B6 CO CS CU
  go_wp2
  go_loopw [9] (fun i wr => ∃ k : Nat, k ≤ ts.length ∧ i = .int .i64 k ∧ Hid (Below w2.heap.size w2 wr)) (fun i _ => ts.length - (intOf i).toNat)
  case atStart => exact ⟨0, Nat.zero_le _, rfl, H7⟩
  case round =>
    clear H7
    obtain ⟨k, hk, rfl, HB⟩ := hrel
    obtain ⟨c0, c1⟩ := CEL.out wr HB.out
    have BW := hide (show Below w1.heap.size w1 wr from B2.out.trans (HB.out.mono B2.out.size))
    by_cases hlt : k < ts.length
    · obtain ⟨b1, off1, rfl, p0, p1, p2⟩ := HRD.out.below BW.out k hlt
      obtain ⟨b2, off2, rfl, f0⟩ := (HRF.out.below HB.out) k (by rw [HLF.out]; exact hlt)
      have hfit := HFT.out k hlt
      have CIk := hide (fun W (h : Below w2.heap.size w2 W) => CI.out W (some ⟨b2, off2, none⟩) capf k hlt (HRF.out.below h))
      generalize fs.getD k 0 = fk at *
      generalize ts.getD k default = u at *
      obtain ⟨y1, y2, z⟩ := u
      simp only at p0 p1 p2 hfit
      have l0 := World.block_lt_of_cell? _ _ c0
      have l1 := World.block_lt_of_cell? _ _ p0
      have l2 := World.block_lt_of_cell? _ _ f0
      simp at l0 l1 l2
      have kl : (k : Int) < (ts.length : Int) := by omega
      have g1 : decide (fk < 0) = false := decide_eq_false (by omega)
      have g2 : decide (z < fk) = false := decide_eq_false (by omega)
      have g1' : ¬ fk < 0 := by omega
      have g2' : ¬ z < fk := by omega
      go_wp2
      (refine wp_region_g [0, 1, 2, 3, 4, 5, 6, 7, 8, 9, 10, 11, 12, 13, 14, 15, 16, 17, 18, 19, 20, 21, 22, 23, 24, 25, 26, 27, 28, 29] [] (by kernel_rfl) (by kernel_rfl) ?_; simp only [pick, List.map_cons, List.map_nil, Array.getD_eq_getD_getElem?, List.getElem?_toArray, List.getElem?_cons_zero, List.getElem?_cons_succ, Option.getD_some]; (iterate 30 (refine wpG_step (fun K hK => ?_); go_simp; first | (refine hK _ ?_; clear hK K) | (apply Exists.intro; refine ⟨fun _ => ?_, hK _ ?_⟩; ((go_at_call 23; exact CIk.out _ (HB.out.trans ((below_grew _ _).mono HB.out.size)))); clear hK K))); refine wpG_nil ?_)
      intro w8 hb8
      have H8 := hide (HB.out.trans ((below_of_inC hb8).mono HB.out.size))
      clear hb8
      go_wp2
      go_roundw
      case rel => exact ⟨k + 1, by omega, by go_num, H8⟩
      case measure => simp [intOf]; omega
    · clear hk
      have ct := CT.out wr BW.out
      go_wp2_with fail
      (with_reducible refine ct.mono ?_)
      rintro e w8 ⟨vT, rfl, hh, hb8⟩
      obtain ⟨aT, cT, rfl, hrT, _⟩ := hh.slice
      rw [HTL.out]
      have B8 := hide (BW.out.trans (hb8.mono BW.out.size))
      have c0' := cellB hb8 c0
      have c1' := cellB hb8 c1
      have l0 := World.block_lt_of_cell? _ _ c0'
      simp at l0
      have HRT := hide hrT
      have hs8 := B8.out.size
      clear hh hb8 ct c0 c1 HB BW HFT CI hrT
      go_wp2_with fail
      obtain ⟨W9, hW9⟩ : ∃ W9, W9 = (w8.alloc (.cells #[.int .i64 p, .slice aT ts.length cT] 26)).alloc (.cells (Array.replicate ts.length (Value.int .i64 0)) 3) := ⟨_, rfl⟩
      have bw9 : Below w8.heap.size w8 W9 := by subst hW9; exact belA (belA (Below.refl _ _))
      have hz9 : OwnI W9 (w8.heap.size + 1) 3 (List.replicate ts.length 0) := by
        subst hW9
        have := own_zero (w8.alloc (.cells #[.int .i64 p, .slice aT ts.length cT] 26)) 3 ts.length
        rw [World.size_alloc] at this; exact this
      rw [← hW9]
      clear hW9
      have B9 := hide (B8.out.trans (bw9.mono hs8))
      have hs9 := B9.out.size
      have d0 := cellB bw9 c0'
      have d1 := cellB bw9 c1'
      have cgt := CGT.out W9 aT cT (HRT.out.below bw9)
      clear c0' c1' l0
      (with_reducible refine cgt.mono ?_)
      rintro e w10 ⟨rfl, hb10⟩
      have B10 := hide (B9.out.trans (hb10.mono hs9))
      have e0 := cellB hb10 d0
      have e1 := cellB hb10 d1
      have hz10 := hz9.below hb10
      have l0 := World.block_lt_of_cell? _ _ e0
      simp at l0
      have cz := CZ.out w10 B10.out (some ⟨w8.heap.size + 1, 0, none⟩) ts.length hz10.rd
      clear cgt hb10 d0 d1 hz9 bw9
      go_wp2_with fail
      (with_reducible refine cz.mono ?_)
      rintro e w11 ⟨rfl, hb11⟩
      have hs10 := B10.out.size
      have B11 := hide (B10.out.trans (hb11.mono hs10))
      have d0 := cellB hb11 e0
      have d1 := cellB hb11 e1
      have cw := CW.out w11 B11.out
      have hs11 := B11.out.size
      clear cz hb11 e0 e1 hz10 l0
      go_wp2_with fail
      (with_reducible refine cw.mono ?_)
      rintro e w12 ⟨rfl, hb12⟩
      have B12 := hide (B11.out.trans (hb12.mono hs11))
      have HLI := hide (fun (W : World) (b : Nat) (h : W.heap[b]? = some (.cells #[.int .i64 0, .int .i64 1, .int .i64 5, .int .i64 1, .int .i64 2, .int .i64 3] 37 (0, 0))) => (show Calls Try.prog 18 #[.agg #[.int .i64 3, .slice (some ⟨b, 0, none⟩) 2 2], .int .i64 0, .int .i64 2] W fun e w' => Rets W (.int .i64 3) e w' by
        have hr : Rd3 W (some ⟨b, 0, none⟩) [(0, 1, 5), (1, 2, 3)] := fun j hj => by
          have hj2 : j = 0 ∨ j = 1 := by simp at hj; omega
          rcases hj2 with rfl | rfl
          · exact ⟨b, 0, rfl, by rw [cell_of_block h]; rfl, by rw [cell_of_block h]; rfl, by rw [cell_of_block h]; rfl⟩
          · exact ⟨b, 0, rfl, by rw [cell_of_block h]; rfl, by rw [cell_of_block h]; rfl, by rw [cell_of_block h]; rfl⟩
        have := implGreatest_any 3 0 2 (some ⟨b, 0, none⟩) 2 [(0, 1, 5), (1, 2, 3)] W hr (by simp)
        rw [little] at this
        exact this))
      have hli := HLI.out (w12.alloc (.cells #[.int .i64 0, .int .i64 1, .int .i64 5, .int .i64 1, .int .i64 2, .int .i64 3] 37)) w12.heap.size (blk_new w12 _ _)
      have BF := hide (show Below w.heap.size w w12 from hb1.trans (B12.out.mono hb1.size))
      clear cw hb12 d0 d1 HLI B8 B9 B10 B11
      have hsm := HSM.out
      by_cases hg : 0 < G
      · have hw : 0 < Wd := by rw [decide_eq_true hg] at hsm; simpa using hsm.symm
        clear hsm
        go_wp2_with fail
        (with_reducible refine hli.mono ?_)
        rintro e w13 ⟨rfl, hb13⟩
        have BZ := hide (BF.out.trans ((belA (Below.refl w12.heap.size w12)).trans (hb13.mono (by simp)) |>.mono BF.out.size))
        clear hli hb13
        go_wp2
        go_ret
        exact ⟨rfl, BZ.out⟩
      · have hw : ¬ 0 < Wd := by rw [decide_eq_false hg] at hsm; simpa using hsm.symm
        have hgd : decide (0 < G) = false := decide_eq_false hg
        have hwd : decide (0 < Wd) = false := decide_eq_false hw
        clear hsm
        go_wp2_with fail
        (with_reducible refine hli.mono ?_)
        rintro e w13 ⟨rfl, hb13⟩
        have BZ := hide (BF.out.trans ((belA (Below.refl w12.heap.size w12)).trans (hb13.mono (by simp)) |>.mono BF.out.size))
        clear hli hb13
        go_wp2
        go_ret
        exact ⟨rfl, BZ.out⟩

end Go.Proofs.Ytamadhdnblmfhaa
