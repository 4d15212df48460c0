/- The program's SellShare. -/
import Derived.Test.YtjcoajaoofjjmaaAdd
namespace Go.Proofs.Ytjcoajaoofjjmaa
set_option linter.unusedSimpArgs false
set_option linter.unusedVariables false
set_option linter.unnecessarySimpa false
open Go.RowKit

theorem OwnsT.holds {T : TypeId} {base : Nat} {w : World} {v : Value} {ts : List T3} (h : OwnsT T base w v ts) : HoldsT T base w v ts := h.cases
theorem RowT.holds {T : TypeId} {w : World} {g c n base : Nat} {ts : List T3} (h : RowT T w g c ts) (hn : n = ts.length) (hb : base ≤ g) : HoldsT T base w (.slice (some ⟨g, 0, none⟩) n c) ts := by
  subst hn; exact (h.owns hb).holds

/-- What a call that sells or inherits hands back: the new rights and 'true', or the old ones and 'false'. -/
def GivesO (X : Option (List T3)) (ts : List T3) (w : World) (e : Ending) (w' : World) : Prop := GivesT 56 (X.getD ts) X.isSome w e w'

theorem GivesO.none {ts : List T3} {w w' : World} {v : Value} (h : HoldsT 56 w.heap.size w' v ts) (hb : Below w.heap.size w w') : GivesO none ts w (.returned (.tuple #[v, .bool false])) w' := ⟨v, rfl, h, hb⟩
theorem GivesO.some {ts us : List T3} {w w' : World} {v : Value} (h : HoldsT 56 w.heap.size w' v us) (hb : Below w.heap.size w w') : GivesO (some us) ts w (.returned (.tuple #[v, .bool true])) w' := ⟨v, rfl, h, hb⟩

def sellX (ts : List T3) (k : Nat) (to : Int) : Option (Int × Int) → Option (Int × Int) → Option (List T3)
  | some m, some r => okM (sellTo (sellOut ts k r) to m)
  | _, _ => none

set_option maxHeartbeats 2000000 in
theorem implSell_ok (a : Option Addr) (cap n k : Nat) (ts : List T3) (f to p q : Int) (w : World) (hc : Rd3 w a ts) (hn : ts.length = n) (hR : rightsM ts = true) (hk : idxO f ts = k) (hkn : k < n) (hft : ¬ f = to) (hto : inB to 1 999 = true) (hfr : frOk p q = true) (hpq : p ≤ q)
    (t0 t1 t2 : Int) (ht : ts.getD k default = (t0, t1, t2)) (A1 A2 : Option (Int × Int)) (hA1 : timesM t1 t2 p q = A1) (hA2 : ∀ m, A1 = some m → lessM t1 t2 m.1 m.2 = A2) :
    Calls Try.prog 41 #[.slice a n cap, .int .i64 f, .int .i64 to, .agg #[.int .i64 p, .int .i64 q]] w fun e w' =>
      GivesO (sellX ts k to A1 A2) ts w e w' := by
  have hR2 := rights_parts hR
  have hn12 : n ≤ 12 := by omega
  have hCP := hide (fun W (hb : Below w.heap.size w W) => show Calls Try.prog 69 #[.slice a n cap] W fun e w' => GivesR ts W e w' from by
    have := copyRights_any a cap ts W (hc.below hb) (by omega)
    rw [hn] at this; exact this)
  have hIX := hide (fun W (hb : Below w.heap.size w W) => show Calls Try.prog 70 #[.slice a n cap, .int .i64 f] W fun e w' => Rets W (.int .i64 k) e w' from by
    have := rightOf_any a cap ts f W (hc.below hb) (by omega)
    rw [hn, idxV, hk, hn, if_pos hkn] at this; exact this)
  have hRO := hide (fun W (hb : Below w.heap.size w W) => show Calls Try.prog 22 #[.slice a n cap] W fun e w' => Rets W (.bool true) e w' from by
    have := implRightsOk_any a cap ts W (hc.below hb) (by omega)
    rw [hn, hR] at this; exact this)
  have hWI := hide (fun W => show Calls Try.prog 58 #[.int .i64 to, .int .i64 1, .int .i64 999] W fun e w' => e = .returned (.bool true) ∧ W = w' from by
    have := within_any to 1 999 W
    rw [hto] at this; exact this)
  have hFO := hide (fun W => show Calls Try.prog 59 #[.agg #[.int .i64 p, .int .i64 q]] W fun e w' => Rets W (.bool true) e w' from by
    have := implFractionOk_any p q W
    rw [hfr] at this; exact this)
  have hTI := hide (fun W => implTimesFraction_any t1 t2 p q W)
  rw [hA1] at hTI
  have hq : decide (q < p) = false := by simp; omega
  have hk0 : decide ((k : Int) < 0) = false := by simp
  have hft' : (f == to) = false := by simpa using hft
  go_enter Try.func41, Try.ntmps41
  go_wp2_with fail
  have bA : Below w.heap.size w (w.alloc (.cells #[.int .i64 p, .int .i64 q] 25)) := (Below.refl _ _).alloc (Nat.le_refl _) _
  (with_reducible refine (hCP.out _ bA).mono ?_)
  rintro e w1 ⟨vS, rfl, hown, hb1⟩
  obtain ⟨gS, cS, rfl, hgS, rowS⟩ := hown.some_row (by intro e; rw [e] at hn; simp at hn; omega)
  have b1 := belT bA hb1
  have hx1 := heap_grow (blk_new w #[.int .i64 p, .int .i64 q] 25) hb1
  simp at hgS
  clear hown bA hb1
  go_wp2_with fail
  (with_reducible refine (hIX.out _ b1).mono ?_)
  rintro e w2 ⟨rfl, hb2⟩
  have b2 := belT b1 hb2
  have row2 := rowS.below hb2
  have hx2 := heap_grow hx1 hb2
  clear b1 hb2 rowS hx1
  go_wp2_with fail
  (with_reducible refine (hRO.out _ b2).mono ?_)
  rintro e w3 ⟨rfl, hb3⟩
  have b3 := belT b2 hb3
  have row3 := row2.below hb3
  have hx3 := heap_grow hx2 hb3
  clear b2 hb3 row2 hx2
  have x0 := cell_of_block hx3 0
  have x1 := cell_of_block hx3 1
  simp at x0 x1
  go_wp2_with (first
    | (go_at_call 58; (with_reducible refine (hWI.out _).mono ?_); rintro e w' ⟨rfl, rfl⟩)
    | (go_at_call 59; (with_reducible refine (hFO.out _).mono ?_); rintro e w4 ⟨rfl, hb4⟩; have kx0 := cellB hb4 x0; have kx1 := cellB hb4 x1))
  have b4 := belT b3 hb4
  have row4 := row3.below hb4
  have hx4 := heap_grow hx3 hb4
  clear b3 hb4 row3 hx3 x0 x1 kx0 kx1 hCP hIX hWI hFO
  obtain ⟨b, off, rfl, y0, y1, y2⟩ := (hc.below b4) k (by omega)
  rw [ht] at y0 y1 y2
  simp only at y0 y1 y2
  have x0 := cell_of_block hx4 0
  have x1 := cell_of_block hx4 1
  simp at x0 x1
  have bl := World.block_lt_of_cell? w4 _ y0
  simp at bl
  have bl0 : w.heap.size < w4.heap.size := (Array.getElem?_eq_some_iff.1 hx4).1
  have i1 : (0 : Int) ≤ (k : Int) := by omega
  have i2 : (k : Int) < (n : Int) := by omega
  (refine wp_region_g [0, 1, 2, 3, 4, 5, 6, 7, 8, 9] [10, 11, 12] (by kernel_rfl) (by kernel_rfl) ?_; simp only [pick, List.map_cons, List.map_nil, Array.getD_eq_getD_getElem?, List.getElem?_toArray, List.getElem?_cons_zero, List.getElem?_cons_succ, Option.getD_some]; (iterate 10 (refine wpG_step (fun K hK => ?_); go_simp; first | (refine hK _ ?_; clear hK K) | (apply Exists.intro; refine ⟨fun _ => ?_, hK _ ?_⟩; ((go_at_call 71; exact hTI.out _)); clear hK K))); refine wpG_nil ?_)
  (refine wpT_alloc (C := #[.int .i64 0, .int .i64 0]) (T := 25) rfl (fun w => by go_simp) ?_; intro bs hbbs; simp only [Act.put, List.setIfInBounds_toArray, List.set_cons_zero, List.set_cons_succ]; refine wpT_store (C' := #[.int .i64 (oT A1), .int .i64 (oB A1)]) rfl hbbs (fun wq hwq => ⟨_, by (have hcq := cell_of_block hwq; have hfq := frozen_of_block hwq; go_simp), store_two hwq⟩) ?_; simp only [Act.put, List.setIfInBounds_toArray, List.set_cons_zero, List.set_cons_succ]; refine wpT_pure (up_block _ _) rfl (fun w => by (go_simp; rfl)) ?_; simp only [Act.put, List.setIfInBounds_toArray, List.set_cons_zero, List.set_cons_succ]; refine wpT_end ?_; intro w5 hbw5 hhw5; have hcw5 := cell_of_block hhw5; have hfw5 := frozen_of_block hhw5; have hlw5 : bs < w5.heap.size := (Array.getElem?_eq_some_iff.1 hhw5).1; obtain ⟨hcb, hfb⟩ := bcell hbw5; have hzw5 := hbw5.size; (try simp at hzw5); (try (refine ltk (a := w.heap.size) (b := w5.heap.size) ?_ ?_; (focus omega); intro _ _)); (try (refine ltk (a := w.heap.size + 1) (b := w5.heap.size) ?_ ?_; (focus omega); intro _ _)); (try (refine ltk (a := w.heap.size + 2) (b := w5.heap.size) ?_ ?_; (focus omega); intro _ _)); (try (refine ltk (a := w.heap.size + 3) (b := w5.heap.size) ?_ ?_; (focus omega); intro _ _)); (try (refine ltk (a := bs) (b := w5.heap.size) ?_ ?_; (focus omega); intro _ _)))
  have b5 := belT b4 hbw5
  have row5 := row4.below hbw5
  clear hcb hfb row4 hx4 b4 x0 x1 y0 y1 y2 hTI bl bl0
  cases hA : A1 with
  | none =>
    simp only [Option.isSome_none]
    go_wp2
    refine bodyPost_ret (by simp [results, Try.results41, go_sem, *]; try rfl) rfl ?_
    rw [show sellX ts k to A1 A2 = none by rw [hA]; cases A2 <;> rfl]
    exact GivesO.none (row5.holds hn.symm (by omega)) b5
  | some m =>
    obtain ⟨m0, m1⟩ := m
    have hA2' := hA2 (m0, m1) hA
    simp only at hA2'
    rw [hA] at hhw5
    simp only [oT, oB] at hhw5
    have hLE := hide (fun W => lessFraction_any t1 t2 m0 m1 W)
    rw [hA2'] at hLE
    simp only [Option.isSome_some]
    obtain ⟨b', off', e', y0, y1, y2⟩ := (hc.below b5) k (by omega)
    cases e'
    rw [ht] at y0 y1 y2
    simp only at y0 y1 y2
    have x0 := cell_of_block hhw5 0
    have x1 := cell_of_block hhw5 1
    simp at x0 x1
    have bl := World.block_lt_of_cell? w5 _ y0
    simp at bl
    have HX1 := hide hA
    clear hcw5 hA2 hbw5 hA hA1 hA2'
    go_wp2
    (refine wp_region_g [0, 1, 2, 3, 4, 5, 6, 7, 8, 9] [10, 11, 12] (by kernel_rfl) (by kernel_rfl) ?_; simp only [pick, List.map_cons, List.map_nil, Array.getD_eq_getD_getElem?, List.getElem?_toArray, List.getElem?_cons_zero, List.getElem?_cons_succ, Option.getD_some]; (iterate 10 (refine wpG_step (fun K hK => ?_); go_simp; first | (refine hK _ ?_; clear hK K) | (apply Exists.intro; refine ⟨fun _ => ?_, hK _ ?_⟩; ((go_at_call 72; exact hLE.out _)); clear hK K))); refine wpG_nil ?_)
    (refine wpT_alloc (C := #[.int .i64 0, .int .i64 0]) (T := 25) rfl (fun w => by go_simp) ?_; intro bt hbbt; simp only [Act.put, List.setIfInBounds_toArray, List.set_cons_zero, List.set_cons_succ]; refine wpT_store (C' := #[.int .i64 (oT A2), .int .i64 (oB A2)]) rfl hbbt (fun wq hwq => ⟨_, by (have hcq := cell_of_block hwq; have hfq := frozen_of_block hwq; go_simp), store_two hwq⟩) ?_; simp only [Act.put, List.setIfInBounds_toArray, List.set_cons_zero, List.set_cons_succ]; refine wpT_pure (up_block _ _) rfl (fun w => by (go_simp; rfl)) ?_; simp only [Act.put, List.setIfInBounds_toArray, List.set_cons_zero, List.set_cons_succ]; refine wpT_end ?_; intro w6 hbw6 hhw6; have hcw6 := cell_of_block hhw6; have hfw6 := frozen_of_block hhw6; have hlw6 : bt < w6.heap.size := (Array.getElem?_eq_some_iff.1 hhw6).1; obtain ⟨hcb, hfb⟩ := bcell hbw6; have hzw6 := hbw6.size; (try simp at hzw6); (try (refine ltk (a := w.heap.size) (b := w6.heap.size) ?_ ?_; (focus omega); intro _ _)); (try (refine ltk (a := w.heap.size + 1) (b := w6.heap.size) ?_ ?_; (focus omega); intro _ _)); (try (refine ltk (a := w.heap.size + 2) (b := w6.heap.size) ?_ ?_; (focus omega); intro _ _)); (try (refine ltk (a := w.heap.size + 3) (b := w6.heap.size) ?_ ?_; (focus omega); intro _ _)); (try (refine ltk (a := bt) (b := w6.heap.size) ?_ ?_; (focus omega); intro _ _)))
    have b6 := belT b5 hbw6
    have row6 := row5.below hbw6
    have hx6 := heap_grow hhw5 hbw6
    clear hcb hfb row5 hhw5 b5 x0 x1 y0 y1 y2 hLE bl
    cases hA : A2 with
    | none =>
      simp only [Option.isSome_none]
      go_wp2
      refine bodyPost_ret (by simp [results, Try.results41, go_sem, *]; try rfl) rfl ?_
      rw [show sellX ts k to A1 A2 = none by rw [hA, HX1.out]; rfl]
      exact GivesO.none (row6.holds hn.symm (by omega)) b6
    | some r =>
      obtain ⟨r0, r1⟩ := r
      rw [hA] at hhw6
      simp only [oT, oB] at hhw6
      simp only [Option.isSome_some]
      have HX2 := hide hA
      clear hcw6 hA hbw6
      have hSX : srt 0 (sellOut ts k (r0, r1)) := by
        have h0 := srt_of_rgA hR2.2.2.1
        unfold sellOut
        split
        · exact srt_erase k h0
        · exact srt_set k _ h0 (by omega) (by rfl)
      have hLO : (sellOut ts k (r0, r1)).length = if r0 = 0 then n - 1 else n := by
        unfold sellOut
        split
        · rename_i e; rw [List.length_eraseIdx, if_pos (by omega), hn]
        · rename_i e; rw [List.length_set, hn]
      have hSL : ∀ vs, sellTo (sellOut ts k (r0, r1)) to (m0, m1) = some vs → vs.length ≤ 1000 := by
        intro vs hv
        have hto1 := (inB_iff.1 hto).1
        unfold sellTo at hv
        split at hv
        · injection hv with hv; rw [← hv, hLO]; split <;> omega
        · have := (addSh_srt hSX (by omega) hv).2
          rw [hLO] at this
          split at this <;> omega
      have HAD := hide (fun g c w h l hl => addShare_any g c l (sellOut ts k (r0, r1)) to m0 m1 0 w h hl (by rw [← hl, hLO]; split <;> omega) hSX)
      have HS1 := hide (fun e => show sellOut ts k (r0, r1) = ts.eraseIdx k from if_pos e)
      have HS2 := hide (fun e => show sellOut ts k (r0, r1) = ts.set k (t0, r0, r1) by unfold sellOut; rw [if_neg e, ht])
      have hCP := hide (show Calls Try.prog 69 #[.slice (some ⟨b, off, none⟩) n cap] w6 fun e w' => GivesR ts w6 e w' from by
        have := copyRights_any (some ⟨b, off, none⟩) cap ts w6 (hc.below b6) (by omega)
        rw [hn] at this; exact this)
      clear hSX hc
      go_wp2_with fail
      (with_reducible refine hCP.out.mono ?_)
      rintro e w7 ⟨v7, rfl, hown7, hb7⟩
      obtain ⟨gO, cO, rfl, hgO7, row7⟩ := hown7.some_row (by intro e; rw [e] at hn; simp at hn; omega)
      have b7 := belT b6 hb7
      have row7S := row6.below hb7
      have hbm7 := heap_grow hx6 hb7
      have hbr7 := heap_grow hhw6 hb7
      have hgS6 := row6.lt
      have hbs6 : bs < w6.heap.size := (Array.getElem?_eq_some_iff.1 hx6).1
      have hw6 := b6.size
      have hgO : w.heap.size ≤ gO := by omega
      have NES : some gS ≠ some gO := by intro e; injection e with e; omega
      have n1 : ¬ gO = bt := by omega
      have n2 : ¬ bt = gO := by omega
      have n3 : ¬ gO = bs := by omega
      have n4 : ¬ bs = gO := by omega
      rw [hn]
      have lO := row7.lt
      have lS := row7.room
      have xr0 := cell_of_block hbr7 0
      have xr1 := cell_of_block hbr7 1
      have xm0 := cell_of_block hbm7 0
      have xm1 := cell_of_block hbm7 1
      simp at xr0 xr1 xm0 xm1
      obtain ⟨y0, y1, y2⟩ := row7.cell3 k (by omega)
      have f1 := row7.frozen (k * 3 + 1)
      have f2 := row7.frozen (k * 3 + 2)
      have row8 : RowT 56 ((w7.setCell ⟨gO, k * 3 + 1, none⟩ (.int .i64 r0)).setCell ⟨gO, k * 3 + 1 + 1, none⟩ (.int .i64 r1)) gO cO (ts.set k ((ts.getD k default).1, r0, r1)) := row7.set2 k r0 r1
      rw [ht] at row8
      have gr8 : w7.grownBy ((w7.setCell ⟨gO, k * 3 + 1, none⟩ (.int .i64 r0)).setCell ⟨gO, k * 3 + 1 + 1, none⟩ (.int .i64 r1)) (some gO) := grownBy_trans (grownBy_set _ _ _ _) (grownBy_set _ _ _ _)
      have row8S := row7S.kept gr8 NES
      have b8 := belG b7 gr8 hgO
      have R8 := hide row8
      have M8 := hide (grown_heap gr8 hbm7 (by intro e; injection e with e; omega))
      have R8S := hide row8S
      have B8 := hide b8
      clear row8 row8S b8 gr8 hown7 row7 row7S b7 row6 hx6 hhw6 b6 hCP
      by_cases hr0 : r0 = 0
      · have HDL := hide (delete_any gO cO k (n - 1) (ts.set k (t0, r0, r1)) _ R8.out (by rw [List.length_set]; omega) (by rw [List.length_set]; omega) (by rw [List.length_set]; omega))
        rw [List.length_set, hn, List.eraseIdx_set_eq] at HDL
        rw [← HS1.out hr0] at HDL
        rw [if_pos hr0] at hLO
        subst hr0
        go_wp2_with fail
        (with_reducible refine HDL.out.mono ?_)
        rintro e w9 ⟨rfl, row9, gr9⟩
        have row9S := R8S.out.kept gr9 NES
        have b9 := belG B8.out gr9 hgO
        have hm9 := grown_heap gr9 M8.out (by intro e; injection e with e; omega)
        have z0 := cell_of_block hm9 0
        have z1 := cell_of_block hm9 1
        simp at z0 z1
        clear HDL R8 R8S B8 M8 xr0 xr1 xm0 xm1 y0 y1 y2 f1 f2 hbm7 hbr7
        go_wp2_with fail
        (with_reducible refine (HAD.out gO cO w9 row9 (n - 1) hLO).mono ?_)
        rintro e w10 ⟨g', c', mm, bb, rfl, hgr10, hs10, hm10⟩
        have row10S := row9S.kept hgr10 NES
        have b10 := belG b9 hgr10 hgO
        have hg' : w.heap.size ≤ g' := by have := b9.size; omega
        clear row9S hgr10 b9 hs10
        cases hU : sellTo (sellOut ts k (0, r1)) to (m0, m1) with
        | none =>
          rw [hU] at hm10
          have hm10 : bb = false := hm10
          subst hm10
          go_wp2
          refine bodyPost_ret (by simp [results, Try.results41, go_sem, *]; try rfl) rfl ?_
          rw [show sellX ts k to A1 A2 = none by rw [HX1.out, HX2.out]; show okM (sellTo (sellOut ts k (0, r1)) to (m0, m1)) = none; rw [hU]; rfl]
          exact GivesO.none (row10S.holds hn.symm (by omega)) b10
        | some vs =>
          rw [hU] at hm10
          obtain ⟨rfl, rfl, rowV⟩ := hm10
          have hlv := (hSL vs hU)
          have hRV := hide (fun W (hb : Below w10.heap.size w10 W) => implRightsOk_any (some ⟨g', 0, none⟩) c' vs W (rowV.below hb).rd3 (by omega))
          have HXV := hide (show sellX ts k to A1 A2 = if rightsM vs then some vs else none by rw [HX1.out, HX2.out]; show okM (sellTo (sellOut ts k (0, r1)) to (m0, m1)) = _; rw [hU]; rfl)
          generalize rightsM vs = RV at *
          go_wp2_with fail
          (with_reducible refine (hRV.out _ (Below.refl _ _)).mono ?_)
          rintro e w11 ⟨rfl, hb11⟩
          have b11 := belT b10 hb11
          have rowV11 := rowV.below hb11
          have rowS11 := row10S.below hb11
          cases RV
          · go_wp2
            refine bodyPost_ret (by simp [results, Try.results41, go_sem, *]; try rfl) rfl ?_
            rw [HXV.out]
            exact GivesO.none (rowS11.holds hn.symm (by omega)) b11
          · go_wp2
            refine bodyPost_ret (by simp [results, Try.results41, go_sem, *]; try rfl) rfl ?_
            rw [HXV.out]
            exact GivesO.some (rowV11.holds rfl hg') b11
      · rw [if_neg hr0] at hLO
        go_wp2_with fail
        (with_reducible refine (HAD.out gO cO _ (by rw [HS2.out hr0]; exact R8.out) n hLO).mono ?_)
        rintro e w10 ⟨g', c', mm, bb, rfl, hgr10, hs10, hm10⟩
        have row9S := R8S.out
        have b9 := B8.out
        clear R8 R8S B8 M8 xr0 xr1 xm0 xm1 y0 y1 y2 f1 f2 hbm7 hbr7
        have row10S := row9S.kept hgr10 NES
        have b10 := belG b9 hgr10 hgO
        have hg' : w.heap.size ≤ g' := by have := b9.size; omega
        clear row9S hgr10 b9 hs10
        cases hU : sellTo (sellOut ts k (r0, r1)) to (m0, m1) with
        | none =>
          rw [hU] at hm10
          have hm10 : bb = false := hm10
          subst hm10
          go_wp2
          refine bodyPost_ret (by simp [results, Try.results41, go_sem, *]; try rfl) rfl ?_
          rw [show sellX ts k to A1 A2 = none by rw [HX1.out, HX2.out]; show okM (sellTo (sellOut ts k (r0, r1)) to (m0, m1)) = none; rw [hU]; rfl]
          exact GivesO.none (row10S.holds hn.symm (by omega)) b10
        | some vs =>
          rw [hU] at hm10
          obtain ⟨rfl, rfl, rowV⟩ := hm10
          have hlv := (hSL vs hU)
          have hRV := hide (fun W (hb : Below w10.heap.size w10 W) => implRightsOk_any (some ⟨g', 0, none⟩) c' vs W (rowV.below hb).rd3 (by omega))
          have HXV := hide (show sellX ts k to A1 A2 = if rightsM vs then some vs else none by rw [HX1.out, HX2.out]; show okM (sellTo (sellOut ts k (r0, r1)) to (m0, m1)) = _; rw [hU]; rfl)
          generalize rightsM vs = RV at *
          go_wp2_with fail
          (with_reducible refine (hRV.out _ (Below.refl _ _)).mono ?_)
          rintro e w11 ⟨rfl, hb11⟩
          have b11 := belT b10 hb11
          have rowV11 := rowV.below hb11
          have rowS11 := row10S.below hb11
          cases RV
          · go_wp2
            refine bodyPost_ret (by simp [results, Try.results41, go_sem, *]; try rfl) rfl ?_
            rw [HXV.out]
            exact GivesO.none (rowS11.holds hn.symm (by omega)) b11
          · go_wp2
            refine bodyPost_ret (by simp [results, Try.results41, go_sem, *]; try rfl) rfl ?_
            rw [HXV.out]
            exact GivesO.some (rowV11.holds rfl hg') b11

end Go.Proofs.Ytjcoajaoofjjmaa
