/- The reference's SellShare, where the sale may go on. -/
import Derived.Test.YtjcoajaoofjjmaaSps
import Derived.Test.YtjcoajaoofjjmaaSpsM
import Derived.Deep.DeepCutAuto
import Derived.Deep.CutBlock
import Derived.Deep.RegionHeld3
namespace Go.Proofs.Ytjcoajaoofjjmaa
set_option linter.unusedSimpArgs false
set_option linter.unusedVariables false
set_option linter.unnecessarySimpa false
open Go.RowKit

set_option maxRecDepth 100000 in
set_option maxHeartbeats 4000000 in
theorem specSell_ok (ab ao cap n k0 : Nat) (ts : List T3) (f tw p q : Int) (w : World) (hc : Rd3 w (some ⟨ab, ao, none⟩) ts) (hn : ts.length = n) (hR : rightsM ts = true) (hk : idxO f ts = k0) (hft : ¬ f = tw) (hto : inB tw 1 999 = true) (hfr : frOk p q = true) (hpq : p ≤ q)
    (A1 A2 : Option (Int × Int)) (hA1 : k0 < n → timesM (ts.getD k0 default).2.1 (ts.getD k0 default).2.2 p q = A1) (hA2 : k0 < n → timesM (ts.getD k0 default).2.1 (ts.getD k0 default).2.2 (q - p) q = A2) (RES : Option (List T3)) (hRES : RES = if k0 < n then sellX ts k0 tw A1 A2 else none) :
    Calls Try.prog 39 #[.slice (some ⟨ab, ao, none⟩) n cap, .int .i64 f, .int .i64 tw, .agg #[.int .i64 p, .int .i64 q]] w fun e w' =>
      GivesO RES ts w e w' := by
  have HRES := hide hRES
  clear hRES
  have hR2 := rights_parts hR
  have hn12 : n ≤ 12 := by omega
  have hRO := hide (fun W (hb : Below w.heap.size w W) => show Calls Try.prog 21 #[.slice (some ⟨ab, ao, none⟩) n cap] W fun e w' => Rets W (.bool true) e w' from by
    have := specRightsOk_any (some ⟨ab, ao, none⟩) cap ts W (hc.below hb) (by omega)
    rw [hn, hR] at this; exact this)
  have hWI := hide (fun W => show Calls Try.prog 57 #[.int .i64 tw, .int .i64 1, .int .i64 999] W fun e w' => e = .returned (.bool true) ∧ W = w' from by
    have := l01In_any tw 1 999 W
    rw [hto] at this; exact this)
  have hFO := hide (fun W => show Calls Try.prog 67 #[.agg #[.int .i64 p, .int .i64 q]] W fun e w' => Rets W (.bool true) e w' from by
    have := specFractionOk_any p q W
    rw [hfr] at this; exact this)
  have hq : decide (q < p) = false := by simp; omega
  have hft' : (f == tw) = false := by simpa using hft
  have bP : Below w.heap.size w (w.alloc (.cells #[.int .i64 p, .int .i64 q] 25)) := (Below.refl _ _).alloc (Nat.le_refl _) _
  have bA : Below w.heap.size w ((w.alloc (.cells #[.int .i64 p, .int .i64 q] 25)).alloc (.cells #[] 56)) := belA bP
  have SRC := hide (rd3_cells (hc.below bA))
  have RE := hide (RowT.empty' 56 (w.alloc (.cells #[.int .i64 p, .int .i64 q] 25)) (w.heap.size + 1) (by simp))
  have XP := hide (blk_alloc (o := .cells #[] 56) (blk_new w #[.int .i64 p, .int .i64 q] 25))
  go_enter Try.func39, Try.ntmps39
  go_wp2_with (refine appRow rfl _ _ rfl RE.out 0 rfl ts n cap hn ⟨ab, ao, none⟩ rfl rfl SRC.out (by omega) n (by omega) (fun gS cS w1 rowS gr1 hs1 => ?_))
  rw [List.nil_append] at rowS
  have b1 : Below w.heap.size w w1 := belG bA gr1 (by omega)
  have hgS : w.heap.size < gS := by
    rcases hs1 with e | e
    · omega
    · rw [e]; simp; omega
  have hx1 := grown_heap gr1 XP.out (by intro e; injection e with e; omega)
  clear hs1 gr1 bA bP SRC RE XP
  (with_reducible refine (hRO.out _ b1).mono ?_)
  rintro e w2 ⟨rfl, hb2⟩
  have b2 := belT b1 hb2
  have rowS2 := rowS.below hb2
  have hx2 := heap_grow hx1 hb2
  have hgS2 : gS < w2.heap.size := Nat.lt_of_lt_of_le rowS.lt hb2.size
  have x0 := cell_of_block hx2 0
  have x1 := cell_of_block hx2 1
  simp at x0 x1
  clear hRO b1 hb2 rowS hx1
  go_wp2_with fail
  (with_reducible refine (hFO.out _).mono ?_)
  rintro e w3 ⟨rfl, hb3⟩
  have b3 := belT b2 hb3
  have rowS3 := rowS2.below hb3
  have hx3 := heap_grow hx2 hb3
  have hgS3 : gS < w3.heap.size := Nat.lt_of_lt_of_le hgS2 hb3.size
  have hpS3 : w.heap.size < w3.heap.size := (Array.getElem?_eq_some_iff.1 hx3).1
  have x0 := cell_of_block hx3 0
  have x1 := cell_of_block hx3 1
  simp at x0 x1
  clear hFO b2 hb3 rowS2 hx2 hgS2
  go_wp2_with fail
  go_at_call 57
  (with_reducible refine (hWI.out _).mono ?_)
  rintro e w' ⟨rfl, rfl⟩
  go_wp2
  clear hWI
  have HM := hide (rights_mem hR)
  have HNE := hide (show ∀ k, k < n → k ≠ k0 → (ts.getD k default).1 ≠ f from fun k h1 h2 => by
    rcases Nat.lt_or_ge k k0 with h | h
    · exact idxO_ne k (by rw [hk]; exact h)
    · exact srt_past k (srt_of_rgA hR2.2.2.1) (by omega) (by omega))
  have HEQ := hide (show k0 < n → (ts.getD k0 default).1 = f from fun h => by have := idxO_get f ts (by omega); rwa [hk] at this)
  have b3s := b3.size
  go_loopw [11, 13, 14] (fun out fd i wr => ∃ (k g c nn : Nat) (L : List T3) (b : Bool) (m0 m1 : Int), k ≤ n ∧ i = .int .i64 k ∧ out = .slice (some ⟨g, 0, none⟩) nn c ∧ nn = L.length ∧ fd = .bool b ∧ RowT 56 wr g c L ∧ w3.heap.size ≤ g ∧ g ≠ w3.heap.size + 1 ∧ wr.heap[w3.heap.size + 1]? = some (.cells #[.int .i64 m0, .int .i64 m1] 25 (0, 0)) ∧ Below w3.heap.size w3 wr ∧
    SellJ ts k0 A1 A2 k L b m0 m1)
    (fun _ _ i _ => n - (intOf i).toNat)
  case atStart =>
    refine ⟨0, w3.heap.size, 0, 0, [], false, 0, 0, Nat.zero_le _, rfl, rfl, rfl, rfl, ?_, by omega, by omega, ?_, by first | exact (belS (belS (belA (belA (Below.refl _ _))) (by simp)) (by simp)) | exact (belA (belA (Below.refl _ _))), SellJ.start _ _ _ _⟩
    · have r := (RowT.empty' 56 w3 w3.heap.size rfl).below ((Below.refl _ _).alloc (Nat.le_refl _) (.cells #[.int .i64 0, .int .i64 0] 25))
      first | exact r | exact (r.grown_own (grownBy_trans (grownBy_set _ _ _ _) (grownBy_set _ _ _ _)) (by intro e; injection e with e; omega))
    · have e := blk_new (w3.alloc (.cells #[] 56)) #[.int .i64 0, .int .i64 0] 25
      have hz : (w3.alloc (.cells #[] 56)).heap.size = w3.heap.size + 1 := by simp
      rw [hz] at e
      first | exact e | (have := setCell_block (i := 1) (v := .int .i64 0) (setCell_block (i := 0) (v := .int .i64 0) e); simpa using this)
  case round =>
    obtain ⟨k, g, c, nn, L, b, m0, m1, hkn, rfl, rfl, rfl, rfl, rowL, hgg, hgm, hbm, hbel, hJ⟩ := hrel
    have HJ := hide hJ
    have hJl := hJ.len
    clear hJ
    by_cases hlt : k < n
    · obtain ⟨b', off, e', y0, y1, y2⟩ := (hc.below (belT b3 hbel)) k (by omega)
      cases e'
      obtain ⟨q1, q2, q3, q4⟩ := HM.out _ (getD_mem3' (by omega : k < ts.length))
      have hx := heap_grow hx3 hbel
      have p0 := cell_of_block hx 0
      have p1 := cell_of_block hx 1
      simp at p0 p1
      have bl := World.block_lt_of_cell? wr _ y0
      simp at bl
      have i1 : (0 : Int) ≤ (k : Int) := by omega
      have i2 : (k : Int) < (n : Int) := by omega
      by_cases hq0 : k = k0
      · subst hq0
        have hfe := HEQ.out hlt
        have hA1' := hA1 hlt
        have hA2' := hA2 hlt
        have HJH := hide (fun x0 x1 r0 r1 h1 h2 => SellJ.here (x0 := x0) (x1 := x1) (r0 := r0) (r1 := r1) HJ.out (by omega) h1 h2)
        have HRR := hide (fun r0 r1 (h : A2 = some (r0, r1)) => (timesM_ok (hA2'.trans h)).2.2.1)
        have HNR := hide HNE.out
        have hfq := frOk_iff.1 hfr
        have hw : IntKind.i64.wrap (q - p) = q - p := by rw [IntKind.wrap_i64]; omega
        clear hA1 hA2 HEQ HNE
        generalize ts.getD k default = t at *
        obtain ⟨t1, t2, ht⟩ : ∃ t1 t2, t = (f, t1, t2) := ⟨t.2.1, t.2.2, Prod.ext hfe rfl⟩
        subst ht
        simp only at y0 y1 y2 q1 q2 q3 q4 hA1' hA2' HJH HRR
        have hTI := hide (fun W => specTimesFraction_any t1 t2 p q W)
        have hTR := hide (fun W => specTimesFraction_any t1 t2 (q - p) q W)
        rw [hA1'] at hTI
        rw [hA2'] at hTR
        have hf' : (f == f) = true := by simp
        have hml : w3.heap.size + 1 < wr.heap.size := (Array.getElem?_eq_some_iff.1 hbm).1
        have hpl : w.heap.size < wr.heap.size := (Array.getElem?_eq_some_iff.1 hx).1
        have bX := blk_new wr #[.int .i64 f, .int .i64 t1, .int .i64 t2] 56
        clear hA1' hA2'
        go_wp2_with fail
        (with_reducible refine (hTI.out _).mono ?_)
        rintro e w5 ⟨rfl, hb5⟩
        have X5 := heap_grow bX hb5
        have M5 := heap_grow (blk_alloc hbm) hb5
        have P5 := heap_grow (blk_alloc hx) hb5
        have B5 := belT (belA hbel) hb5
        have RL5 := rowL.below (belT (belA (o := .cells #[.int .i64 f, .int .i64 t1, .int .i64 t2] 56) (Below.refl _ _)) hb5)
        have hs5 := hb5.size
        simp only [World.size_alloc] at hs5
        have RLwr := rowL
        clear hb5 bX hbm hx hbel rowL y0 y1 y2 p0 p1
        have p0 := cell_of_block P5 0
        have p1 := cell_of_block P5 1
        have c0 := cell_of_block X5 0
        have c1 := cell_of_block X5 1
        have c2 := cell_of_block X5 2
        simp at p0 p1 c0 c1 c2
        have hxl : wr.heap.size < w5.heap.size := by omega
        have hpl5 : w.heap.size < w5.heap.size := by omega
        go_wp2_with fail
        (with_reducible refine (hTR.out _).mono ?_)
        rintro e w6 ⟨rfl, hb6⟩
        have T6 := heap_grow (blk_new w5 #[.int .i64 (oT A1), .int .i64 (oB A1)] 25) hb6
        have X6 := heap_grow (blk_alloc X5) hb6
        have M6 := heap_grow (blk_alloc M5) hb6
        have B6 := belT (belA B5) hb6
        have RL6 := RL5.below (belT (belA (o := .cells #[.int .i64 (oT A1), .int .i64 (oB A1)] 25) (Below.refl _ _)) hb6)
        have hs6 := hb6.size
        simp only [World.size_alloc] at hs6
        have rowS6 := rowS3.below B6
        have BW := belT b3 B6
        clear hb6 X5 M5 P5 B5 RL5 p0 p1 c0 c1 c2 hTI hTR
        rcases A1 with _ | ⟨z0, z1⟩
        · simp only [oT, oB, Option.isSome_none]
          go_wp2
          refine bodyPost_ret (by simp [results, Try.results39, go_sem, *]; try rfl) rfl ?_
          have eR : RES = none := by rw [HRES.out, if_pos hlt]; cases A2 <;> rfl
          rw [eR]
          exact GivesO.none ((rowS6.below (belA (Below.refl _ _))).holds (base := w.heap.size) hn.symm (by omega)) (belA BW)
        · rcases A2 with _ | ⟨r0, r1⟩
          · simp only [oT, oB, Option.isSome_none, Option.isSome_some]
            go_wp2
            refine bodyPost_ret (by simp [results, Try.results39, go_sem, *]; try rfl) rfl ?_
            have eR : RES = none := by rw [HRES.out, if_pos hlt]; rfl
            rw [eR]
            exact GivesO.none ((rowS6.below (belA (Below.refl _ _))).holds (base := w.heap.size) hn.symm (by omega)) (belA BW)
          · simp only [oT, oB, Option.isSome_some] at T6 ⊢
            have HJN := hide (HJH.out z0 z1 r0 r1 rfl rfl)
            have hr := (frOk_iff.1 (HRR.out r0 r1 rfl)).2.2.1
            go_upto_region 17 with fail
            have N7 : (w6.alloc (.cells #[.int .i64 (oT (some (r0, r1))), .int .i64 (oB (some (r0, r1)))] 25)).heap[w6.heap.size]? = some (.cells #[.int .i64 r0, .int .i64 r1] 25 (0, 0)) := blk_new w6 _ _
            have T7 := blk_alloc (o := .cells #[.int .i64 (oT (some (r0, r1))), .int .i64 (oB (some (r0, r1)))] 25) T6
            have X7 := blk_alloc (o := .cells #[.int .i64 (oT (some (r0, r1))), .int .i64 (oB (some (r0, r1)))] 25) X6
            have M7 := blk_alloc (o := .cells #[.int .i64 (oT (some (r0, r1))), .int .i64 (oB (some (r0, r1)))] 25) M6
            have B7 := belA (o := .cells #[.int .i64 (oT (some (r0, r1))), .int .i64 (oB (some (r0, r1)))] 25) B6
            have RL7 := RL6.below (belA (o := .cells #[.int .i64 (oT (some (r0, r1))), .int .i64 (oB (some (r0, r1)))] 25) (Below.refl _ _))
            have hs7 : (w6.alloc (.cells #[.int .i64 (oT (some (r0, r1))), .int .i64 (oB (some (r0, r1)))] 25)).heap.size = w6.heap.size + 1 := World.size_alloc _ _
            generalize w6.alloc (.cells #[.int .i64 (oT (some (r0, r1))), .int .i64 (oB (some (r0, r1)))] 25) = w7 at *
            have l7 : w6.heap.size < w7.heap.size := by omega
            have l6 : w5.heap.size < w6.heap.size := by omega
            have l5 : wr.heap.size < w5.heap.size := by omega
            clear hs7 hs6 hs5
            generalize w6.heap.size = b18 at *
            generalize w5.heap.size = b16 at *
            have hgx : g ≠ wr.heap.size := by have := RLwr.lt; omega
            generalize hb15 : wr.heap.size = b15 at *
            generalize hbM : w3.heap.size + 1 = bM at *
            have t0' := cell_of_block T7 0
            have t1' := cell_of_block T7 1
            have d0 := cell_of_block N7 0
            have d1 := cell_of_block N7 1
            have c0 := cell_of_block X7 0
            have c1 := cell_of_block X7 1
            have c2 := cell_of_block X7 2
            have v0 := cell_of_block M7 0
            have v1 := cell_of_block M7 1
            have fx := frozen_of_block X7
            have fm := frozen_of_block M7
            simp at t0' t1' d0 d1 c0 c1 c2 v0 v1
            have e1 : ¬ b15 = bM := by omega
            have e2 : ¬ bM = b15 := by omega
            have e3 : ¬ b16 = bM := by omega
            have e4 : ¬ bM = b16 := by omega
            have e5 : ¬ b18 = bM := by omega
            have e6 : ¬ bM = b18 := by omega
            have e7 : ¬ b16 = b15 := by omega
            have e8 : ¬ b15 = b16 := by omega
            have e9 : ¬ b18 = b15 := by omega
            have e10 : ¬ b15 = b18 := by omega
            clear T6 X6 M6 B6 RL6 T7 N7
            go_upto_region 19 with fail
            have X8 := setCell_block (i := 2) (v := .int .i64 r1) (setCell_block (i := 1) (v := .int .i64 r0) (blk_other (i := 1) (v := .int .i64 z1) (blk_other (i := 0) (v := .int .i64 z0) X7 e1) e1))
            have M8 := blk_other (i := 2) (v := .int .i64 r1) (blk_other (i := 1) (v := .int .i64 r0) (setCell_block (i := 1) (v := .int .i64 z1) (setCell_block (i := 0) (v := .int .i64 z0) M7)) e2) e2
            have G8 : w7.grownBy ((w7.setCell ⟨bM, 0, none⟩ (.int .i64 z0)).setCell ⟨bM, 1, none⟩ (.int .i64 z1)) (some bM) := grownBy_trans (grownBy_set _ _ _ _) (grownBy_set _ _ _ _)
            have RM8 := RL7.grown_own G8 (by intro e; injection e with e; exact hgm e.symm)
            have BM8 : Below w3.heap.size w3 _ := belG B7 G8 (by omega)
            have G9 : ((w7.setCell ⟨bM, 0, none⟩ (.int .i64 z0)).setCell ⟨bM, 1, none⟩ (.int .i64 z1)).grownBy ((((w7.setCell ⟨bM, 0, none⟩ (.int .i64 z0)).setCell ⟨bM, 1, none⟩ (.int .i64 z1)).setCell ⟨b15, 1, none⟩ (.int .i64 r0)).setCell ⟨b15, 2, none⟩ (.int .i64 r1)) (some b15) := grownBy_trans (grownBy_set _ _ _ _) (grownBy_set _ _ _ _)
            have R8 := RM8.grown_own G9 (by intro e; injection e with e; exact hgx e.symm)
            have B8 : Below w3.heap.size w3 _ := belG BM8 G9 (by omega)
            clear X7 M7 G8 RM8 BM8 G9 RL7 B7 t0' t1' d0 d1 c0 c1 c2 v0 v1 fx fm
            generalize (((w7.setCell ⟨bM, 0, none⟩ (.int .i64 z0)).setCell ⟨bM, 1, none⟩ (.int .i64 z1)).setCell ⟨b15, 1, none⟩ (.int .i64 r0)).setCell ⟨b15, 2, none⟩ (.int .i64 r1) = w8 at *
            have X9 : w8.heap[b15]? = some (.cells #[.int .i64 f, .int .i64 r0, .int .i64 r1] 56 (0, 0)) := X8
            have M9 : w8.heap[bM]? = some (.cells #[.int .i64 z0, .int .i64 z1] 25 (0, 0)) := M8
            clear X8 M8
            have c0 := cell_of_block X9 0
            have c1 := cell_of_block X9 1
            have c2 := cell_of_block X9 2
            simp at c0 c1 c2
            by_cases hr0 : r0 = 0
            · rw [if_pos hr0] at HJN
              subst hr0
              go_wp2
              subst hbM
              go_roundw
              case rel => exact ⟨k + 1, g, c, L.length, L, true, z0, z1, by omega, by go_num, rfl, rfl, rfl, R8, hgg, hgm, M9, B8, HJN.out⟩
              case measure => simp [intOf]; omega
            · rw [if_neg hr0] at HJN
              have hr0' : 0 < r0 := by omega
              have RX := hide (R8.below (belA (o := .cells #[.int .i64 f, .int .i64 r0, .int .i64 r1] 56) (Below.refl _ _)))
              have SX := hide (one_src (blk_new w8 #[.int .i64 f, .int .i64 r0, .int .i64 r1] 56))
              have BX := hide (belA (o := .cells #[.int .i64 f, .int .i64 r0, .int .i64 r1] 56) B8)
              have MX := hide (blk_alloc (o := .cells #[.int .i64 f, .int .i64 r0, .int .i64 r1] 56) M9)
              have hml8 : bM < w8.heap.size := (Array.getElem?_eq_some_iff.1 M9).1
              go_wp2_with (refine appRow rfl _ _ rfl RX.out L.length rfl [(f, r0, r1)] 1 1 rfl ⟨w8.heap.size, 0, none⟩ rfl rfl SX.out (by omega) _ rfl (fun g' c' w' rowN grN hsN => ?_))
              subst hbM
              go_roundw
              case rel =>
                refine ⟨k + 1, g', c', L.length + 1, L ++ [(f, r0, r1)], true, z0, z1, by omega, by go_num, rfl, by simp, rfl, rowN, ?_, ?_, ?_, ?_, HJN.out⟩
                · have := B8.size
                  rcases hsN with e | e
                  · omega
                  · rw [e]; simp; omega
                · rcases hsN with e | e
                  · omega
                  · rw [e]; simp; omega
                · exact grown_heap grN MX.out (by intro e; injection e with e; exact hgm e)
                · exact belG BX.out grN hgg
              case measure => simp [intOf]; omega
      · have HNX := hide (HJ.out.next (by omega) hq0)
        have hne := HNE.out k hlt hq0
        generalize ts.getD k default = t at *
        obtain ⟨t0, t1, t2⟩ := t
        simp only at y0 y1 y2 q1 q2 q3 q4 hne
        have RX := hide (rowL.below (belA (o := .cells #[.int .i64 t0, .int .i64 t1, .int .i64 t2] 56) (belA (o := .cells #[.int .i64 t0, .int .i64 t1, .int .i64 t2] 56) (Below.refl _ _))))
        have SX := hide (one_src (blk_two wr (.cells #[.int .i64 t0, .int .i64 t1, .int .i64 t2] 56) #[.int .i64 t0, .int .i64 t1, .int .i64 t2] 56))
        have BX := hide (belA (o := .cells #[.int .i64 t0, .int .i64 t1, .int .i64 t2] 56) (belA (o := .cells #[.int .i64 t0, .int .i64 t1, .int .i64 t2] 56) hbel))
        have MX := hide (blk_alloc (o := .cells #[.int .i64 t0, .int .i64 t1, .int .i64 t2] 56) (blk_alloc (o := .cells #[.int .i64 t0, .int .i64 t1, .int .i64 t2] 56) hbm))
        have hf' : (t0 == f) = false := by simpa using hne
        have q4' : 0 < t1 := by omega
        have hml : w3.heap.size + 1 < wr.heap.size := (Array.getElem?_eq_some_iff.1 hbm).1
        go_wp2_with (refine appRow rfl _ _ rfl RX.out L.length rfl [(t0, t1, t2)] 1 1 rfl ⟨wr.heap.size + 1, 0, none⟩ rfl rfl SX.out (by omega) _ rfl (fun g' c' w' rowN grN hsN => ?_))
        go_roundw
        case rel =>
          refine ⟨k + 1, g', c', L.length + 1, L ++ [(t0, t1, t2)], b, m0, m1, by omega, by go_num, rfl, by simp, rfl, rowN, ?_, ?_, ?_, ?_, HNX.out⟩
          · rcases hsN with e | e
            · omega
            · rw [e]; simp; omega
          · rcases hsN with e | e
            · omega
            · rw [e]; simp; omega
          · exact grown_heap grN MX.out (by intro e; injection e with e; exact hgm e)
          · exact belG BX.out grN hgg
        case measure => simp [intOf]; omega
    · have hE := SellJ.end (ts := ts) (k0 := k0) (A1 := A1) (A2 := A2) (L := L) (b := b) (m0 := m0) (m1 := m1) (by rw [hn, show n = k by omega]; exact HJ.out)
      rw [hn] at hE
      have BW := belT b3 hbel
      have rowSW := rowS3.below hbel
      rcases hE with ⟨hb, hk0⟩ | ⟨hb, hk0, r0, r1, hA1', hA2', hL⟩
      · subst hb
        have eR : RES = none := by rw [HRES.out, if_neg hk0]
        clear HJ HRES
        go_wp2
        refine bodyPost_ret (by simp [results, Try.results39, go_sem, *]; try rfl) rfl ?_
        rw [eR]
        exact GivesO.none (rowSW.holds (base := w.heap.size) hn.symm (by omega)) BW
      · subst hb
        have hm := (timesM_ok ((hA1 hk0).trans hA1')).2.2.1
        have hrr := (timesM_ok ((hA2 hk0).trans hA2')).2.2.1
        have HRS0 : RES = okM (addS L tw (m0, m1)) := by
          rw [HRES.out, if_pos hk0, hA1', hA2', hL, addS_eq hm (sellOut_ok hrr (fun t ht => (HM.out t ht).2.2.1))]
          rfl
        have HRS := hide HRS0
        have HL := hide (show L.length ≤ 12 by omega)
        clear HJ HRES hA1 hA2 hA1' hA2' hL hrr HRS0
        have hml : w3.heap.size + 1 < wr.heap.size := (Array.getElem?_eq_some_iff.1 hbm).1
        generalize hbM : w3.heap.size + 1 = bM at *
        have rl := rowL.room
        have gv : g < wr.heap.size := rowL.lt
        have v0 := cell_of_block hbm 0
        have v1 := cell_of_block hbm 1
        simp at v0 v1
        have BW3 := hide hbel
        clear hbel
        go_upto_block 2 with fail
        go_cut [20] (fun v wx => v = .int .i64 ((atM tw L : Nat) : Int) ∧ wr = wx)
        case first =>
          go_wp2
          go_loop [20] (fun i => ∃ (j : Nat), j ≤ L.length ∧ i = .int .i64 j ∧ atM tw L = j + atM tw (L.drop j)) (fun i => L.length - (intOf i).toNat)
          case atStart => exact ⟨0, Nat.zero_le _, rfl, by simp⟩
          case round =>
            obtain ⟨j, hjl, rfl, hat⟩ := hrel
            have HAT := hide hat
            clear hat
            by_cases hjt : j < L.length
            · obtain ⟨y0, y1, y2⟩ := rowL.cell3 j hjt
              have HST := hide (atM_step tw L j hjt)
              generalize L.getD j default = t at *
              obtain ⟨t0, t1, t2⟩ := t
              simp only at y0 y1 y2 HST
              by_cases hq1 : t0 < tw
              · go_wp2
                go_roundw
                case rel => exact ⟨j + 1, by omega, by go_num, by rw [HAT.out, HST.out, if_pos hq1]; omega⟩
                case measure => simp [intOf]; omega
              · have hJ : atM tw L = j := by rw [HAT.out, HST.out, if_neg hq1]; omega
                have HJ := hide hJ
                clear hJ
                go_wp2
                go_meet
                case rel => exact ⟨by rw [HJ.out], rfl⟩
            · have hJ : atM tw L = j := by rw [HAT.out, List.drop_of_length_le (by omega)]; simp [atM]
              have HJ := hide hJ
              clear hJ
              go_wp2
              go_meet
              case rel => exact ⟨by rw [HJ.out], rfl⟩
        case rest =>
        obtain ⟨rfl, rfl⟩ := hcut
        have hjl := atM_le tw L
        have HADD := hide (show addS L tw (m0, m1) = if atM tw L < L.length ∧ (L.getD (atM tw L) default).1 = tw then (addM (L.getD (atM tw L) default).2.1 (L.getD (atM tw L) default).2.2 m0 m1).map fun s => L.set (atM tw L) (tw, s.1, s.2) else some (if 0 < m0 then insM L (atM tw L) (tw, m0, m1) else L) from rfl)
        generalize atM tw L = j at *
        go_upto_region 26 with fail
        go_cut [137] (fun v wx => v = .bool (decide (j < L.length ∧ (L.getD j default).1 = tw)) ∧ wr = wx)
        case first =>
          by_cases hjt : j < L.length
          · obtain ⟨y0, y1, y2⟩ := rowL.cell3 j hjt
            generalize L.getD j default = t at *
            obtain ⟨t0, t1, t2⟩ := t
            simp only at y0 y1 y2
            by_cases hq : t0 = tw
            · have HD := hide (show decide (j < L.length ∧ ((t0, t1, t2) : T3).1 = tw) = true by simp [hjt, hq])
              have hq' : (t0 == tw) = true := by simpa using hq
              clear hq
              go_wp2
              go_meet
              case rel => exact ⟨congrArg Value.bool HD.out.symm, rfl⟩
            · have HD := hide (show decide (j < L.length ∧ ((t0, t1, t2) : T3).1 = tw) = false by simp [hq])
              have hq' : (t0 == tw) = false := by simpa using hq
              clear hq
              go_wp2
              go_meet
              case rel => exact ⟨congrArg Value.bool HD.out.symm, rfl⟩
          · have HD := hide (show decide (j < L.length ∧ (L.getD j default).1 = tw) = false by simp; intro h; omega)
            go_wp2
            go_meet
            case rel => exact ⟨congrArg Value.bool HD.out.symm, rfl⟩
        case rest =>
        obtain ⟨rfl, rfl⟩ := hcut
        go_upto_if 137 with fail
        go_cut [11] (fun v wx => ∃ (g' c' : Nat) (us : List T3), v = .slice (some ⟨g', 0, none⟩) us.length c' ∧ Hid (addS L tw (m0, m1) = some us) ∧ Hid (RowT 56 wx g' c' us) ∧ Hid (Below w3.heap.size w3 wx) ∧ w3.heap.size ≤ g' ∧ us.length ≤ 13)
        case first =>
          by_cases hC : j < L.length ∧ (L.getD j default).1 = tw
          · have hd : decide (j < L.length ∧ (L.getD j default).1 = tw) = true := decide_eq_true hC
            rw [hd]
            have hjt := hC.1
            obtain ⟨y0, y1, y2⟩ := rowL.cell3 j hjt
            have HAS := hide (HADD.out.trans (if_pos hC))
            have RS := hide (fun W (hb : Below wr.heap.size wr W) y z => (rowL.below hb).set2 j y z)
            have RC := hide (fun W (hb : Below wr.heap.size wr W) => (rowL.below hb).cell3 j hjt)
            obtain ⟨t1, t2, ht⟩ : ∃ t1 t2, L.getD j default = (tw, t1, t2) := ⟨(L.getD j default).2.1, (L.getD j default).2.2, Prod.ext hC.2 rfl⟩
            rw [ht] at y0 y1 y2 HAS RS RC
            simp only at y0 y1 y2 HAS
            have HAM := hide (fun W => specAddFractions_any t1 t2 m0 m1 W)
            generalize addM t1 t2 m0 m1 = AA at *
            have i1 : (0 : Int) ≤ (j : Int) := by omega
            have i2 : (j : Int) < (L.length : Int) := by omega
            clear hd HADD
            go_wp2
            (refine wp_region_g [0, 1, 2, 3, 4, 5, 6, 7, 8, 9] [10, 11, 12] (by kernel_rfl) (by kernel_rfl) ?_; simp only [pick, List.map_cons, List.map_nil, Array.getD_eq_getD_getElem?, List.getElem?_toArray, List.getElem?_cons_zero, List.getElem?_cons_succ, Option.getD_some]; (iterate 10 (refine wpG_step (fun K hK => ?_); go_simp; first | (refine hK _ ?_; clear hK K) | (apply Exists.intro; refine ⟨fun _ => ?_, hK _ ?_⟩; ((go_at_call 53; exact HAM.out _)); clear hK K))); refine wpG_nil ?_)
            (refine wpT_alloc (C := #[.int .i64 0, .int .i64 0]) (T := 25) rfl (fun w => by go_simp) ?_; intro bt hbbt; simp only [Act.put, List.setIfInBounds_toArray, List.set_cons_zero, List.set_cons_succ]; refine wpT_store (C' := #[.int .i64 (oT AA), .int .i64 (oB AA)]) rfl hbbt (fun wq hwq => ⟨_, by (have hcq := cell_of_block hwq; have hfq := frozen_of_block hwq; go_simp), store_two hwq⟩) ?_; simp only [Act.put, List.setIfInBounds_toArray, List.set_cons_zero, List.set_cons_succ]; refine wpT_pure (up_block _ _) rfl (fun w => by (go_simp; rfl)) ?_; simp only [Act.put, List.setIfInBounds_toArray, List.set_cons_zero, List.set_cons_succ]; refine wpT_end ?_; intro wt hbwt hhwt; have hcwt := cell_of_block hhwt; have hfwt := frozen_of_block hhwt; have hlwt : bt < wt.heap.size := (Array.getElem?_eq_some_iff.1 hhwt).1; obtain ⟨hcb, hfb⟩ := bcell hbwt; have hzwt := hbwt.size; (try simp at hzwt); (try (refine ltk (a := w.heap.size) (b := wt.heap.size) ?_ ?_; (focus omega); intro _ _)); (try (refine ltk (a := w.heap.size + 1) (b := wt.heap.size) ?_ ?_; (focus omega); intro _ _)); (try (refine ltk (a := w.heap.size + 2) (b := wt.heap.size) ?_ ?_; (focus omega); intro _ _)); (try (refine ltk (a := w.heap.size + 3) (b := wt.heap.size) ?_ ?_; (focus omega); intro _ _)); (try (refine ltk (a := bt) (b := wt.heap.size) ?_ ?_; (focus omega); intro _ _)))
            have BT3 := belT BW3.out hbwt
            cases hAA : AA with
            | none =>
              simp only [Option.isSome_none]
              have eR : RES = none := by rw [HRS.out, HAS.out, hAA]; rfl
              clear HRS HAS
              go_wp2
              refine bodyPost_ret (by simp [results, Try.results39, go_sem, *]; try rfl) rfl ?_
              rw [eR]
              exact GivesO.none ((rowS3.below BT3).holds (base := w.heap.size) hn.symm (by omega)) (belT b3 BT3)
            | some s =>
              obtain ⟨s0, s1⟩ := s
              rw [hAA] at HAS hhwt
              simp only [oT, oB] at hhwt
              simp only [Option.isSome_some]
              obtain ⟨z0, z1, z2⟩ := RC.out _ hbwt
              have e00 := cell_of_block hhwt 0
              have e01 := cell_of_block hhwt 1
              simp at e00 e01
              have f1 := (rowL.below hbwt).frozen (j * 3 + 1)
              have f2 := (rowL.below hbwt).frozen (j * 3 + 2)
              have hgt : g < wt.heap.size := by omega
              have RST := hide (RS.out _ hbwt s0 s1)
              clear hcwt hcb hfb HAM v0 v1 y0 y1 y2 hAA
              go_wp2
              go_meet
              case rel =>
                refine ⟨g, c, L.set j (tw, s0, s1), by simp, HAS.out, RST.out, ?_, hgg, by rw [List.length_set]; have := HL.out; omega⟩
                exact belG BT3 (grownBy_trans (grownBy_set _ _ _ _) (grownBy_set _ _ _ _)) hgg
          · have hd : decide (j < L.length ∧ (L.getD j default).1 = tw) = false := decide_eq_false hC
            rw [hd]
            have HAS := hide (HADD.out.trans (if_neg hC))
            clear hd HADD hC
            by_cases hm0 : 0 < m0
            · rw [if_pos hm0] at HAS
              have hjc : j ≤ c := by omega
              have hji : (j : Int) ≤ (L.length : Int) := by omega
              have hjc2 : (L.length : Int) ≤ (c : Int) := by omega
              have hx := HL.out
              by_cases hjc' : c = j
              · have hjs := hjc'.symm
                subst hjs
                go_wp2
                go_region_held3 (fun w' => w'.cell? ⟨bM, 0, none⟩ = some (.int .i64 m0) ∧ w'.cell? ⟨bM, 1, none⟩ = some (.int .i64 m1)) (first | go_keep | exact ⟨cellB b3' v0, cellB b3' v1⟩ | exact ⟨cellB b2' v0, cellB b2' v1⟩ | exact ⟨cellB b1' v0, cellB b1' v1⟩) (first
                  | (refine step_appB wr (by assumption) (by assumption) rfl _ _ rfl r2 (j + 1) (by simp; omega) (L.drop j) (L.length - j) 0 (by simp) ⟨g, 0, none⟩ rfl rfl (by intro i u hi; rw [List.drop_of_length_le (by omega)] at hi; simp [cellsT, flat] at hi) (by omega) (L.length + 1) (by omega) (fun g3 c3 w3' r3 b3' l3 gr3 s3 z3 => ?_))
                  | (refine step_appB wr (by assumption) (by assumption) rfl _ _ rfl r2 (j + 1) (by simp; omega) (L.drop j) 0 0 (by simp; omega) ⟨g, 0, none⟩ rfl rfl (by intro i u hi; rw [List.drop_of_length_le (by omega)] at hi; simp [cellsT, flat] at hi) (by omega) (L.length + 1) (by omega) (fun g3 c3 w3' r3 b3' l3 gr3 s3 z3 => ?_))
                  | (refine step_appB wr (by (repeat first | exact Below.refl _ _ | assumption | (refine belA ?_) | (refine belD ?_) | (refine belN ?_)); done) l1 rfl _ _ rfl (RowT.below r1 (by (repeat first | exact Below.refl _ _ | assumption | (refine belA ?_) | (refine belD ?_) | (refine belN ?_)); done)) j (by simp; omega) [(tw, m0, m1)] 1 1 rfl ⟨w1'.heap.size, 0, none⟩ rfl rfl (one_src (blk_new w1' _ _)) (by omega) (j + 1) rfl (fun g2 c2 w2' r2 b2' l2 gr2 s2 z2 => ?_))
                  | (refine step_appB wr (by (repeat first | exact Below.refl _ _ | assumption | (refine belA ?_) | (refine belD ?_) | (refine belN ?_)); done) (Nat.le_refl _) rfl _ _ rfl (RowT.below (RowT.empty' _ wr wr.heap.size rfl) (by (repeat first | exact Below.refl _ _ | assumption | (refine belA ?_) | (refine belD ?_) | (refine belN ?_)); done)) 0 rfl (L.take j) j j (by simp; omega) ⟨g, 0, none⟩ rfl rfl (rowL.src_first j ⟨g, 0, none⟩ rfl (by (repeat first | exact Below.refl _ _ | assumption | (refine belA ?_) | (refine belD ?_) | (refine belN ?_)); done)) (by omega) j (by omega) (fun g1 c1 w1' r1 b1' l1 gr1 s1 z1 => ?_); (try have P1 := grown_heap gr1 (show _ = _ from blk_two wr (.cells #[] 56) #[.int .i64 tw, .int .i64 m0, .int .i64 m1] 56) (by intro e; injection e with e; omega)))
                  | (refine step_appB wr (by (repeat first | exact Below.refl _ _ | assumption | (refine belA ?_) | (refine belD ?_) | (refine belN ?_)); done) (Nat.le_succ _) rfl _ _ rfl (RowT.below (RowT.empty' _ (wr.alloc (.cells #[.int .i64 tw, .int .i64 m0, .int .i64 m1] 56)) (wr.heap.size + 1) (World.size_alloc _ _)) (by (repeat first | exact Below.refl _ _ | assumption | (refine belA ?_) | (refine belD ?_) | (refine belN ?_)); done)) 0 rfl (L.take j) j j (by simp; omega) ⟨g, 0, none⟩ rfl rfl (rowL.src_first j ⟨g, 0, none⟩ rfl (by (repeat first | exact Below.refl _ _ | assumption | (refine belA ?_) | (refine belD ?_) | (refine belN ?_)); done)) (by omega) j (by omega) (fun g1 c1 w1' r1 b1' l1 gr1 s1 z1 => ?_); have P1 := grown_heap gr1 (show _ = _ from blk_alloc (o := .cells #[] 56) (blk_new wr #[.int .i64 tw, .int .i64 m0, .int .i64 m1] 56)) (by intro e; injection e with e; omega))
                  | (refine step_appB wr (by assumption) l1 rfl _ _ rfl r1 j (by simp; omega) [(tw, m0, m1)] 1 1 rfl ⟨wr.heap.size, 0, none⟩ rfl rfl (one_src P1) (by omega) (j + 1) rfl (fun g2 c2 w2' r2 b2' l2 gr2 s2 z2 => ?_))
                  | (refine step_appB wr (by assumption) l1 rfl _ _ rfl r1 j (by simp; omega) [(tw, m0, m1)] 1 1 rfl ⟨wr.heap.size + 1, 0, none⟩ rfl rfl (one_src P1) (by omega) (j + 1) rfl (fun g2 c2 w2' r2 b2' l2 gr2 s2 z2 => ?_)))
                all_goals
                  have hG : w3.heap.size ≤ g3 := by have := BW3.out.size; omega
                  have hI : [] ++ L.take j ++ [(tw, m0, m1)] ++ L.drop j = insM L j (tw, m0, m1) := by simp [insM]
                  rw [hI] at r3
                  have BB := belT BW3.out b3'
                  clear hI gr1 gr2 gr3
                  have hIL : (insM L j (tw, m0, m1)).length = L.length + 1 := by simp [insM]; omega
                  have hIH := hide hIL
                  clear hIL
                  go_wp2
                  go_meet
                  case rel => exact ⟨g3, c3, insM L j (tw, m0, m1), by rw [hIH.out], HAS.out, r3, BB, hG, by rw [hIH.out]; omega⟩
              · go_wp2
                go_region_held3 (fun w' => w'.cell? ⟨bM, 0, none⟩ = some (.int .i64 m0) ∧ w'.cell? ⟨bM, 1, none⟩ = some (.int .i64 m1)) (first | go_keep | exact ⟨cellB b3' v0, cellB b3' v1⟩ | exact ⟨cellB b2' v0, cellB b2' v1⟩ | exact ⟨cellB b1' v0, cellB b1' v1⟩) (first
                  | (refine step_appB wr (by assumption) (by assumption) rfl _ _ rfl r2 (j + 1) (by simp; omega) (L.drop j) (L.length - j) (c - j) (by simp) ⟨g, j * 3, none⟩ rfl rfl (fun i u hi => (rowL.below (by assumption)).drop_at j i u hi) (by omega) (L.length + 1) (by omega) (fun g3 c3 w3' r3 b3' l3 gr3 s3 z3 => ?_))
                  | (refine step_appB wr (by (repeat first | exact Below.refl _ _ | assumption | (refine belA ?_) | (refine belD ?_) | (refine belN ?_)); done) l1 rfl _ _ rfl (RowT.below r1 (by (repeat first | exact Below.refl _ _ | assumption | (refine belA ?_) | (refine belD ?_) | (refine belN ?_)); done)) j (by simp; omega) [(tw, m0, m1)] 1 1 rfl ⟨w1'.heap.size, 0, none⟩ rfl rfl (one_src (blk_new w1' _ _)) (by omega) (j + 1) rfl (fun g2 c2 w2' r2 b2' l2 gr2 s2 z2 => ?_))
                  | (refine step_appB wr (by (repeat first | exact Below.refl _ _ | assumption | (refine belA ?_) | (refine belD ?_) | (refine belN ?_)); done) (Nat.le_refl _) rfl _ _ rfl (RowT.below (RowT.empty' _ wr wr.heap.size rfl) (by (repeat first | exact Below.refl _ _ | assumption | (refine belA ?_) | (refine belD ?_) | (refine belN ?_)); done)) 0 rfl (L.take j) j c (by simp; omega) ⟨g, 0, none⟩ rfl rfl (rowL.src_first j ⟨g, 0, none⟩ rfl (by (repeat first | exact Below.refl _ _ | assumption | (refine belA ?_) | (refine belD ?_) | (refine belN ?_)); done)) (by omega) j (by omega) (fun g1 c1 w1' r1 b1' l1 gr1 s1 z1 => ?_); (try have P1 := grown_heap gr1 (show _ = _ from blk_two wr (.cells #[] 56) #[.int .i64 tw, .int .i64 m0, .int .i64 m1] 56) (by intro e; injection e with e; omega)))
                  | (refine step_appB wr (by (repeat first | exact Below.refl _ _ | assumption | (refine belA ?_) | (refine belD ?_) | (refine belN ?_)); done) (Nat.le_succ _) rfl _ _ rfl (RowT.below (RowT.empty' _ (wr.alloc (.cells #[.int .i64 tw, .int .i64 m0, .int .i64 m1] 56)) (wr.heap.size + 1) (World.size_alloc _ _)) (by (repeat first | exact Below.refl _ _ | assumption | (refine belA ?_) | (refine belD ?_) | (refine belN ?_)); done)) 0 rfl (L.take j) j c (by simp; omega) ⟨g, 0, none⟩ rfl rfl (rowL.src_first j ⟨g, 0, none⟩ rfl (by (repeat first | exact Below.refl _ _ | assumption | (refine belA ?_) | (refine belD ?_) | (refine belN ?_)); done)) (by omega) j (by omega) (fun g1 c1 w1' r1 b1' l1 gr1 s1 z1 => ?_); have P1 := grown_heap gr1 (show _ = _ from blk_alloc (o := .cells #[] 56) (blk_new wr #[.int .i64 tw, .int .i64 m0, .int .i64 m1] 56)) (by intro e; injection e with e; omega))
                  | (refine step_appB wr (by assumption) l1 rfl _ _ rfl r1 j (by simp; omega) [(tw, m0, m1)] 1 1 rfl ⟨wr.heap.size, 0, none⟩ rfl rfl (one_src P1) (by omega) (j + 1) rfl (fun g2 c2 w2' r2 b2' l2 gr2 s2 z2 => ?_))
                  | (refine step_appB wr (by assumption) l1 rfl _ _ rfl r1 j (by simp; omega) [(tw, m0, m1)] 1 1 rfl ⟨wr.heap.size + 1, 0, none⟩ rfl rfl (one_src P1) (by omega) (j + 1) rfl (fun g2 c2 w2' r2 b2' l2 gr2 s2 z2 => ?_)))
                all_goals
                  have hG : w3.heap.size ≤ g3 := by have := BW3.out.size; omega
                  have hI : [] ++ L.take j ++ [(tw, m0, m1)] ++ L.drop j = insM L j (tw, m0, m1) := by simp [insM]
                  rw [hI] at r3
                  have BB := belT BW3.out b3'
                  clear hI gr1 gr2 gr3
                  have hIL : (insM L j (tw, m0, m1)).length = L.length + 1 := by simp [insM]; omega
                  have hIH := hide hIL
                  clear hIL
                  go_wp2
                  go_meet
                  case rel => exact ⟨g3, c3, insM L j (tw, m0, m1), by rw [hIH.out], HAS.out, r3, BB, hG, by rw [hIH.out]; omega⟩
            · rw [if_neg hm0] at HAS
              go_wp2
              go_meet
              case rel => exact ⟨g, c, L, rfl, HAS.out, rowL, BW3.out, hgg, by have := HL.out; omega⟩
        case rest =>
        obtain ⟨gN, cN, us, rfl, HU, RN, BN, hgN, hlu⟩ := hcut
        have hRV := hide (specRightsOk_any (some ⟨gN, 0, none⟩) cN us wc RN.out.rd3 (by omega))
        have HXV := hide (show RES = if rightsM us then some us else none by rw [HRS.out, HU.out]; rfl)
        generalize rightsM us = RV at *
        clear HRS
        go_wp2_with fail
        (with_reducible refine hRV.out.mono ?_)
        rintro e wz ⟨rfl, hbz⟩
        have BZ := belT BN.out hbz
        have RZ := RN.out.below hbz
        cases RV
        · go_wp2
          refine bodyPost_ret (by simp [results, Try.results39, go_sem, *]; try rfl) rfl ?_
          rw [HXV.out]
          exact GivesO.none ((rowS3.below BZ).holds (base := w.heap.size) hn.symm (by omega)) (belT b3 BZ)
        · go_wp2
          refine bodyPost_ret (by simp [results, Try.results39, go_sem, *]; try rfl) rfl ?_
          rw [HXV.out]
          exact GivesO.some (RZ.holds (base := w.heap.size) rfl (by omega)) (belT b3 BZ)

end Go.Proofs.Ytjcoajaoofjjmaa
