/- FindFlow: the reference's. -/
import Derived.Test.YteimcbhnjhkkbaaFfl
import Derived.Test.YteimcbhnjhkkbaaSrch
namespace Go.Proofs.Yteimcbhnjhkkbaa
set_option linter.unusedSimpArgs false
set_option linter.unusedVariables false
open Go.RowKit

theorem way_less {n : Nat} {ts : List T3} {fs : List Int} {x z : Int} {s : St} (h : BInv n ts fs x s) (hm : z ∈ s.1) (hz : z ≠ x) : s.1.idxOf (prevOf ts (s.2.getD z.toNat 0)) < s.1.idxOf z := by
  obtain ⟨i, hi, rfl⟩ := mem_getDI hm
  obtain ⟨j, hji, _, e, _⟩ := wayM_step (n := i) h hi (Nat.le_refl _) hz
  have I : ∀ k, k < s.1.length → s.1.idxOf (s.1.getD k 0) = k := fun k hk => by
    simp only [List.getD_eq_getElem?_getD, List.getElem?_eq_getElem hk, Option.getD_some]
    exact h.nodup.idxOf_getElem k hk
  rw [← e, I i hi, I j (by omega)]
  exact hji

theorem WayAt.prefix_ {n : Nat} {ts : List T3} {fs : List Int} {x y z : Int} {s : St} {l : List Int} (h : WayAt n ts fs x s y l z) (hy : y ∈ s.1) : ∃ W : List Int, W.Nodup ∧ (∀ c ∈ W, 0 ≤ c ∧ (c / 2).toNat < ts.length) ∧ l = W.take l.length := by
  obtain ⟨j, hj, e⟩ := mem_getDI hy
  have hl := nodup_len n s.1 h.inv.nodup h.inv.rng
  refine ⟨wayM ts s.2 x n y, ?_, ?_, ?_⟩
  · have := (wayM_spec h.inv j n hj (by omega)).1
    rw [e] at this; exact this
  · intro c hc
    rw [← e] at hc
    have := way_codes h.inv hj (by omega) c hc
    exact ⟨this.1, this.2.1⟩
  · rw [h.way]; simp

set_option maxRecDepth 100000 in
set_option maxHeartbeats 8000000 in
theorem specFindFlow_ok (n x y : Nat) (a : Option Addr) (cap : Nat) (ts : List T3) (w : World) (hc : Rd3 w a ts) (hk : twoM (n : Int) ts (x : Int) (y : Int) = true) :
    Calls Try.prog 11 #[.agg #[.int .i64 (n : Int), .slice a ts.length cap], .int .i64 (x : Int), .int .i64 (y : Int)] w fun e w' => GivesIB (findL n ts x y) true w e w' := by
  obtain ⟨⟨p1, p2⟩, ⟨hl20, hall⟩, ⟨x0, x1⟩, ⟨y0, y1⟩, hxy⟩ := twoM_parts hk
  have hnet : netOk (n : Int) ts = true := by simp only [twoM, Bool.and_eq_true] at hk; exact hk.1.1.1
  have HN := hide (netP_of hnet x0 x1 y0 y1 hxy)
  have HT := hide (fun W (hb : Below w.heap.size w W) => (show Calls Try.prog 37 #[.agg #[.int .i64 (n : Int), .slice a ts.length cap], .int .i64 (x : Int), .int .i64 (y : Int)] W fun e w' => Rets W (.bool true) e w' by
    have := l08Two_any n a cap ts x y W (hc.below hb) (by omega); rw [hk] at this; exact this))
  have HBR := hide (fun (W : World) (g : Nat) (fs : List Int) (hW : Rd3 W a ts) (hf : Rd W (some ⟨g, 0, none⟩) fs) (hl : fs.length = ts.length) => (show Calls Try.prog 38 #[.agg #[.int .i64 (n : Int), .slice a ts.length cap], .slice (some ⟨g, 0, none⟩) ts.length ts.length, .int .i64 (x : Int)] W
      fun e w' => ∃ b, W.heap.size ≤ b ∧ e = .returned (.slice (some ⟨b, 0, none⟩) n n) ∧ OwnI w' b 3 (bfs n ts fs x).2 ∧ Below W.heap.size W w' by
    have := l09Search_any n x a (some ⟨g, 0, none⟩) cap ts.length ts fs W hW hf hnet (by omega) (by omega) hl
    rw [hl] at this; exact this))
  have hmk := make_ints 30 Try.underlying30 ts.length (by omega)
  have HA := hide hall
  clear hall hk hnet
  go_enter Try.func11, Try.ntmps11
  go_wp2_with fail
  (with_reducible refine (HT.out _ (belA (Below.refl _ _))).mono ?_)
  rintro e w2 ⟨rfl, hb⟩
  have b0 := belT (belA (Below.refl w.heap.size w)) hb
  have hbx : BoxN w2 w.heap.size n a ts.length cap := heap_grow (blk_new w _ _) hb
  have hb2 : w.heap.size + 1 ≤ w2.heap.size := by have := hb.size; simpa using this
  have hc2 := hc.below b0
  have c0 := cell_of_block hbx 0
  have c1 := cell_of_block hbx 1
  simp at c0 c1
  go_wp2
  have hz := own_zero w2 3 ts.length
  have hzf := zero_flow (p := n) (x := (x : Int)) (y := (y : Int)) (ts := ts) (fun t ht => by have := HN.out.wid t ht; omega)
  have HS := hide (⟨hz, hzf.1, rfl, by rw [hzf.2]; omega, (Below.refl w2.heap.size w2).alloc (Nat.le_refl _) _, by simp⟩ : FfS n ts x y w2.heap.size w2 (List.replicate ts.length 0) 20001 (w2.alloc (.cells (Array.replicate ts.length (Value.int .i64 0)) 3)))
  clear hz hzf hmk c0 c1 HT hc
  have CEL := hide (fun (W : World) (hW : Below w2.heap.size w2 W) => (show W.cell? ⟨w.heap.size, 0, none⟩ = some (.int .i64 n) ∧ W.cell? ⟨w.heap.size, 1, none⟩ = some (.slice a ts.length cap) by
    have h := hbx.below hW (by omega)
    exact ⟨by have := cell_of_block h 0; simpa using this, by have := cell_of_block h 1; simpa using this⟩))
  have HC2 := hide hc2
  clear hbx hb hc2
  have B0 := hide b0
  clear b0
  generalize hfb : w2.heap.size = fb at *
  go_loopw [9] (fun _ wr => ∃ (fs : List Int) (m : Nat), Hid (FfS n ts x y fb w2 fs m wr)) (fun _ wr => (20000 - gainL x ts (rdI wr fb)).toNat)
  case atStart => exact ⟨_, _, HS⟩
  case round =>
    clear HS
    obtain ⟨fs, m, HS⟩ := hrel
    obtain ⟨c0, c1⟩ := CEL.out _ HS.out.bel
    have l0 := World.block_lt_of_cell? _ _ c0
    simp at l0
    have hcr := HC2.out.below (show Below w2.heap.size w2 wr by rw [hfb]; exact HS.out.bel)
    have hbr := HBR.out wr fb fs hcr HS.out.own.rd HS.out.flow.fit.1
    clear hcr
    go_wp2_with fail
    (with_reducible refine hbr.mono ?_)
    rintro e w3 ⟨mb, hmb, rfl, hcm, hb3⟩
    have HCM := hide hcm
    have HIV := hide (bfs_inv HN.out.inn HS.out.flow.fit.1 HN.out.x0 HN.out.x1).1
    have B3 := hide hb3
    have hyc := hcm.cell y (by rw [HIV.out.len]; omega)
    have hyl := World.block_lt_of_cell? _ _ hyc
    simp at hyl
    have iy : (y : Int) < (n : Int) := by omega
    clear c0 c1 l0 hbr hcm hb3
    by_cases hy : (y : Int) ∈ (bfs n ts fs x).1
    · have hyc0 : ¬ (bfs n ts fs x).2.getD y 0 < 0 := by
        have := (WayAt.next (WayAt.start HIV.out hy) (fun e => hxy e.symm)).2.2.2.1
        rw [Int.toNat_natCast] at this; omega
      have HY := hide hy
      clear hy
      generalize (bfs n ts fs x).2.getD y 0 = yc at hyc hyc0
      go_wp2
      have HB3 := hide (HS.out.own.below B3.out)
      have BF3 := hide (HS.out.bel.trans (B3.out.mono (by have := HS.out.sz; omega)))
      have fb3 : fb < w3.heap.size := HB3.out.lt
      have mb3 : mb < w3.heap.size := HCM.out.lt
      have fbm : fb < mb := by have := HS.out.sz; omega
      have HW0 := hide (WayAt.start HIV.out HY.out)
      clear hyc hyl hyc0 B3
      go_loopw [10, 11] (fun r i wq => ∃ (l : List Int) (z : Int), r = .int .i64 (roomM ts fs l 1000) ∧ i = .int .i64 z ∧ Hid (WayAt n ts fs x (bfs n ts fs x) y l z) ∧ Hid (Below w3.heap.size w3 wq)) (fun _ i _ => (bfs n ts fs x).1.idxOf (intOf i))
      case atStart => exact ⟨[], y, rfl, rfl, HW0, Below.refl _ _⟩
      case round =>
        obtain ⟨l, z, rfl, rfl, HW, BW⟩ := hrel
        obtain ⟨r1, r2⟩ := room_bd (fun c hc => (HW.out.cod c hc).2.2)
        have BW2 := hide (BF3.out.trans (BW.out.mono (by omega)))
        obtain ⟨c0, c1⟩ := CEL.out _ BW2.out
        have l0 := World.block_lt_of_cell? _ _ c0
        simp at l0
        by_cases hzx : z = (x : Int)
        · subst hzx
          have HAS := hide (show augS n ts fs x y = augM (roomM ts fs l 1000) l fs by unfold augS; rw [HW.out.done])
          have HDN := hide HW.out.done
          generalize roomM ts fs l 1000 = r at *
          have O0 := hide (show OwnI wr fb 3 (augM r [] fs) from HB3.out.below BW.out)
          have HY0 := hide (HCM.out.below BW.out)
          have HW1 := hide (WayAt.start HIV.out HY.out)
          clear HW HW0 c0 c1 l0
          go_wp2
          go_loopw [13] (fun i wq => ∃ (l2 : List Int) (z : Int), i = .int .i64 z ∧ Hid (WayAt n ts fs x (bfs n ts fs x) y l2 z) ∧ Hid (OwnI wq fb 3 (augM r l2 fs)) ∧ Hid (wr.grownBy wq (some fb))) (fun i _ => (bfs n ts fs x).1.idxOf (intOf i))
          case atStart => exact ⟨[], y, rfl, HW1, O0, grownBy_refl _ _⟩
          case round =>
            clear O0 HW1
            obtain ⟨l2, z, rfl, HW, OI, HG⟩ := hrel
            have BQ := hide ((BF3.out.trans (BW.out.mono (by omega))).grown HG.out (by have := BW.out.size; omega) (fun k' hk' => by cases hk'; exact Nat.le_refl _))
            obtain ⟨c0, c1⟩ := CEL.out _ BQ.out
            have l0 := World.block_lt_of_cell? _ _ c0
            simp at l0
            by_cases hzx : z = (x : Int)
            · subst hzx
              have e2 : l2 = l := by rw [← HDN.out, ← HW.out.done]
              subst e2
              have oi := OI.out
              rw [← HAS.out] at oi
              obtain ⟨hnx, g1, g2⟩ := HS.out.next HN.out HY.out oi BQ.out (by have := BW.out.size; have := HG.out.size; omega)
              have HNX := hide hnx
              have R1 := rdI_own HS.out.own
              have R2 := rdI_own oi
              clear hnx oi
              go_wp2
              go_roundw
              case rel => exact ⟨_, _, HNX⟩
              case measure => rw [R1, R2]; omega
            · obtain ⟨z1, z2, z3, z4, z5, z6, z7, hnx⟩ := HW.out.next hzx
              have HLS := hide (way_less HIV.out z1 hzx)
              obtain ⟨WL, hW1, hW2, hW3⟩ := HW.out.prefix_ HY.out
              obtain ⟨z, rfl⟩ := Int.eq_ofNat_of_zero_le z2
              have hcy := grown_cell HG.out (HY0.out.cell z (by rw [HIV.out.len]; omega)) (by simp; omega)
              rw [Int.toNat_natCast] at z4 z5 z6 hnx HLS
              have HNX := hide hnx
              clear hnx
              generalize (bfs n ts fs x).2.getD z 0 = c at *
              obtain ⟨p, hp⟩ := Int.eq_ofNat_of_zero_le (show 0 ≤ c / 2 by omega)
              rw [hp, Int.toNat_natCast] at z5
              have hbd := aug_bd HS.out.flow.fit (fun t ht => (HN.out.wid t ht).2) hW1 hW2 r1 r2 l2.length p z5
              rw [← hW3] at hbd
              have fc := OI.out.cell p (by rw [aug_length, HS.out.flow.fit.1]; exact z5)
              have fz := frozen_of_block OI.out p
              have hav : ∀ v : Int, augM r (l2 ++ [c]) fs = (augM r l2 fs).set p (if c % 2 = 0 then (augM r l2 fs).getD p 0 + r else (augM r l2 fs).getD p 0 - r) := fun _ => by
                rw [augM_snoc]; unfold augOne; rw [hp, Int.toNat_natCast]
              have HAV := hide (hav 0)
              obtain ⟨b1, off1, rfl, hp0, hp1, hp2⟩ := HC2.out.below (show Below w2.heap.size w2 wr by rw [hfb]; exact BQ.out) p z5
              have nb1 : b1 < fb := by
                obtain ⟨_, _, e, h0, _⟩ := HC2.out p z5
                cases e
                have := World.block_lt_of_cell? _ _ h0
                simp at this; omega
              have nb2 : b1 ≠ fb := by omega
              have hpv : prevOf ts c = if c % 2 = 0 then (ts.getD p default).1 else (ts.getD p default).2.1 := by
                unfold prevOf; rw [hp, Int.toNat_natCast]
              rw [hpv] at HNX HLS
              have cb : c ≤ 1000 := by omega
              have s1 : IntKind.i64.wrap (c.tdiv 2) = (p : Int) := by rw [Int.tdiv_eq_ediv_of_nonneg z4, hp]; exact IntWalk.i64_in _ (by omega)
              have s2 : IntKind.i64.wrap (c.tmod 2) = c % 2 := by rw [Int.tmod_eq_emod_of_nonneg z4]; exact IntWalk.i64_in _ (by omega)
              have OST := hide (fun v => OI.out.set p v)
              have GST := hide (fun v => grownBy_trans HG.out (grownBy_set _ fb p (.int .i64 v)))
              clear hpv z1 z2 z6 hp hW1 hW2 hW3 hav
              generalize ts.getD p default = u at *
              obtain ⟨y1, y2, wd⟩ := u
              simp only at hp0 hp1 hp2 HNX HLS
              have pl : (p : Int) < (ts.length : Int) := by omega
              have zl : (z : Int) < (n : Int) := by omega
              have bl1 := World.block_lt_of_cell? _ _ hp0
              have bl2 := World.block_lt_of_cell? _ _ fc
              have bl3 := World.block_lt_of_cell? _ _ hcy
              simp at bl1 bl2 bl3
              have nfm : fb ≠ mb := by omega
              have nfb : w.heap.size ≠ fb := by omega
              by_cases hc2 : c % 2 = 0
              · have ec : (c % 2 == 0) = true := by simp [hc2]
                rw [if_pos hc2] at HAV HNX HLS
                have OST2 := hide (OST.out ((augM r l2 fs).getD p 0 + r))
                rw [← HAV.out] at OST2
                have GST2 := hide (GST.out ((augM r l2 fs).getD p 0 + r))
                clear hc2 OST GST HAV
                generalize (augM r l2 fs).getD p 0 = av at *
                go_wp2
                go_roundw
                case rel => exact ⟨l2 ++ [c], _, rfl, HNX, OST2, GST2⟩
                case measure => simp only [intOf]; exact HLS.out
              · have ec : (c % 2 == 0) = false := by simp [hc2]
                rw [if_neg hc2] at HAV HNX HLS
                have OST2 := hide (OST.out ((augM r l2 fs).getD p 0 - r))
                rw [← HAV.out] at OST2
                have GST2 := hide (GST.out ((augM r l2 fs).getD p 0 - r))
                clear hc2 OST GST HAV
                generalize (augM r l2 fs).getD p 0 = av at *
                go_wp2
                go_roundw
                case rel => exact ⟨l2 ++ [c], _, rfl, HNX, OST2, GST2⟩
                case measure => simp only [intOf]; exact HLS.out
        · obtain ⟨z1, z2, z3, z4, z5, z6, z7, hnx⟩ := HW.out.next hzx
          have HLS := hide (way_less HIV.out z1 hzx)
          obtain ⟨z, rfl⟩ := Int.eq_ofNat_of_zero_le z2
          have hcy := (HCM.out.below BW.out).cell z (by rw [HIV.out.len]; omega)
          rw [Int.toNat_natCast] at z4 z5 z6 hnx HLS
          have HNX := hide hnx
          clear hnx
          generalize (bfs n ts fs x).2.getD z 0 = c at *
          have HSN := hide (roomM_snoc ts fs l c 1000)
          obtain ⟨p, hp⟩ := Int.eq_ofNat_of_zero_le (show 0 ≤ c / 2 by omega)
          rw [hp, Int.toNat_natCast] at z5
          have hf0 := (HB3.out.below BW.out).cell p (by rw [HS.out.flow.fit.1]; exact z5)
          obtain ⟨b1, off1, rfl, hp0, hp1, hp2⟩ := HC2.out.below (show Below w2.heap.size w2 wr by rw [hfb]; exact BW2.out) p z5
          have hfd := HS.out.flow.fit.2 p z5
          have hwd := HN.out.wid _ (getD_mem3 z5)
          have hrm : roomOf ts fs c = if c % 2 = 0 then (ts.getD p default).2.2 - fs.getD p 0 else fs.getD p 0 := by
            unfold roomOf; rw [hp, Int.toNat_natCast]
          have hpv : prevOf ts c = if c % 2 = 0 then (ts.getD p default).1 else (ts.getD p default).2.1 := by
            unfold prevOf; rw [hp, Int.toNat_natCast]
          rw [hrm] at HSN
          rw [hpv] at HNX HLS
          have cb : c ≤ 1000 := by omega
          have s1 : IntKind.i64.wrap (c.tdiv 2) = (p : Int) := by rw [Int.tdiv_eq_ediv_of_nonneg z4, hp]; exact IntWalk.i64_in _ (by omega)
          have s2 : IntKind.i64.wrap (c.tmod 2) = c % 2 := by rw [Int.tmod_eq_emod_of_nonneg z4]; exact IntWalk.i64_in _ (by omega)
          clear hrm hpv z1 z2 z6 hp
          generalize ts.getD p default = u at *
          generalize fs.getD p 0 = f at *
          obtain ⟨y1, y2, wd⟩ := u
          simp only at hp0 hp1 hp2 hfd hwd HNX HSN HLS
          have pl : (p : Int) < (ts.length : Int) := by omega
          have zl : (z : Int) < (n : Int) := by omega
          have bl1 := World.block_lt_of_cell? _ _ hp0
          have bl2 := World.block_lt_of_cell? _ _ hf0
          have bl3 := World.block_lt_of_cell? _ _ hcy
          simp at bl1 bl2 bl3
          generalize roomM ts fs l 1000 = r at *
          go_wp2
          (refine wp_region_g [0, 1, 2, 3, 4, 5, 6, 7, 8] [9, 10] (by kernel_rfl) (by kernel_rfl) ?_; simp only [pick, List.map_cons, List.map_nil, Array.getD_eq_getD_getElem?, List.getElem?_toArray, List.getElem?_cons_zero, List.getElem?_cons_succ, Option.getD_some]; (iterate 9 (refine wpG_step (fun K hK => ?_); go_simp; first | (refine hK _ ?_; clear hK K) | (apply Exists.intro; refine ⟨fun _ => ?_, hK _ ?_⟩; (fail); clear hK K))); refine wpG_nil ?_)
          refine wpT_alloc (C := #[.int .i64 0, .int .i64 0, .int .i64 0]) (T := 60) rfl (fun w => by go_simp) ?_
          intro bq hbq
          simp only [Act.put, List.setIfInBounds_toArray, List.set_cons_zero, List.set_cons_succ]
          refine wpT_store (C' := #[.int .i64 y1, .int .i64 y2, .int .i64 wd]) rfl hbq (fun wq hwq => ⟨_, by (have hcq := cell_of_block hwq; have hfq := frozen_of_block hwq; go_simp), store_three hwq⟩) ?_
          simp only [Act.put, List.setIfInBounds_toArray, List.set_cons_zero, List.set_cons_succ]
          refine wpT_end ?_
          intro w5 hb5 hh5
          have BW5 := hide (BW.out.trans (hb5.mono BW.out.size))
          have PB := hide hh5
          have pc0 := cell_of_block hh5 0
          have pc1 := cell_of_block hh5 1
          have pc2 := cell_of_block hh5 2
          simp at pc0 pc1 pc2
          replace hcy := cellB hb5 hcy
          replace hf0 := cellB hb5 hf0
          have l5 := World.block_lt_of_cell? _ _ pc0
          have l6 := World.block_lt_of_cell? _ _ hcy
          have l7 := World.block_lt_of_cell? _ _ hf0
          simp at l5 l6 l7
          clear hp0 hp1 hp2 hb5 hh5 c0 c1 l0 bl1 bl2 bl3 hbq
          by_cases hc2 : c % 2 = 0
          · have ec : (c % 2 == 0) = true := by simp [hc2]
            rw [if_pos hc2] at HSN HNX HLS
            clear hc2
            by_cases hle : r ≤ wd - f
            · have HR2 := hide (show roomM ts fs (l ++ [c]) 1000 = r by rw [HSN.out]; omega)
              have W1 : IntKind.i64.wrap (wd - f) = wd - f := IntWalk.i64_in _ (by omega)
              clear HSN
              go_wp2
              (refine wp_region_g [0, 1, 2, 3, 4, 5, 6, 7, 8, 9, 10, 11, 12, 13] [] (by kernel_rfl) (by kernel_rfl) ?_; simp only [pick, List.map_cons, List.map_nil, Array.getD_eq_getD_getElem?, List.getElem?_toArray, List.getElem?_cons_zero, List.getElem?_cons_succ, Option.getD_some]; (iterate 14 (refine wpG_step (fun K hK => ?_); go_simp; first | (refine hK _ ?_; clear hK K) | (apply Exists.intro; refine ⟨fun _ => ?_, hK _ ?_⟩; (fail); clear hK K))); refine wpG_nil ?_)
              intro w7 hb7
              have b7 := below_of_inC hb7
              have pc0 := cell_of_block (heap_grow PB.out b7) 0
              simp at pc0
              have BW7 := hide (BW5.out.trans (b7.mono BW5.out.size))
              clear hb7
              go_wp2
              go_roundw
              case rel => exact ⟨l ++ [c], _, by rw [HR2.out]; first | done | rfl | (congr 1; split <;> omega), rfl, HNX, BW7⟩
              case measure => simp only [intOf]; exact HLS.out
            · have HR2 := hide (show roomM ts fs (l ++ [c]) 1000 = (wd - f) by rw [HSN.out]; omega)
              have W1 : IntKind.i64.wrap (wd - f) = wd - f := IntWalk.i64_in _ (by omega)
              clear HSN
              go_wp2
              (refine wp_region_g [0, 1, 2, 3, 4, 5, 6, 7, 8, 9, 10, 11, 12, 13] [] (by kernel_rfl) (by kernel_rfl) ?_; simp only [pick, List.map_cons, List.map_nil, Array.getD_eq_getD_getElem?, List.getElem?_toArray, List.getElem?_cons_zero, List.getElem?_cons_succ, Option.getD_some]; (iterate 14 (refine wpG_step (fun K hK => ?_); go_simp; first | (refine hK _ ?_; clear hK K) | (apply Exists.intro; refine ⟨fun _ => ?_, hK _ ?_⟩; (fail); clear hK K))); refine wpG_nil ?_)
              intro w7 hb7
              have b7 := below_of_inC hb7
              have pc0 := cell_of_block (heap_grow PB.out b7) 0
              simp at pc0
              have BW7 := hide (BW5.out.trans (b7.mono BW5.out.size))
              clear hb7
              go_wp2
              go_roundw
              case rel => exact ⟨l ++ [c], _, by rw [HR2.out]; first | done | rfl | (congr 1; split <;> omega), rfl, HNX, BW7⟩
              case measure => simp only [intOf]; exact HLS.out
          · have ec : (c % 2 == 0) = false := by simp [hc2]
            rw [if_neg hc2] at HSN HNX HLS
            clear hc2
            by_cases hle : r ≤ f
            · have HR2 := hide (show roomM ts fs (l ++ [c]) 1000 = r by rw [HSN.out]; omega)
              clear HSN
              go_wp2
              have BW7 := BW5
              go_roundw
              case rel => exact ⟨l ++ [c], _, by rw [HR2.out]; first | done | rfl | (congr 1; split <;> omega), rfl, HNX, BW7⟩
              case measure => simp only [intOf]; exact HLS.out
            · have HR2 := hide (show roomM ts fs (l ++ [c]) 1000 = f by rw [HSN.out]; omega)
              clear HSN
              go_wp2
              have BW7 := BW5
              go_roundw
              case rel => exact ⟨l ++ [c], _, by rw [HR2.out]; first | done | rfl | (congr 1; split <;> omega), rfl, HNX, BW7⟩
              case measure => simp only [intOf]; exact HLS.out
    · have hyc1 : (bfs n ts fs x).2.getD y 0 = -1 := by have := HIV.out.out y (by omega) (by omega) hy; rw [Int.toNat_natCast] at this; exact this
      rw [hyc1] at hyc
      have HE := hide (HS.out.end_ hy)
      clear hy hyc1
      go_wp2
      go_ret2
      have o3 := HS.out.own.below B3.out
      refine ⟨_, rfl, ?_, ?_⟩
      · rw [HE.out]
        exact o3.owns (by omega) HS.out.flow.fit.1 (by omega)
      · exact (B0.out.trans ((HS.out.bel.mono (by omega)))).trans (B3.out.mono (by have := HS.out.sz; omega))

end Go.Proofs.Yteimcbhnjhkkbaa
