/- The reference's Inherit, where the heirs may come in. -/
import Derived.Test.YtjcoajaoofjjmaaSps
import Derived.Test.YtjcoajaoofjjmaaInh2
import Derived.Deep.DeepCutAuto
import Derived.Deep.CutBlock
import Derived.Deep.RegionHeld3
namespace Go.Proofs.Ytjcoajaoofjjmaa
set_option linter.unusedSimpArgs false
set_option linter.unusedVariables false
set_option linter.unnecessarySimpa false
open Go.RowKit

/-- The last statement of a block may be cut around, too. -/
theorem wp_end_k {P : Program} {x : Code} {Q : Exit → Act → World → Prop} {a : Act} {w : World} (h : ∀ K : Act → World → Prop, (∀ a w, Q .normal a w → K a w) → x.wp P (Exit.then K Q) a w) : x.wp P Q a w :=
  Code.wp_mono (fun e a w h => by cases e <;> exact h) (h (Q .normal) fun _ _ h => h)

set_option maxRecDepth 100000 in
set_option maxHeartbeats 4000000 in
theorem specInh_ok (ab ao cap n k0 : Nat) (ts : List T3) (o : Int) (ah : Option Addr) (caph nh : Nat) (hs : List Int) (w : World) (hc : Rd3 w (some ⟨ab, ao, none⟩) ts) (hn : ts.length = n) (hh : Rd w ah hs) (hnh : hs.length = nh) (hR : rightsM ts = true) (hk : idxO o ts = k0) (h6 : inB (nh : Int) 1 6 = true)
    (A : Option (Int × Int)) (hA : k0 < n → splitM (ts.getD k0 default).2.1 (ts.getD k0 default).2.2 (nh : Int) = A) (RES : Option (List T3)) (hRES : RES = if k0 < n then (match A with | some s => okM (heirL o s.1 s.2 0 hs (ts.eraseIdx k0)) | none => none) else none) :
    Calls Try.prog 43 #[.slice (some ⟨ab, ao, none⟩) n cap, .int .i64 o, .slice ah nh caph] w fun e w' => GivesO RES ts w e w' := by
  have HRES := hide hRES
  clear hRES
  have hR2 := rights_parts hR
  have hn12 : n ≤ 12 := by omega
  have hnh6 := inB_iff.1 h6
  have hRO := hide (fun W (hb : Below w.heap.size w W) => show Calls Try.prog 21 #[.slice (some ⟨ab, ao, none⟩) n cap] W fun e w' => Rets W (.bool true) e w' from by
    have := specRightsOk_any (some ⟨ab, ao, none⟩) cap ts W (hc.below hb) (by omega)
    rw [hn, hR] at this; exact this)
  have hWI := hide (fun W => show Calls Try.prog 57 #[.int .i64 (nh : Int), .int .i64 1, .int .i64 6] W fun e w' => e = .returned (.bool true) ∧ W = w' from by
    have := l01In_any (nh : Int) 1 6 W
    rw [h6] at this; exact this)
  have bA : Below w.heap.size w (w.alloc (.cells #[] 56)) := (Below.refl _ _).alloc (Nat.le_refl _) _
  have SRC := hide (rd3_cells (hc.below bA))
  have RE := hide (RowT.empty' 56 w w.heap.size rfl)
  go_enter Try.func43, Try.ntmps43
  go_wp2_with (refine appRow rfl _ _ rfl RE.out 0 rfl ts n cap hn ⟨ab, ao, none⟩ rfl rfl SRC.out (by omega) n (by omega) (fun gS cS w1 rowS gr1 hs1 => ?_))
  rw [List.nil_append] at rowS
  have b1 : Below w.heap.size w w1 := belG bA gr1 (by omega)
  have hgS : w.heap.size ≤ gS := by
    rcases hs1 with e | e
    · omega
    · rw [e]; simp
  clear hs1 gr1 bA SRC RE h6
  (with_reducible refine (hRO.out _ b1).mono ?_)
  rintro e w3 ⟨rfl, hb2⟩
  have b3 := belT b1 hb2
  have rowS3 := rowS.below hb2
  have hgS3 : gS < w3.heap.size := Nat.lt_of_lt_of_le rowS.lt hb2.size
  clear hRO b1 hb2 rowS
  go_wp2_with fail
  go_at_call 57
  (with_reducible refine (hWI.out _).mono ?_)
  rintro e w' ⟨rfl, rfl⟩
  clear hWI
  have HM := hide (rights_mem hR)
  have HNE := hide (show ∀ k, k < n → k ≠ k0 → (ts.getD k default).1 ≠ o from fun k h1 h2 => by
    rcases Nat.lt_or_ge k k0 with h | h
    · exact idxO_ne k (by rw [hk]; exact h)
    · exact srt_past k (srt_of_rgA hR2.2.2.1) (by omega) (by omega))
  have HEQ := hide (show k0 < n → (ts.getD k0 default).1 = o from fun h => by have := idxO_get o ts (by omega); rwa [hk] at this)
  have b3s := b3.size
  go_upto_block 0 with fail
  go_cut [9, 11, 12] (fun out fd kk wx => ∃ (g c nn : Nat) (L : List T3) (b : Bool) (m0 m1 : Int), out = .slice (some ⟨g, 0, none⟩) nn c ∧ Hid (L.length = nn) ∧ fd = .bool b ∧ Hid (RowT 56 wx g c L) ∧ w3.heap.size ≤ g ∧ g ≠ w3.heap.size + 1 ∧ Hid (wx.heap[w3.heap.size + 1]? = some (.cells #[.int .i64 m0, .int .i64 m1] 25 (0, 0))) ∧ Hid (Below w3.heap.size w3 wx) ∧ Hid (SellJ ts k0 A (some (0, 1)) n L b m0 m1))
  case first =>
    go_wp2
    go_loopw [9, 11, 12] (fun out fd i wr => Hid (∃ (k g c nn : Nat) (L : List T3) (b : Bool) (m0 m1 : Int), k ≤ n ∧ i = .int .i64 k ∧ out = .slice (some ⟨g, 0, none⟩) nn c ∧ nn = L.length ∧ fd = .bool b ∧ RowT 56 wr g c L ∧ w3.heap.size ≤ g ∧ g ≠ w3.heap.size + 1 ∧ wr.heap[w3.heap.size + 1]? = some (.cells #[.int .i64 m0, .int .i64 m1] 25 (0, 0)) ∧ Below w3.heap.size w3 wr ∧
      SellJ ts k0 A (some (0, 1)) k L b m0 m1))
      (fun _ _ i _ => n - (intOf i).toNat)
    case atStart =>
      refine ⟨0, w3.heap.size, 0, 0, [], false, 0, 0, Nat.zero_le _, rfl, rfl, rfl, rfl, ?_, by omega, by omega, ?_, by first | exact (belS (belS (belA (belA (Below.refl _ _))) (by simp)) (by simp)) | exact (belA (belA (Below.refl _ _))), SellJ.start _ _ _ _⟩
      · have r := (RowT.empty' 56 w3 w3.heap.size rfl).below ((Below.refl _ _).alloc (Nat.le_refl _) (.cells #[.int .i64 0, .int .i64 0] 25))
        first | exact r | exact (r.grown_own (grownBy_trans (grownBy_set _ _ _ _) (grownBy_set _ _ _ _)) (by intro e; injection e with e; omega))
      · have e := blk_new (w3.alloc (.cells #[] 56)) #[.int .i64 0, .int .i64 0] 25
        have hz : (w3.alloc (.cells #[] 56)).heap.size = w3.heap.size + 1 := by simp
        rw [hz] at e
        first | exact e | (have := setCell_block (i := 1) (v := .int .i64 0) (setCell_block (i := 0) (v := .int .i64 0) e); simpa using this)
    case round =>
      obtain ⟨k, g, c, nn, L, b, m0, m1, hkn, rfl, rfl, rfl, rfl, rowL, hgg, hgm, hbm, hbel, hJ⟩ := hrel
      have HJ := hide hJ
      have hJl := hJ.len
      clear hJ
      by_cases hlt : k < n
      · obtain ⟨b', off, e', y0, y1, y2⟩ := (hc.below (belT b3 hbel)) k (by omega)
        cases e'
        obtain ⟨q1, q2, q3, q4⟩ := HM.out _ (getD_mem3' (by omega : k < ts.length))
        have bl := World.block_lt_of_cell? wr _ y0
        simp at bl
        have i1 : (0 : Int) ≤ (k : Int) := by omega
        have i2 : (k : Int) < (n : Int) := by omega
        by_cases hq0 : k = k0
        · subst hq0
          have hfe := HEQ.out hlt
          have hA' := hA hlt
          have HJH := hide (fun x0 x1 (h1 : A = some (x0, x1)) => SellJ.here (x0 := x0) (x1 := x1) (r0 := 0) (r1 := 1) HJ.out (by omega) h1 rfl)
          clear hA HEQ HNE
          generalize ts.getD k default = t at *
          obtain ⟨t1, t2, ht⟩ : ∃ t1 t2, t = (o, t1, t2) := ⟨t.2.1, t.2.2, Prod.ext hfe rfl⟩
          subst ht
          simp only at y0 y1 y2 q1 q2 q3 q4 hA' HJH
          have hSP := hide (fun W => specSplitEqually_any t1 t2 (nh : Int) W)
          rw [hA'] at hSP
          have hf' : (o != o) = false := by simp
          have hml : w3.heap.size + 1 < wr.heap.size := (Array.getElem?_eq_some_iff.1 hbm).1
          clear hA'
          go_wp2_with fail
          (with_reducible refine (hSP.out _).mono ?_)
          rintro e w5 ⟨rfl, hb5⟩
          have M5 := heap_grow hbm hb5
          have B5 := belT hbel hb5
          have RL5 := rowL.below hb5
          have rowS5 := rowS3.below B5
          have hs5 := hb5.size
          clear hb5 hbm hbel rowL y0 y1 y2 hSP
          rcases A with _ | ⟨z0, z1⟩
          · simp only [oT, oB, Option.isSome_none]
            have eR : RES = none := by rw [HRES.out, if_pos hlt]
            go_wp2
            refine bodyPost_ret (by simp [results, Try.results43, go_sem, *]; try rfl) rfl ?_
            try rw [eR]
            exact GivesO.none ((rowS5.below (belA (Below.refl _ _))).holds (base := w.heap.size) hn.symm (by omega)) (belA (belT b3 B5))
          · simp only [oT, oB, Option.isSome_some]
            have HJN := hide (HJH.out z0 z1 rfl)
            go_upto_region 15 with fail
            have N7 : (w5.alloc (.cells #[.int .i64 (oT (some (z0, z1))), .int .i64 (oB (some (z0, z1)))] 25)).heap[w5.heap.size]? = some (.cells #[.int .i64 z0, .int .i64 z1] 25 (0, 0)) := blk_new w5 _ _
            have M7 := blk_alloc (o := .cells #[.int .i64 (oT (some (z0, z1))), .int .i64 (oB (some (z0, z1)))] 25) M5
            have B7 := belA (o := .cells #[.int .i64 (oT (some (z0, z1))), .int .i64 (oB (some (z0, z1)))] 25) B5
            have RL7 := RL5.below (belA (o := .cells #[.int .i64 (oT (some (z0, z1))), .int .i64 (oB (some (z0, z1)))] 25) (Below.refl _ _))
            have hs7 : (w5.alloc (.cells #[.int .i64 (oT (some (z0, z1))), .int .i64 (oB (some (z0, z1)))] 25)).heap.size = w5.heap.size + 1 := World.size_alloc _ _
            generalize w5.alloc (.cells #[.int .i64 (oT (some (z0, z1))), .int .i64 (oB (some (z0, z1)))] 25) = w7 at *
            have l7 : w5.heap.size < w7.heap.size := by omega
            generalize hb13 : w5.heap.size = b13 at *
            generalize hbM : w3.heap.size + 1 = bM at *
            have d0 := cell_of_block N7 0
            have d1 := cell_of_block N7 1
            have v0 := cell_of_block M7 0
            have v1 := cell_of_block M7 1
            have fm := frozen_of_block M7
            simp at d0 d1 v0 v1
            have e3 : ¬ b13 = bM := by omega
            have e4 : ¬ bM = b13 := by omega
            have M8 := setCell_block (i := 1) (v := .int .i64 z1) (setCell_block (i := 0) (v := .int .i64 z0) M7)
            have G8 : w7.grownBy ((w7.setCell ⟨bM, 0, none⟩ (.int .i64 z0)).setCell ⟨bM, 1, none⟩ (.int .i64 z1)) (some bM) := grownBy_trans (grownBy_set _ _ _ _) (grownBy_set _ _ _ _)
            have R8 := RL7.grown_own G8 (by intro e; injection e with e; exact hgm e.symm)
            have B8 : Below w3.heap.size w3 _ := belG B7 G8 (by omega)
            clear M5 B5 RL5 N7 M7 B7 RL7 G8
            have HM8 := hide M8
            have HR8 := hide R8
            have HB8 := hide B8
            clear M8 R8 B8
            go_wp2
            subst hbM
            refine ⟨⟨u6, u7, .slice (some ⟨g, 0, none⟩) L.length c, .bool true, .int .i64 ((k : Int) + 1), hide ⟨k + 1, by omega, by go_num, g, c, L.length, rfl, L, rfl, .inr ⟨rfl, HR8.out, hgg, hgm, z0, z1, HM8.out, HB8.out, ?_⟩⟩, rfl, rfl, rfl, rfl, rfl⟩, by simp [intOf]; omega⟩
            have hfin := HJN.out
            simpa using hfin
        · have HNX := hide (HJ.out.next (by omega) hq0)
          have hne := HNE.out k hlt hq0
          generalize ts.getD k default = t at *
          obtain ⟨t0, t1, t2⟩ := t
          simp only at y0 y1 y2 q1 q2 q3 q4 hne
          have RX := hide (rowL.below (belA (o := .cells #[.int .i64 t0, .int .i64 t1, .int .i64 t2] 56) (Below.refl _ _)))
          have SX := hide (one_src (blk_new wr #[.int .i64 t0, .int .i64 t1, .int .i64 t2] 56))
          have BX := hide (belA (o := .cells #[.int .i64 t0, .int .i64 t1, .int .i64 t2] 56) hbel)
          have MX := hide (blk_alloc (o := .cells #[.int .i64 t0, .int .i64 t1, .int .i64 t2] 56) hbm)
          have hf' : (t0 != o) = true := by simpa using hne
          have hml : w3.heap.size + 1 < wr.heap.size := (Array.getElem?_eq_some_iff.1 hbm).1
          go_wp2_with (refine appRow rfl _ _ rfl RX.out L.length rfl [(t0, t1, t2)] 1 1 rfl ⟨wr.heap.size, 0, none⟩ rfl rfl SX.out (by omega) _ rfl (fun g' c' w' rowN grN hsN => ?_))
          go_roundw
          case rel =>
            refine ⟨k + 1, g', c', L.length + 1, L ++ [(t0, t1, t2)], b, m0, m1, by omega, by go_num, rfl, by simp, rfl, rowN, ?_, ?_, ?_, ?_, HNX.out⟩
            · rcases hsN with e | e
              · omega
              · rw [e]; simp; omega
            · rcases hsN with e | e
              · omega
              · rw [e]; simp; omega
            · exact grown_heap grN MX.out (by intro e; injection e with e; exact hgm e)
            · exact belG BX.out grN hgg
          case measure => simp [intOf]; omega
      · have hkn' : k = n := by omega
        subst hkn'
        go_wp2
        go_meet
        case rel => exact ⟨g, c, L.length, L, b, m0, m1, rfl, hide rfl, rfl, rowL, hgg, hgm, hbm, hbel, HJ⟩
  case rest =>
  obtain ⟨g, c, nn, L, b, m0, m1, rfl, HLL, rfl, RL, hgg, hgm, HBM, HBE, HJ⟩ := hcut
  have hE := SellJ.end (ts := ts) (k0 := k0) (A1 := A) (A2 := some (0, 1)) (L := L) (b := b) (m0 := m0) (m1 := m1) (by rw [hn]; exact HJ.out)
  rw [hn] at hE
  have BW := hide (belT b3 HBE.out)
  have rowSW := hide (rowS3.below HBE.out)
  rcases hE with ⟨hb, hk0⟩ | ⟨hb, hk0, r0, r1, hA1', hA2', hL⟩
  · subst hb
    have eR : RES = none := by rw [HRES.out, if_neg hk0]
    clear HJ HRES
    go_wp2
    refine bodyPost_ret (by simp [results, Try.results43, go_sem, *]; try rfl) rfl ?_
    rw [eR]
    exact GivesO.none (rowSW.out.holds (base := w.heap.size) hn.symm (by omega)) BW.out
  · subst hb
    have HLI := hide (show L = ts.eraseIdx k0 by
      injection hA2' with e; injection e with e1 e2
      rw [hL]; unfold sellOut; rw [if_pos (by rw [← e1])])
    have HRS := hide (show RES = okM (heirL o m0 m1 0 hs L) by rw [HRES.out, if_pos hk0, hA1', HLI.out])
    have HLL2 := hide (show L.length ≤ 12 by rw [HLI.out]; exact Nat.le_trans (List.length_eraseIdx_le _ _) (by omega))
    clear HJ HRES hA1' hA2' hL hA HNE HEQ HM
    have hml : w3.heap.size + 1 < wc.heap.size := (Array.getElem?_eq_some_iff.1 HBM.out).1
    generalize hbM : w3.heap.size + 1 = bM at *
    go_wp2
    go_loopw [9, 15] (fun out i wr => Hid (∃ (j g c m : Nat) (us : List T3), j ≤ nh ∧ i = .int .i64 j ∧ out = .slice (some ⟨g, 0, none⟩) m c ∧ us.length = m ∧ RowT 56 wr g c us ∧ m ≤ 12 + j ∧ heirL o m0 m1 0 hs L = heirL o m0 m1 (prevI hs j) (hs.drop j) us ∧ w3.heap.size ≤ g ∧ g ≠ bM ∧ wr.heap[bM]? = some (.cells #[.int .i64 m0, .int .i64 m1] 25 (0, 0)) ∧ Below w3.heap.size w3 wr)) (fun _ i _ => nh - (intOf i).toNat)
    case atStart => exact hide ⟨0, g, c, nn, L, Nat.zero_le _, rfl, rfl, HLL.out, RL.out, by rw [← HLL.out]; exact HLL2.out, by simp [prevI], hgg, hgm, HBM.out, HBE.out⟩
    case round =>
      obtain ⟨j, g, c, m, us, hj, rfl, rfl, hum, RU, hmj, hHH, hgg, hgm, hbm, hbel⟩ := hrel
      have HHH := hide hHH
      have BWr := hide (belT b3 hbel)
      have rowSr := hide (rowS3.below hbel)
      clear hHH
      by_cases hlt : j < nh
      · obtain ⟨bh, offh, rfl, yh⟩ := (hh.below BWr.out) j (by omega)
        have HST := hide (show heirL o m0 m1 (prevI hs j) (hs.drop j) us = if inB (hs.getD j 0) 1 999 && decide (hs.getD j 0 ≠ o) && decide (prevI hs j < hs.getD j 0) then (match addShM us (hs.getD j 0) m0 m1 with | some vs => heirL o m0 m1 (hs.getD j 0) (hs.drop (j + 1)) vs | none => none) else none by rw [drop_getD hs j (by omega)]; rfl)
        have HPV := hide (show prevI hs (j + 1) = hs.getD j 0 from rfl)
        have HYP := hide (show ∀ i, j = i + 1 → wr.cell? ⟨bh, offh + i, none⟩ = some (.int .i64 (prevI hs j)) from fun i hi => by
          obtain ⟨b', off', e', y1⟩ := (hh.below BWr.out) i (by omega)
          cases e'
          rw [hi]; exact y1)
        have HP0 := hide (show j = 0 → prevI hs j = 0 from fun e => by rw [e]; rfl)
        generalize hs.getD j 0 = h at *
        generalize prevI hs j = pv at *
        have HIN := hide (fun W => show Calls Try.prog 57 #[.int .i64 h, .int .i64 1, .int .i64 999] W fun e w' => e = .returned (.bool (inB h 1 999)) ∧ W = w' from l01In_any h 1 999 W)
        have bl := World.block_lt_of_cell? wr _ yh
        simp at bl
        have i1 : (0 : Int) ≤ (j : Int) := by omega
        have i2 : (j : Int) < (nh : Int) := by omega
        go_upto_region 22 with fail
        go_cut [107] (fun v wx => v = .bool (!(inB h 1 999 && decide (h ≠ o) && decide (pv < h))) ∧ Hid (Below wr.heap.size wr wx))
        case first =>
          cases j with
          | zero =>
            have hp0 := HP0.out rfl
            subst hp0
            rw [Nat.add_zero] at yh
            have hx : inB h 1 999 = true → 0 < h := fun e => by have := inB_iff.1 e; omega
            generalize inB h 1 999 = T at *
            cases T
            · go_wp2
              go_quiet ((go_at_call 57; exact Calls.quiet_of_same ((HIN.out _).mono fun _ _ ⟨he, hw⟩ => ⟨he, hw.symm⟩)))
              go_wp2
              go_meet
              case rel => exact ⟨by simp, hide (belN (Below.refl _ _))⟩
            · have hx' := hx rfl
              by_cases hq : h = o
              · have hq' : (h == o) = true := by simpa using hq
                have HD := hide (show (!(true && decide (h ≠ o) && decide (0 < h))) = true by simp [hq])
                clear hq
                go_wp2
                go_quiet ((go_at_call 57; exact Calls.quiet_of_same ((HIN.out _).mono fun _ _ ⟨he, hw⟩ => ⟨he, hw.symm⟩)))
                go_wp2
                go_meet
                case rel => exact ⟨congrArg Value.bool HD.out.symm, hide (belN (Below.refl _ _))⟩
              · have hq' : (h == o) = false := by simpa using hq
                have HD := hide (show (!(true && decide (h ≠ o) && decide (0 < h))) = false by simp [hq, hx'])
                clear hq
                go_wp2
                go_quiet ((go_at_call 57; exact Calls.quiet_of_same ((HIN.out _).mono fun _ _ ⟨he, hw⟩ => ⟨he, hw.symm⟩)))
                go_wp2
                go_meet
                case rel => exact ⟨congrArg Value.bool HD.out.symm, hide (belN (Below.refl _ _))⟩
          | succ i =>
            have yp := HYP.out i rfl
            have hw1 : IntKind.i64.wrap (((i + 1 : Nat) : Int) - 1) = (i : Int) := by rw [IntKind.wrap_i64]; omega
            have hj0 : (0 : Int) < ((i + 1 : Nat) : Int) := by omega
            have hj1 : (i : Int) < (nh : Int) := by omega
            have i3 : (0 : Int) ≤ (i : Int) + 1 := by omega
            have i4 : (i : Int) + 1 < (nh : Int) := by omega
            have i5 : ((i : Int) + 1).toNat = i + 1 := by omega
            have i6 : (0 : Int) < (i : Int) + 1 := by omega
            have i7 : IntKind.i64.wrap ((i : Int) + 1 - 1) = (i : Int) := by rw [IntKind.wrap_i64]; omega
            generalize inB h 1 999 = T at *
            cases T
            · go_wp2
              go_quiet ((go_at_call 57; exact Calls.quiet_of_same ((HIN.out _).mono fun _ _ ⟨he, hw⟩ => ⟨he, hw.symm⟩)))
              go_wp2
              go_meet
              case rel => exact ⟨by simp, hide (belN (Below.refl _ _))⟩
            · by_cases hq : h = o
              · have hq' : (h == o) = true := by simpa using hq
                have HD := hide (show (!(true && decide (h ≠ o) && decide (pv < h))) = true by simp [hq])
                clear hq
                go_wp2
                go_quiet ((go_at_call 57; exact Calls.quiet_of_same ((HIN.out _).mono fun _ _ ⟨he, hw⟩ => ⟨he, hw.symm⟩)))
                go_wp2
                go_meet
                case rel => exact ⟨congrArg Value.bool HD.out.symm, hide (belN (Below.refl _ _))⟩
              · have hq' : (h == o) = false := by simpa using hq
                by_cases hv : pv < h
                · have HD := hide (show (!(true && decide (h ≠ o) && decide (pv < h))) = false by simp [hq, hv])
                  have hv2 : decide (h ≤ pv) = false := by simpa using hv
                  clear hq
                  go_wp2
                  go_quiet ((go_at_call 57; exact Calls.quiet_of_same ((HIN.out _).mono fun _ _ ⟨he, hw⟩ => ⟨he, hw.symm⟩)))
                  go_wp2
                  go_meet
                  case rel => exact ⟨congrArg Value.bool HD.out.symm, hide (belN (Below.refl _ _))⟩
                · have HD := hide (show (!(true && decide (h ≠ o) && decide (pv < h))) = true by simp [hv])
                  have hv2 : decide (h ≤ pv) = true := by simpa using hv
                  clear hq
                  go_wp2
                  go_quiet ((go_at_call 57; exact Calls.quiet_of_same ((HIN.out _).mono fun _ _ ⟨he, hw⟩ => ⟨he, hw.symm⟩)))
                  go_wp2
                  go_meet
                  case rel => exact ⟨congrArg Value.bool HD.out.symm, hide (belN (Below.refl _ _))⟩
        case rest =>
        obtain ⟨rfl, HBX⟩ := hcut
        have RUc := RU.below HBX.out
        have hbmc := heap_grow hbm HBX.out
        have belc := belT hbel HBX.out
        have BWc := hide (belT b3 belc)
        have rowSc := hide (rowS3.below belc)
        have ych := cellB HBX.out yh
        have blc : bh < wc.heap.size := by have := HBX.out.size; omega
        clear HBX RU hbm hbel BWr rowSr yh bl HIN HYP HP0
        have hm18 : m ≤ 18 := by omega
        by_cases hok : (inB h 1 999 && decide (h ≠ o) && decide (pv < h)) = true
        · have HST2 := hide (HST.out.trans (if_pos hok))
          rw [hok]
          clear hok HST
          have rl := RUc.room
          have gv : g < wc.heap.size := RUc.lt
          go_upto_block 4 with fail
          go_cut [16] (fun v wx => v = .int .i64 ((atM h us : Nat) : Int) ∧ Hid (Below wc.heap.size wc wx))
          case first =>
            clear HRS HHH HPV HLI HLL2 HBM HBE rowSW BW RL HLL
            go_wp2
            go_loopw [16] (fun i wx => ∃ (q : Nat), q ≤ m ∧ i = .int .i64 q ∧ atM h us = q + atM h (us.drop q) ∧ Hid (Below wc.heap.size wc wx)) (fun i _ => m - (intOf i).toNat)
            case atStart => exact ⟨0, Nat.zero_le _, rfl, by simp, hide (Below.refl _ _)⟩
            case round =>
              obtain ⟨q, hq, rfl, hat, HBX⟩ := hrel
              have HAT := hide hat
              clear hat
              have yx := cellB HBX.out ych
              have blx : bh < wr.heap.size := by have := HBX.out.size; omega
              have blg : g < wr.heap.size := by have := HBX.out.size; omega
              by_cases hqt : q < m
              · obtain ⟨y0, y1, y2⟩ := (RUc.below HBX.out).cell3 q (by omega)
                have HST3 := hide (atM_step h us q (by omega))
                generalize us.getD q default = t at *
                obtain ⟨t0, t1, t2⟩ := t
                simp only at y0 y1 y2 HST3
                have j1 : (0 : Int) ≤ (q : Int) := by omega
                have j2 : (q : Int) < (m : Int) := by omega
                have hd1 : decide ((q : Int) < (m : Int)) = true := by simpa using hqt
                by_cases hq1 : t0 < h
                · have hd2 : decide (t0 < h) = true := by simpa using hq1
                  go_wp2
                  go_quiet (fail)
                  have HBD := hide (belN (n := nq) HBX.out)
                  go_wp2
                  go_roundw
                  case rel => exact ⟨q + 1, by omega, by go_num, by rw [HAT.out, HST3.out, if_pos hq1]; omega, HBD⟩
                  case measure => simp [intOf]; omega
                · have hd2 : decide (t0 < h) = false := by simpa using hq1
                  go_wp2
                  go_quiet (fail)
                  have HBD := hide (belN (n := nq) HBX.out)
                  have HJ := hide (show atM h us = q by rw [HAT.out, HST3.out, if_neg (by omega)]; omega)
                  go_wp2
                  go_meet
                  case rel => exact ⟨by rw [HJ.out], HBD⟩
              · have hd1 : decide ((q : Int) < (m : Int)) = false := by simpa using hqt
                go_wp2
                go_quiet (fail)
                have HBD := hide (belN (n := nq) HBX.out)
                have HJ := hide (show atM h us = q by rw [HAT.out, List.drop_of_length_le (by omega)]; simp [atM])
                go_wp2
                go_meet
                case rel => exact ⟨by rw [HJ.out], HBD⟩
          case rest =>
          obtain ⟨rfl, HBY⟩ := hcut
          subst hum
          have RUd := RUc.below HBY.out
          have hbmd := heap_grow hbmc HBY.out
          have beld := belT belc HBY.out
          have yd := cellB HBY.out ych
          have bld : bh < wc.heap.size := by have := HBY.out.size; omega
          have gvd : g < wc.heap.size := RUd.lt
          clear HBY RUc hbmc belc BWc rowSc ych blc gv
          have hql := atM_le h us
          have HADD := hide (show addShM us h m0 m1 = if atM h us < us.length ∧ (us.getD (atM h us) default).1 = h then (addM (us.getD (atM h us) default).2.1 (us.getD (atM h us) default).2.2 m0 m1).map fun s => us.set (atM h us) (h, s.1, s.2) else some (insM us (atM h us) (h, m0, m1)) from rfl)
          generalize atM h us = q at *
          go_upto_region 27 with fail
          go_cut [142] (fun v wx => v = .bool (decide (q < us.length ∧ (us.getD q default).1 = h)) ∧ Hid (Below wc.heap.size wc wx))
          case first =>
            clear HRS HHH HPV HLI HLL2 HBM HBE rowSW BW RL HLL HST2 HADD
            have j1 : (0 : Int) ≤ (q : Int) := by omega
            by_cases hqt : q < us.length
            · obtain ⟨y0, y1, y2⟩ := RUd.cell3 q (by omega)
              generalize us.getD q default = t at *
              obtain ⟨t0, t1, t2⟩ := t
              simp only at y0 y1 y2
              have j2 : (q : Int) < (us.length : Int) := by omega
              have hd1 : decide ((q : Int) < (us.length : Int)) = true := by simpa using hqt
              by_cases hq0 : t0 = h
              · have HD := hide (show decide (q < us.length ∧ ((t0, t1, t2) : T3).1 = h) = true by simp [hq0]; omega)
                have hq' : (t0 == h) = true := by simpa using hq0
                clear hq0
                go_wp2
                go_quiet (fail)
                go_wp2
                go_meet
                case rel => exact ⟨congrArg Value.bool HD.out.symm, hide (belN (Below.refl _ _))⟩
              · have HD := hide (show decide (q < us.length ∧ ((t0, t1, t2) : T3).1 = h) = false by simp [hq0])
                have hq' : (t0 == h) = false := by simpa using hq0
                clear hq0
                go_wp2
                go_quiet (fail)
                go_wp2
                go_meet
                case rel => exact ⟨congrArg Value.bool HD.out.symm, hide (belN (Below.refl _ _))⟩
            · have HD := hide (show decide (q < us.length ∧ (us.getD q default).1 = h) = false by simp; intro h; omega)
              have hd1 : decide ((q : Int) < (us.length : Int)) = false := by simpa using hqt
              go_wp2
              go_quiet (fail)
              go_wp2
              go_meet
              case rel => exact ⟨congrArg Value.bool HD.out.symm, hide (belN (Below.refl _ _))⟩
          case rest =>
          obtain ⟨rfl, HBZ⟩ := hcut
          have RUe := RUd.below HBZ.out
          have hbme := heap_grow hbmd HBZ.out
          have BE := hide (belT beld HBZ.out)
          have ye := cellB HBZ.out yd
          have ble : bh < wc.heap.size := by have := HBZ.out.size; omega
          have gve : g < wc.heap.size := RUe.lt
          have hmle : bM < wc.heap.size := (Array.getElem?_eq_some_iff.1 hbme).1
          have hse : w3.heap.size ≤ wc.heap.size := BE.out.size
          clear HBZ RUd hbmd beld yd bld gvd
          have v0 := cell_of_block hbme 0
          have v1 := cell_of_block hbme 1
          simp at v0 v1
          go_upto_if 142 with fail
          refine wp_end_k (fun K9 hK9 => ?_)
          go_cut [9] (fun v wx => ∃ (g' c' : Nat) (vs : List T3), v = .slice (some ⟨g', 0, none⟩) vs.length c' ∧ Hid (addShM us h m0 m1 = some vs) ∧ Hid (RowT 56 wx g' c' vs) ∧ Hid (Below w3.heap.size w3 wx) ∧ w3.heap.size ≤ g' ∧ g' ≠ bM ∧ vs.length ≤ us.length + 1 ∧ Hid (wx.heap[bM]? = some (.cells #[.int .i64 m0, .int .i64 m1] 25 (0, 0))))
          case first =>
            by_cases hC : q < us.length ∧ (us.getD q default).1 = h
            · have hd : decide (q < us.length ∧ (us.getD q default).1 = h) = true := decide_eq_true hC
              rw [hd]
              have hqt := hC.1
              obtain ⟨y0, y1, y2⟩ := RUe.cell3 q hqt
              have HAS := hide (HADD.out.trans (if_pos hC))
              have RS := hide (fun W (hb : Below wc.heap.size wc W) y z => (RUe.below hb).set2 q y z)
              have RC := hide (fun W (hb : Below wc.heap.size wc W) => (RUe.below hb).cell3 q hqt)
              obtain ⟨t1, t2, ht⟩ : ∃ t1 t2, us.getD q default = (h, t1, t2) := ⟨(us.getD q default).2.1, (us.getD q default).2.2, Prod.ext hC.2 rfl⟩
              rw [ht] at y0 y1 y2 HAS RS RC
              simp only at y0 y1 y2 HAS
              have HAM := hide (fun W => specAddFractions_any t1 t2 m0 m1 W)
              generalize addM t1 t2 m0 m1 = AA at *
              have j1 : (0 : Int) ≤ (q : Int) := by omega
              have j2 : (q : Int) < (us.length : Int) := by omega
              clear hd HADD hC ht
              go_wp2
              (refine wp_region_g [0, 1, 2, 3, 4, 5, 6, 7, 8, 9] [10, 11, 12] (by kernel_rfl) (by kernel_rfl) ?_; simp only [pick, List.map_cons, List.map_nil, Array.getD_eq_getD_getElem?, List.getElem?_toArray, List.getElem?_cons_zero, List.getElem?_cons_succ, Option.getD_some]; (iterate 10 (refine wpG_step (fun K hK => ?_); go_simp; first | (refine hK _ ?_; clear hK K) | (apply Exists.intro; refine ⟨fun _ => ?_, hK _ ?_⟩; ((go_at_call 53; exact HAM.out _)); clear hK K))); refine wpG_nil ?_)
              (refine wpT_alloc (C := #[.int .i64 0, .int .i64 0]) (T := 25) rfl (fun w => by go_simp) ?_; intro bt hbbt; simp only [Act.put, List.setIfInBounds_toArray, List.set_cons_zero, List.set_cons_succ]; refine wpT_store (C' := #[.int .i64 (oT AA), .int .i64 (oB AA)]) rfl hbbt (fun wq hwq => ⟨_, by (have hcq := cell_of_block hwq; have hfq := frozen_of_block hwq; go_simp), store_two hwq⟩) ?_; simp only [Act.put, List.setIfInBounds_toArray, List.set_cons_zero, List.set_cons_succ]; refine wpT_pure (up_block _ _) rfl (fun w => by (go_simp; rfl)) ?_; simp only [Act.put, List.setIfInBounds_toArray, List.set_cons_zero, List.set_cons_succ]; refine wpT_end ?_; intro wt hbwt hhwt; have hcwt := cell_of_block hhwt; have hfwt := frozen_of_block hhwt; have hlwt : bt < wt.heap.size := (Array.getElem?_eq_some_iff.1 hhwt).1; obtain ⟨hcb, hfb⟩ := bcell hbwt; have hzwt := hbwt.size; (try simp at hzwt); (try (refine ltk (a := w.heap.size) (b := wt.heap.size) ?_ ?_; (focus omega); intro _ _)); (try (refine ltk (a := w.heap.size + 1) (b := wt.heap.size) ?_ ?_; (focus omega); intro _ _)); (try (refine ltk (a := w.heap.size + 2) (b := wt.heap.size) ?_ ?_; (focus omega); intro _ _)); (try (refine ltk (a := w.heap.size + 3) (b := wt.heap.size) ?_ ?_; (focus omega); intro _ _)); (try (refine ltk (a := bt) (b := wt.heap.size) ?_ ?_; (focus omega); intro _ _)))
              have BT3 := belT BE.out hbwt
              cases hAA : AA with
              | none =>
                simp only [Option.isSome_none]
                have eR : RES = none := by rw [HRS.out, HHH.out, HST2.out, HAS.out, hAA]; rfl
                clear HRS HAS HHH HST2
                go_wp2
                refine bodyPost_ret (by simp [results, Try.results43, go_sem, *]; try rfl) rfl ?_
                rw [eR]
                exact GivesO.none ((rowS3.below BT3).holds (base := w.heap.size) hn.symm (by omega)) (belT b3 BT3)
              | some s =>
                obtain ⟨s0, s1⟩ := s
                rw [hAA] at HAS hhwt
                simp only [oT, oB] at hhwt
                simp only [Option.isSome_some]
                obtain ⟨z0, z1, z2⟩ := RC.out _ hbwt
                have e00 := cell_of_block hhwt 0
                have e01 := cell_of_block hhwt 1
                simp at e00 e01
                have f1 := (RUe.below hbwt).frozen (q * 3 + 1)
                have f2 := (RUe.below hbwt).frozen (q * 3 + 2)
                have hgt : g < wt.heap.size := by omega
                have RST := hide (RS.out _ hbwt s0 s1)
                have hbmt := heap_grow hbme hbwt
                have MST := hide (blk_other (i := q * 3 + 2) (v := .int .i64 s1) (blk_other (i := q * 3 + 1) (v := .int .i64 s0) hbmt (Ne.symm hgm)) (Ne.symm hgm))
                clear hcwt hcb hfb HAM v0 v1 y0 y1 y2 hAA hbmt
                go_wp2
                go_meet
                case rel =>
                  refine ⟨g, c, us.set q (h, s0, s1), by simp, HAS.out, RST.out, ?_, hgg, hgm, by rw [List.length_set]; omega, MST.out⟩
                  exact belG BT3 (grownBy_trans (grownBy_set _ _ _ _) (grownBy_set _ _ _ _)) hgg
            · have hd : decide (q < us.length ∧ (us.getD q default).1 = h) = false := decide_eq_false hC
              rw [hd]
              have HAS := hide (HADD.out.trans (if_neg hC))
              clear hd HADD hC
              have hjc : q ≤ c := by omega
              have hji : (q : Int) ≤ (us.length : Int) := by omega
              have hjc2 : (us.length : Int) ≤ (c : Int) := by omega
              have j1 : (0 : Int) ≤ (q : Int) := by omega
              by_cases hjc' : c = q
              · have hjs := hjc'.symm
                subst hjs
                go_wp2
                go_region_held3 (fun w' => w'.cell? ⟨bM, 0, none⟩ = some (.int .i64 m0) ∧ w'.cell? ⟨bM, 1, none⟩ = some (.int .i64 m1) ∧ w'.cell? ⟨bh, offh + j, none⟩ = some (.int .i64 h)) (first | go_keep | exact ⟨cellB b3' v0, cellB b3' v1, cellB b3' ye⟩ | exact ⟨cellB b2' v0, cellB b2' v1, cellB b2' ye⟩ | exact ⟨cellB b1' v0, cellB b1' v1, cellB b1' ye⟩) (first
                  | (refine step_appB wc (by assumption) (by assumption) rfl _ _ rfl r2 (q + 1) (by simp; omega) (us.drop q) (us.length - q) 0 (by simp) ⟨g, 0, none⟩ rfl rfl (by intro i u hi; rw [List.drop_of_length_le (by omega)] at hi; simp [cellsT, flat] at hi) (by omega) (us.length + 1) (by omega) (fun g3 c3 w3' r3 b3' l3 gr3 s3 z3 => ?_))
                  | (refine step_appB wc (by assumption) (by assumption) rfl _ _ rfl r2 (q + 1) (by simp; omega) (us.drop q) 0 0 (by simp; omega) ⟨g, 0, none⟩ rfl rfl (by intro i u hi; rw [List.drop_of_length_le (by omega)] at hi; simp [cellsT, flat] at hi) (by omega) (us.length + 1) (by omega) (fun g3 c3 w3' r3 b3' l3 gr3 s3 z3 => ?_))
                  | (refine step_appB wc (by (repeat first | exact Below.refl _ _ | assumption | (refine belA ?_) | (refine belD ?_) | (refine belN ?_)); done) l1 rfl _ _ rfl (RowT.below r1 (by (repeat first | exact Below.refl _ _ | assumption | (refine belA ?_) | (refine belD ?_) | (refine belN ?_)); done)) q (by simp; omega) [(h, m0, m1)] 1 1 rfl ⟨w1'.heap.size, 0, none⟩ rfl rfl (one_src (blk_new w1' _ _)) (by omega) (q + 1) rfl (fun g2 c2 w2' r2 b2' l2 gr2 s2 z2 => ?_))
                  | (refine step_appB wc (by (repeat first | exact Below.refl _ _ | assumption | (refine belA ?_) | (refine belD ?_) | (refine belN ?_)); done) (Nat.le_refl _) rfl _ _ rfl (RowT.below (RowT.empty' _ wc wc.heap.size rfl) (by (repeat first | exact Below.refl _ _ | assumption | (refine belA ?_) | (refine belD ?_) | (refine belN ?_)); done)) 0 rfl (us.take q) q q (by simp; omega) ⟨g, 0, none⟩ rfl rfl (RUe.src_first q ⟨g, 0, none⟩ rfl (by (repeat first | exact Below.refl _ _ | assumption | (refine belA ?_) | (refine belD ?_) | (refine belN ?_)); done)) (by omega) q (by omega) (fun g1 c1 w1' r1 b1' l1 gr1 s1 z1 => ?_); (try have P1 := grown_heap gr1 (show _ = _ from blk_two wc (.cells #[] 56) #[.int .i64 h, .int .i64 m0, .int .i64 m1] 56) (by intro e; injection e with e; omega)))
                  | (refine step_appB wc (by (repeat first | exact Below.refl _ _ | assumption | (refine belA ?_) | (refine belD ?_) | (refine belN ?_)); done) (Nat.le_succ _) rfl _ _ rfl (RowT.below (RowT.empty' _ (wc.alloc (.cells #[.int .i64 h, .int .i64 m0, .int .i64 m1] 56)) (wc.heap.size + 1) (World.size_alloc _ _)) (by (repeat first | exact Below.refl _ _ | assumption | (refine belA ?_) | (refine belD ?_) | (refine belN ?_)); done)) 0 rfl (us.take q) q q (by simp; omega) ⟨g, 0, none⟩ rfl rfl (RUe.src_first q ⟨g, 0, none⟩ rfl (by (repeat first | exact Below.refl _ _ | assumption | (refine belA ?_) | (refine belD ?_) | (refine belN ?_)); done)) (by omega) q (by omega) (fun g1 c1 w1' r1 b1' l1 gr1 s1 z1 => ?_); have P1 := grown_heap gr1 (show _ = _ from blk_alloc (o := .cells #[] 56) (blk_new wc #[.int .i64 h, .int .i64 m0, .int .i64 m1] 56)) (by intro e; injection e with e; omega))
                  | (refine step_appB wc (by assumption) l1 rfl _ _ rfl r1 q (by simp; omega) [(h, m0, m1)] 1 1 rfl ⟨wc.heap.size, 0, none⟩ rfl rfl (one_src P1) (by omega) (q + 1) rfl (fun g2 c2 w2' r2 b2' l2 gr2 s2 z2 => ?_))
                  | (refine step_appB wc (by assumption) l1 rfl _ _ rfl r1 q (by simp; omega) [(h, m0, m1)] 1 1 rfl ⟨wc.heap.size + 1, 0, none⟩ rfl rfl (one_src P1) (by omega) (q + 1) rfl (fun g2 c2 w2' r2 b2' l2 gr2 s2 z2 => ?_)))
                all_goals
                  have hG : w3.heap.size ≤ g3 := by have := BE.out.size; omega
                  have hGM : g3 ≠ bM := by omega
                  have HMB := hide (heap_grow hbme b3')
                  have hI : [] ++ us.take q ++ [(h, m0, m1)] ++ us.drop q = insM us q (h, m0, m1) := by simp [insM]
                  rw [hI] at r3
                  have BB := belT BE.out b3'
                  clear hI gr1 gr2 gr3
                  have hIL : (insM us q (h, m0, m1)).length = us.length + 1 := by simp [insM]; omega
                  have hIH := hide hIL
                  clear hIL
                  go_wp2
                  go_meet
                  case rel => exact ⟨g3, c3, insM us q (h, m0, m1), by rw [hIH.out], HAS.out, r3, BB, hG, hGM, by rw [hIH.out]; omega, HMB⟩
              · go_wp2
                go_region_held3 (fun w' => w'.cell? ⟨bM, 0, none⟩ = some (.int .i64 m0) ∧ w'.cell? ⟨bM, 1, none⟩ = some (.int .i64 m1) ∧ w'.cell? ⟨bh, offh + j, none⟩ = some (.int .i64 h)) (first | go_keep | exact ⟨cellB b3' v0, cellB b3' v1, cellB b3' ye⟩ | exact ⟨cellB b2' v0, cellB b2' v1, cellB b2' ye⟩ | exact ⟨cellB b1' v0, cellB b1' v1, cellB b1' ye⟩) (first
                  | (refine step_appB wc (by assumption) (by assumption) rfl _ _ rfl r2 (q + 1) (by simp; omega) (us.drop q) (us.length - q) (c - q) (by simp) ⟨g, q * 3, none⟩ rfl rfl (fun i u hi => (RUe.below (by assumption)).drop_at q i u hi) (by omega) (us.length + 1) (by omega) (fun g3 c3 w3' r3 b3' l3 gr3 s3 z3 => ?_))
                  | (refine step_appB wc (by (repeat first | exact Below.refl _ _ | assumption | (refine belA ?_) | (refine belD ?_) | (refine belN ?_)); done) l1 rfl _ _ rfl (RowT.below r1 (by (repeat first | exact Below.refl _ _ | assumption | (refine belA ?_) | (refine belD ?_) | (refine belN ?_)); done)) q (by simp; omega) [(h, m0, m1)] 1 1 rfl ⟨w1'.heap.size, 0, none⟩ rfl rfl (one_src (blk_new w1' _ _)) (by omega) (q + 1) rfl (fun g2 c2 w2' r2 b2' l2 gr2 s2 z2 => ?_))
                  | (refine step_appB wc (by (repeat first | exact Below.refl _ _ | assumption | (refine belA ?_) | (refine belD ?_) | (refine belN ?_)); done) (Nat.le_refl _) rfl _ _ rfl (RowT.below (RowT.empty' _ wc wc.heap.size rfl) (by (repeat first | exact Below.refl _ _ | assumption | (refine belA ?_) | (refine belD ?_) | (refine belN ?_)); done)) 0 rfl (us.take q) q c (by simp; omega) ⟨g, 0, none⟩ rfl rfl (RUe.src_first q ⟨g, 0, none⟩ rfl (by (repeat first | exact Below.refl _ _ | assumption | (refine belA ?_) | (refine belD ?_) | (refine belN ?_)); done)) (by omega) q (by omega) (fun g1 c1 w1' r1 b1' l1 gr1 s1 z1 => ?_); (try have P1 := grown_heap gr1 (show _ = _ from blk_two wc (.cells #[] 56) #[.int .i64 h, .int .i64 m0, .int .i64 m1] 56) (by intro e; injection e with e; omega)))
                  | (refine step_appB wc (by (repeat first | exact Below.refl _ _ | assumption | (refine belA ?_) | (refine belD ?_) | (refine belN ?_)); done) (Nat.le_succ _) rfl _ _ rfl (RowT.below (RowT.empty' _ (wc.alloc (.cells #[.int .i64 h, .int .i64 m0, .int .i64 m1] 56)) (wc.heap.size + 1) (World.size_alloc _ _)) (by (repeat first | exact Below.refl _ _ | assumption | (refine belA ?_) | (refine belD ?_) | (refine belN ?_)); done)) 0 rfl (us.take q) q c (by simp; omega) ⟨g, 0, none⟩ rfl rfl (RUe.src_first q ⟨g, 0, none⟩ rfl (by (repeat first | exact Below.refl _ _ | assumption | (refine belA ?_) | (refine belD ?_) | (refine belN ?_)); done)) (by omega) q (by omega) (fun g1 c1 w1' r1 b1' l1 gr1 s1 z1 => ?_); have P1 := grown_heap gr1 (show _ = _ from blk_alloc (o := .cells #[] 56) (blk_new wc #[.int .i64 h, .int .i64 m0, .int .i64 m1] 56)) (by intro e; injection e with e; omega))
                  | (refine step_appB wc (by assumption) l1 rfl _ _ rfl r1 q (by simp; omega) [(h, m0, m1)] 1 1 rfl ⟨wc.heap.size, 0, none⟩ rfl rfl (one_src P1) (by omega) (q + 1) rfl (fun g2 c2 w2' r2 b2' l2 gr2 s2 z2 => ?_))
                  | (refine step_appB wc (by assumption) l1 rfl _ _ rfl r1 q (by simp; omega) [(h, m0, m1)] 1 1 rfl ⟨wc.heap.size + 1, 0, none⟩ rfl rfl (one_src P1) (by omega) (q + 1) rfl (fun g2 c2 w2' r2 b2' l2 gr2 s2 z2 => ?_)))
                all_goals
                  have hG : w3.heap.size ≤ g3 := by have := BE.out.size; omega
                  have hGM : g3 ≠ bM := by omega
                  have HMB := hide (heap_grow hbme b3')
                  have hI : [] ++ us.take q ++ [(h, m0, m1)] ++ us.drop q = insM us q (h, m0, m1) := by simp [insM]
                  rw [hI] at r3
                  have BB := belT BE.out b3'
                  clear hI gr1 gr2 gr3
                  have hIL : (insM us q (h, m0, m1)).length = us.length + 1 := by simp [insM]; omega
                  have hIH := hide hIL
                  clear hIL
                  go_wp2
                  go_meet
                  case rel => exact ⟨g3, c3, insM us q (h, m0, m1), by rw [hIH.out], HAS.out, r3, BB, hG, hGM, by rw [hIH.out]; omega, HMB⟩
          case rest =>
          obtain ⟨gN, cN, vs, rfl, HU, RN, BN, hgN, hgM, hlu, HMN⟩ := hcut
          have HHN := hide (show heirL o m0 m1 0 hs L = heirL o m0 m1 h (hs.drop (j + 1)) vs by rw [HHH.out, HST2.out, HU.out])
          rw [← HPV.out] at HHN
          refine hK9 _ _ ?_
          go_wp2
          go_roundw
          case rel => exact hide ⟨j + 1, gN, cN, vs.length, vs, by omega, by go_num, rfl, rfl, RN.out, by omega, HHN.out, hgN, hgM, HMN.out, BN.out⟩
          case measure => simp [intOf]; omega
        · have hok' : (inB h 1 999 && decide (h ≠ o) && decide (pv < h)) = false := by simpa using hok
          have eR : RES = none := by rw [HRS.out, HHH.out, HST.out, if_neg hok]; rfl
          rw [hok']
          clear hok hok' HST HHH HRS
          go_wp2
          refine bodyPost_ret (by simp [results, Try.results43, go_sem, *]; try rfl) rfl ?_
          rw [eR]
          exact GivesO.none (rowSc.out.holds (base := w.heap.size) hn.symm (by omega)) BWc.out
      · have hjn : j = nh := by omega
        have HFI := hide (show RES = okM (some us) by rw [HRS.out, HHH.out, List.drop_of_length_le (by omega)]; rfl)
        have hRV := hide (show Calls Try.prog 21 #[.slice (some ⟨g, 0, none⟩) m c] wr fun e w' => Rets wr (.bool (rightsM us)) e w' from by
          have := specRightsOk_any (some ⟨g, 0, none⟩) c us wr RU.rd3 (by omega)
          rw [hum] at this; exact this)
        have HXV := hide (show RES = if rightsM us then some us else none by rw [HFI.out]; rfl)
        have RUH := hide RU
        generalize rightsM us = RV at *
        clear HFI HRS RU
        go_wp2_with fail
        (with_reducible refine hRV.out.mono ?_)
        rintro e w9 ⟨rfl, hb9⟩
        have b9 := belT BWr.out hb9
        have rU9 := RUH.out.below hb9
        have rS9 := rowSr.out.below hb9
        cases RV
        · go_wp2
          refine bodyPost_ret (by simp [results, Try.results43, go_sem, *]; try rfl) rfl ?_
          rw [HXV.out]
          exact GivesO.none (rS9.holds (base := w.heap.size) hn.symm (by omega)) b9
        · go_wp2
          refine bodyPost_ret (by simp [results, Try.results43, go_sem, *]; try rfl) rfl ?_
          rw [HXV.out]
          exact GivesO.some (rU9.holds (base := w.heap.size) hum.symm (by omega)) b9

end Go.Proofs.Ytjcoajaoofjjmaa
