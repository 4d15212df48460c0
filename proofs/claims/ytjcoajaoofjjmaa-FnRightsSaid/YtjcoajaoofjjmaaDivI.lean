/- Divide: the program's function. -/
import Derived.Test.YtjcoajaoofjjmaaDiv
import Derived.Test.YtjcoajaoofjjmaaGive
namespace Go.Proofs.Ytjcoajaoofjjmaa
set_option linter.unusedSimpArgs false
set_option linter.unusedVariables false
open Go.RowKit

theorem partOf_at {y z W q : Int} (h : partM y z W = q) (w : World) : Calls Try.prog 63 #[.agg #[.int .i64 y, .int .i64 z], .int .i64 W] w fun e w' => Rets w (.int .i64 q) e w' := by
  subst h; exact implPartOf_any y z W w

set_option maxHeartbeats 4000000 in
theorem implDivide_any (a : Option Addr) (cap : Nat) (ts : List T3) (W : Int) (w : World) (hc : Rd3 w a ts) (hn : ts.length ≤ 1048576) :
    Calls Try.prog 38 #[.slice a ts.length cap, .int .i64 W] w fun e w' => GivesI (divM ts W) w e w' := by
  obtain ⟨w0, hw0⟩ : ∃ w0 : World, w0 = (w.alloc (.cells #[.slice a ts.length cap] 28)).alloc (.cells #[.int .i64 W] 3) := ⟨_, rfl⟩
  obtain ⟨k2, k3, bw, sz⟩ := two_boxes _ _ _ _ _ _ hw0
  have hcw := hc.below bw
  have HR := hide (implRightsOk_any a cap ts w0 hcw hn)
  rw [hw0] at HR
  by_cases hd : rightsM ts = true
  case neg =>
    have hd' : rightsM ts = false := by simpa using hd
    have HM := hide (show divM ts W = [] by simp [divM, hd'])
    rw [hd'] at HR
    clear k2 k3 sz
    go_enter Try.func38, Try.ntmps38
    go_wp2_with fail
    (with_reducible refine (HR.out).mono ?_)
    rintro e w1 ⟨rfl, hb1⟩
    go_wp2
    go_ret
    exact ⟨_, rfl, by rw [HM.out]; exact OwnsI.nil _ _, belT (by rw [hw0] at bw; exact bw) hb1⟩
  rw [hd] at HR
  by_cases hwi : inB W 0 1000000 = true
  case neg =>
    have hwi' : inB W 0 1000000 = false := by simpa using hwi
    have HM := hide (show divM ts W = [] by simp [divM, hwi'])
    rw [hw0] at bw k3
    go_enter Try.func38, Try.ntmps38
    go_wp2_with fail
    (with_reducible refine (HR.out).mono ?_)
    rintro e w1 ⟨rfl, hb1⟩
    have k3' := cellB hb1 k3
    clear k2 k3 sz
    go_wp2_with (first | (go_at_call 58; refine (within_any _ _ _ _).mono ?_; rintro e w2 ⟨rfl, rfl⟩))
    go_ret
    exact ⟨_, rfl, by rw [HM.out]; exact OwnsI.nil _ _, belT bw hb1⟩
  have HM := hide (show divM ts W = divGo ts W by simp [divM, hd, hwi])
  have DH := hide (divH_of hd)
  have hw := inB_iff.1 hwi
  rw [hw0] at bw k2 k3 hcw
  clear hw0 sz w0
  go_enter Try.func38, Try.ntmps38
  go_wp2_with fail
  (with_reducible refine (HR.out).mono ?_)
  rintro e w0 ⟨rfl, hb1⟩
  have k2' := cellB hb1 k2
  have k3' := cellB hb1 k3
  have bw0 := belT bw hb1
  have hc0 := hc.below bw0
  clear k2 k3 HR hb1 bw hcw
  have K2 := hide (show ∀ V, Below w0.heap.size w0 V → V.cell? ⟨w.heap.size, 0, none⟩ = some (.slice a ts.length cap) ∧ V.cell? ⟨w.heap.size + 1, 0, none⟩ = some (.int .i64 W) from fun V hb =>
    ⟨cellB hb k2', cellB hb k3'⟩)
  go_wp2_with (first | (go_at_call 58; refine (within_any _ _ _ _).mono ?_; rintro e w2 ⟨rfl, rfl⟩))
  clear k2' k3'
  have hl12 := DH.out.l2
  have hl1 := DH.out.l1
  go_loopw [5, 6, 7, 24] (fun v u q i wr => ∃ (k : Nat) (x : Int), k ≤ ts.length ∧ i = .int .i64 k ∧ q = .int .i64 x ∧ Hid (DivI w0.heap.size w0 ts W k v u x wr)) (fun _ _ _ i _ => ts.length - (intOf i).toNat)
  case atStart => exact ⟨0, W, Nat.zero_le _, rfl, rfl, ⟨OwnsI.nil _ _, OwnsI.nil _ _, .inl rfl, .inl rfl, by simp, Below.refl _ _, by omega⟩⟩
  case round =>
    obtain ⟨k, x, hk, rfl, rfl, HP⟩ := hrel
    obtain ⟨k2, k3⟩ := K2.out _ HP.out.bel
    have l2 := World.block_lt_of_cell? _ _ k2
    have l3 := World.block_lt_of_cell? _ _ k3
    simp at l2 l3
    by_cases hlt : k < ts.length
    · obtain ⟨b, off, rfl, hcell, hcell1, hcell2⟩ := (hc0.below HP.out.bel) k hlt
      have hx := DH.out.mem _ (getD_mem3' hlt)
      have HST := hide (fls_step W ts k hlt)
      have HL1 := hide (show ((flsL W ts).take k).length = k by simp [flsL]; omega)
      have HL2 := hide (show ((List.range k).map fun i : Nat => (i : Int)).length = k by simp)
      have bl := World.block_lt_of_cell? _ _ hcell
      simp at bl
      generalize ts.getD k default = t at *
      obtain ⟨t0, y, z⟩ := t
      simp only at hcell hcell1 hcell2 hx
      obtain ⟨x1, x2, x3, x4, x5⟩ := hx
      have m1 := mulb hw.1 hw.2 (show 0 ≤ y by omega) x2
      have q1 := Int.ediv_nonneg m1.1 (by omega : 0 ≤ z)
      have q2 : W * y / z ≤ 10000000000 := Int.le_trans (Int.ediv_le_self _ m1.1) (by omega)
      have HPT := hide (partOf_at (show partM y z W = W * y / z by simp [partM, x5, hwi]))
      simp only at HST
      generalize W * y / z = q at *
      obtain ⟨o1, o2, t1, t2, ex, bel, bd⟩ := HP.out
      have hR : ((List.range (k + 1)).map fun i : Nat => (i : Int)) = ((List.range k).map fun i : Nat => (i : Int)) ++ [(k : Int)] := by rw [List.range_succ]; simp
      have HR := hide hR
      have bs := bel.size
      have O1 := hide o1
      have O2 := hide o2
      have T2 := hide t2
      have EX := hide ex
      have BL := hide bel
      clear t1 t2 ex HP o1 o2 bel hR
      generalize (flsL W ts).take k = A at *
      generalize ((List.range k).map fun i : Nat => (i : Int)) = R at *
      go_wp2_with fail
      refine (HPT.out _).mono ?_
      rintro e w2 ⟨rfl, hb2⟩
      have hbr := belT (belA (Below.refl _ _)) hb2
      replace O1 := hide (O1.out.below hbr)
      replace O2 := hide (O2.out.below hbr)
      replace BL := hide (BL.out.trans (hbr.mono bs))
      have bs := BL.out.size
      clear k2 k3 l2 l3 hcell hcell1 hcell2 bl HPT hb2 hbr
      go_wp2_with (first
        | (at_builtin; refine append1L rfl _ _ rfl w0.heap.size _ A k q O1.out HL1.out rfl rfl (by omega) bs ?_; intro g1 c1 w1 ow1 gr1 sh1; have TW := hide (two_go1 O1.out O2.out T2.out BL.out (Nat.le_refl _) gr1 sh1); have OW1 := hide ow1; have bs1 := TW.out.2.2.size; clear ow1 gr1 sh1 O1)
        | (at_builtin; refine append1L rfl _ _ rfl w0.heap.size _ R k (k : Int) TW.out.1 HL2.out rfl rfl (by omega) bs1 ?_; intro g2 c2 w2 ow2 gr2 sh2; have TV := hide (two_go2 OW1.out TW.out.1 TW.out.2.1 TW.out.2.2 (Nat.le_refl _) gr2 sh2); have OW2 := hide ow2; have bs2 := TV.out.2.2.size; clear ow2 gr2 sh2)
        | fail)
      go_roundw
      case rel => exact ⟨k + 1, x - q, by omega, by go_num, by go_num, ⟨by rw [HST.out]; exact TV.out.1, by rw [HR.out]; exact OW2.out, .inr fun e => TV.out.2.1 (by simpa [Value.ownBlock] using e), .inr fun e => TV.out.2.1 (by simpa [Value.ownBlock] using e.symm), by rw [HST.out, EX.out]; simp; omega, TV.out.2.2, by omega⟩⟩
      case measure => simp [intOf]; omega
    · have hkn : k = ts.length := by omega
      subst hkn
      go_wp2_with fail
      obtain ⟨o1, o2, t1, t2, ex, bel, bd⟩ := HP.out
      clear HP
      have hfl : (flsL W ts).take ts.length = flsL W ts := List.take_of_length_le (by simp [flsL])
      rw [hfl] at ex o1
      have hl1' := fls_length W ts
      have hl2 : ((List.range ts.length).map fun i : Nat => (i : Int)).length = ts.length := by simp
      rcases o2.cases with ⟨_, h0⟩ | ⟨g2, c2, rfl, hg2, p2⟩
      · exfalso
        rw [h0] at hl2; simp only [List.length_nil] at hl2; omega
      rcases o1.cases with ⟨_, h0⟩ | ⟨g1, c1, rfl, hg1, p1⟩
      · exfalso
        rw [h0] at hl1'; simp only [List.length_nil] at hl1'; omega
      have hcap := o2.cap
      have hne : g1 ≠ g2 := by
        intro e
        rcases t1 with t | t
        · cases t
        · exact t (by rw [e]; rfl)
      have hRm : ∀ x ∈ ((List.range ts.length).map fun i : Nat => (i : Int)), 0 ≤ x ∧ x < (ts.length : Int) := fun z hz => by
        obtain ⟨i, hi, rfl⟩ := List.mem_map.1 hz
        have := List.mem_range.1 hi; omega
      have hB0 := fun (V : World) (hb : wr.grownBy V (some g2)) => (bel.grown hb bel.size (fun k hk => by injection hk with hk; omega) : Below w0.heap.size w0 V)
      have hst := stableDivide_any (fun p q => if keyM (rstL W ts) q * btD ts p < keyM (rstL W ts) p * btD ts q then -1 else if keyM (rstL W ts) p * btD ts q < keyM (rstL W ts) q * btD ts p then 1 else 0) g2 c2 3 _ (ts.length : Int)
        #[.pointer (some ⟨w.heap.size, 0, none⟩), .pointer (some ⟨w.heap.size + 1, 0, none⟩)] wr p2 hRm (by rw [hl2]; omega)
        (fun V hb p q p0 p1 q0 q1 => divCmp_any _ _ cap a ts W V (K2.out V (hB0 V hb)).1 (K2.out V (hB0 V hb)).2 (hc0.below (hB0 V hb)) DH.out hw p q p0 p1 q0 q1)
      have hgt : (fun p q => decide ((if keyM (rstL W ts) q * btD ts p < keyM (rstL W ts) p * btD ts q then (-1 : Int) else if keyM (rstL W ts) p * btD ts q < keyM (rstL W ts) q * btD ts p then 1 else 0) < 0)) = gtD ts W := by
        funext p q
        unfold gtD
        by_cases h1 : keyM (rstL W ts) q * btD ts p < keyM (rstL W ts) p * btD ts q
        · simp [h1]
        · by_cases h2 : keyM (rstL W ts) p * btD ts q < keyM (rstL W ts) q * btD ts p
          · simp [h1, h2]
          · simp [h1, h2]
      rw [hgt] at hst
      have hPP : insAll (gtD ts W) ((List.range ts.length).map fun i : Nat => (i : Int)) = divR ts W := rfl
      rw [hPP] at hst
      rw [hl2] at hst
      have o1' := fun (V : World) (hb : wr.grownBy V (some g2)) => o1.kept hb (.inr fun e => hne (by simpa [Value.ownBlock] using e))
      obtain ⟨L0, hLn⟩ := divL_bd DH.out W
      have hxL : x = ((divL ts W).toNat : Int) := by
        rw [Int.toNat_of_nonneg L0, ex]; rfl
      have HG := hide (fun t (ht : t < ts.length) => div_go DH.out W ht)
      have HE := hide (show divAt ts W (divL ts W).toNat = divGo ts W from rfl)
      have H0 := hide (show divAt ts W 0 = flsL W ts from rfl)
      have HPL := hide (fun t => divAt_length ts W t)
      have HRL := hide (divR_length ts W)
      generalize (divL ts W).toNat = Ln at *
      rw [hl1', hl2]
      rw [hl1', ← H0.out] at o1'
      have HO1 := hide o1'
      have HB0 := hide hB0
      have hcap2 : Ln ≤ c2 := by omega
      clear o1 o1' o2 p1 p2 hB0 hPP hgt hRm ex hl1' hl2 t1 t2
      refine hst.mono ?_
      rintro e w2 ⟨rfl, S⟩
      have OW1 := hide (HO1.out w2 S.grw)
      have OW2 := hide S.own
      have BL2 := hide (HB0.out w2 S.grw)
      clear S hst HO1 HB0 k2 k3 l2 l3 bel bd
      subst hxL
      go_wp2
      go_loopw [52] (fun i wr' => ∃ (t : Nat), t ≤ Ln ∧ i = .int .i64 t ∧ Hid (OwnsI w0.heap.size wr' (.slice (some ⟨g1, 0, none⟩) ts.length c1) (divAt ts W t) ∧ w2.grownBy wr' (some g1))) (fun i _ => Ln - (intOf i).toNat)
      case atStart => exact ⟨0, Nat.zero_le _, rfl, OW1.out, grownBy_refl _ _⟩
      case round =>
        obtain ⟨t, ht, rfl, HI⟩ := hrel
        have BL3 := hide (BL2.out.grown HI.out.2 BL2.out.size (fun k hk => by injection hk with hk; omega) : Below w0.heap.size w0 _)
        by_cases htn : t < Ln
        · have pt := (OW2.out.grown HI.out.2 (fun e => hne e.symm)).cell t (by rw [HRL.out]; omega)
          obtain ⟨i, e0, hin, e1, e4, _⟩ := HG.out t (by omega)
          rw [e0] at pt
          have po := HI.out.1.ownP.2.2.cell i (by rw [HPL.out]; exact hin)
          have pf := HI.out.1.ownP.2.2.frozen i
          rw [e1] at po
          have hset := HI.out.1.stored' (HPL.out _) i ((flsL W ts).getD i 0 + 1)
          rw [← e4] at hset
          have HSET := hide hset
          have GR := hide HI.out.2
          have fb : 0 ≤ (flsL W ts).getD i 0 ∧ (flsL W ts).getD i 0 ≤ 10000000000 := by
            rw [fls_get W ts i hin]
            obtain ⟨x1, x2, x3, x4, x5⟩ := DH.out.mem _ (getD_mem3' hin)
            have m1 := mulb hw.1 hw.2 (show 0 ≤ (ts.getD i default).2.1 by omega) x2
            exact ⟨Int.ediv_nonneg m1.1 (by omega), Int.le_trans (Int.ediv_le_self _ m1.1) (by omega)⟩
          clear hset e1 e4 e0 HI HG
          generalize (flsL W ts).getD i 0 = f at *
          have l7 := World.block_lt_of_cell? _ _ po
          simp at l7
          have i1 : (i : Int) < (ts.length : Int) := by omega
          go_wp2
          go_roundw
          case rel => exact ⟨t + 1, by omega, by go_num, HSET.out, grownBy_trans GR.out (grownBy_set wr g1 i (.int .i64 (f + 1)))⟩
          case measure => simp [intOf]; omega
        · have htt : t = Ln := by omega
          subst htt
          go_wp2
          go_ret
          refine ⟨_, rfl, ?_, (belT bw0 BL3.out)⟩
          rw [HM.out, ← HE.out]
          exact HI.out.1.mono (bw0.size)

end Go.Proofs.Ytjcoajaoofjjmaa
