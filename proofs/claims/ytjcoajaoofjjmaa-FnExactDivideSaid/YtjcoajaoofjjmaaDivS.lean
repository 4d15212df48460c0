/- Divide: the reference's function. -/
import Derived.Test.YtjcoajaoofjjmaaDiv
import Derived.Test.YtjcoajaoofjjmaaGive
namespace Go.Proofs.Ytjcoajaoofjjmaa
set_option linter.unusedSimpArgs false
set_option linter.unusedVariables false
open Go.RowKit

structure DivS (base : Nat) (w0 : World) (ts : List T3) (W : Int) (k : Nat) (v u : Value) (x : Int) (wr : World) : Prop where
  own1 : OwnsI base wr v ((flsL W ts).take k)
  own2 : OwnsI base wr u ((rstL W ts).take k)
  two : v.ownBlock = none ∨ v.ownBlock ≠ u.ownBlock
  two' : u.ownBlock = none ∨ u.ownBlock ≠ v.ownBlock
  left : x = W - ((flsL W ts).take k).sum
  bel : Below base w0 wr
  bd : -10000000000 * (k : Int) ≤ x ∧ x ≤ 1000000

theorem bestD_two {ts : List T3} (h : DivH ts) {W : Int} {t k : Nat} (hk : k < ts.length) :
    ((0 ≤ (rsAt ts W t).getD k 0 ∧ (bestD ts W t k < 0 ∨ (rsAt ts W t).getD (bestD ts W t k).toNat 0 * btD ts k < (rsAt ts W t).getD k 0 * btD ts (bestD ts W t k))) → bestD ts W t (k + 1) = (k : Int)) ∧
    (¬ (0 ≤ (rsAt ts W t).getD k 0 ∧ (bestD ts W t k < 0 ∨ (rsAt ts W t).getD (bestD ts W t k).toNat 0 * btD ts k < (rsAt ts W t).getD k 0 * btD ts (bestD ts W t k))) → bestD ts W t (k + 1) = bestD ts W t k) := by
  rw [bestD_step h hk]
  exact ⟨fun h => if_pos h, fun h => if_neg h⟩

theorem rs_bd {ts : List T3} (h : DivH ts) (W : Int) (t k : Nat) (hk : k < ts.length) : -1 ≤ (rsAt ts W t).getD k 0 ∧ (rsAt ts W t).getD k 0 ≤ 10000 := by
  rcases setsM_or (-1) k ((divR ts W).take t) (rstL W ts) with e | e | e
  · unfold rsAt
    rw [e]
    have h0 := rst_nonneg h W k hk
    refine ⟨by omega, ?_⟩
    rw [rst_get W ts k hk]
    obtain ⟨x1, x2, x3, x4, x5⟩ := h.mem _ (getD_mem3' hk)
    have := Int.emod_lt_of_pos (W * (ts.getD k default).2.1) (show 0 < (ts.getD k default).2.2 by omega)
    omega
  · unfold rsAt; rw [e]; omega
  · simp [rstL] at e; omega

theorem muls {x y : Int} (h1 : -1 ≤ x) (h2 : x ≤ 10000) (h3 : 1 ≤ y) (h4 : y ≤ 10000) : -10000 ≤ x * y ∧ x * y ≤ 100000000 := by
  rcases Int.lt_or_le x 0 with h | h
  · have : x = -1 := by omega
    subst this; omega
  · have := mulb h h2 (show 0 ≤ y by omega) h4; omega

structure DivT (base : Nat) (w : World) (ts : List T3) (W : Int) (g1 c1 g2 c2 t : Nat) (wr : World) : Prop where
  own1 : OwnsI base wr (.slice (some ⟨g1, 0, none⟩) ts.length c1) (divAt ts W t)
  own2 : OwnsI base wr (.slice (some ⟨g2, 0, none⟩) ts.length c2) (rsAt ts W t)
  bel : Below base w wr

theorem DivT.below {base : Nat} {w : World} {ts : List T3} {W : Int} {g1 c1 g2 c2 t : Nat} {wr w2 : World} (h : DivT base w ts W g1 c1 g2 c2 t wr) (hb : base ≤ w.heap.size) (hw : Below wr.heap.size wr w2) : DivT base w ts W g1 c1 g2 c2 t w2 :=
  ⟨h.own1.below hw, h.own2.below hw, h.bel.trans (hw.mono (Nat.le_trans hb h.bel.size))⟩

set_option maxRecDepth 100000 in
set_option maxHeartbeats 40000000 in
theorem specDivide_any (a : Option Addr) (cap : Nat) (ts : List T3) (W : Int) (w : World) (hc : Rd3 w a ts) (hn : ts.length ≤ 1048576) :
    Calls Try.prog 37 #[.slice a ts.length cap, .int .i64 W] w fun e w' => GivesI (divM ts W) w e w' := by
  have b0 : Below w.heap.size w (w.alloc (.cells #[] 3)) := (by repeat first | exact Below.refl _ _ | assumption | (refine belA ?_) | (refine belD ?_) | (refine belN ?_) | (refine belS ?_ (by simp <;> omega)) | (refine belT ?_ (by assumption)))
  have hc0 := hc.below b0
  have own0 := OwnsI.empty w.heap.size w (Nat.le_refl _)
  have HR := hide (specRightsOk_any a cap ts _ hc0 hn)
  by_cases hd : rightsM ts = true
  case neg =>
    have hd' : rightsM ts = false := by simpa using hd
    have HM := hide (show divM ts W = [] by simp [divM, hd'])
    rw [hd'] at HR
    go_enter Try.func37, Try.ntmps37
    go_wp2_with fail
    (with_reducible refine (HR.out).mono ?_)
    rintro e w1 ⟨rfl, hb1⟩
    go_wp2
    go_ret
    exact ⟨_, rfl, by rw [HM.out]; exact own0.below hb1, belT b0 hb1⟩
  rw [hd] at HR
  by_cases hwi : inB W 0 1000000 = true
  case neg =>
    have hwi' : inB W 0 1000000 = false := by simpa using hwi
    have HM := hide (show divM ts W = [] by simp [divM, hwi'])
    go_enter Try.func37, Try.ntmps37
    go_wp2_with fail
    (with_reducible refine (HR.out).mono ?_)
    rintro e w1 ⟨rfl, hb1⟩
    go_wp2_with (first | (go_at_call 57; refine (l01In_any _ _ _ _).mono ?_; rintro e w2 ⟨rfl, rfl⟩))
    go_ret
    exact ⟨_, rfl, by rw [HM.out]; exact own0.below hb1, belT b0 hb1⟩
  have HM := hide (show divM ts W = divGo ts W by simp [divM, hd, hwi])
  have DH := hide (divH_of hd)
  have hw := inB_iff.1 hwi
  have hl12 := DH.out.l2
  have hl1 := DH.out.l1
  go_enter Try.func37, Try.ntmps37
  go_wp2_with fail
  (with_reducible refine (HR.out).mono ?_)
  rintro e w1 ⟨rfl, hb1⟩
  have own1 := (own0.below hb1).below (w' := w1.alloc (.cells #[] 3)) ((Below.refl _ _).alloc (Nat.le_refl _) _)
  have hs1 := (belT b0 hb1).size
  have own2 := OwnsI.empty w.heap.size w1 hs1
  have b1 : Below w.heap.size w (w1.alloc (.cells #[] 3)) := belA (belT b0 hb1)
  have hg1 : w.heap.size < w1.heap.size := by have := hb1.size; simp at this; omega
  clear HR hb1 b0 hc0 own0
  go_wp2_with (first | (go_at_call 57; refine (l01In_any _ _ _ _).mono ?_; rintro e w2 ⟨rfl, rfl⟩))
  obtain ⟨w0, hw0⟩ : ∃ w0 : World, w0 = w1.alloc (.cells #[] 3) := ⟨_, rfl⟩
  rw [← hw0] at own1 own2 b1
  rw [← hw0]
  clear hw0
  go_loopw [5, 6, 7, 8] (fun v q u i wr => ∃ (k : Nat) (x : Int), k ≤ ts.length ∧ i = .int .i64 k ∧ q = .int .i64 x ∧ Hid (DivS w.heap.size w ts W k v u x wr)) (fun _ _ _ i _ => ts.length - (intOf i).toNat)
  case atStart => exact ⟨0, W, Nat.zero_le _, rfl, rfl, ⟨own1, own2, .inr (by simp [Value.ownBlock]; omega), .inr (by simp [Value.ownBlock]; omega), by simp, b1, by omega⟩⟩
  case round =>
    clear own1 own2 b1
    obtain ⟨k, x, hk, rfl, rfl, HP⟩ := hrel
    by_cases hlt : k < ts.length
    · obtain ⟨b, off, rfl, hcell, hcell1, hcell2⟩ := (hc.below HP.out.bel) k hlt
      have hx := DH.out.mem _ (getD_mem3' hlt)
      have HST := hide (fls_step W ts k hlt)
      have HR := hide (rst_step W ts k hlt)
      have HL1 := hide (show ((flsL W ts).take k).length = k by simp [flsL]; omega)
      have HL2 := hide (show ((rstL W ts).take k).length = k by simp [rstL]; omega)
      have bl := World.block_lt_of_cell? _ _ hcell
      simp at bl
      generalize ts.getD k default = t at *
      obtain ⟨t0, y, z⟩ := t
      simp only at hcell hcell1 hcell2 hx HST HR
      obtain ⟨x1, x2, x3, x4, x5⟩ := hx
      have m1 := mulb hw.1 hw.2 (show 0 ≤ y by omega) x2
      have q1 := Int.ediv_nonneg m1.1 (by omega : 0 ≤ z)
      have q2 : W * y / z ≤ 10000000000 := Int.le_trans (Int.ediv_le_self _ m1.1) (by omega)
      have s1 : IntKind.i64.wrap (W * y) = W * y := IntWalk.i64_in _ (by omega)
      have s2 : IntKind.i64.wrap ((W * y).tdiv z) = W * y / z := by rw [Int.tdiv_eq_ediv_of_nonneg m1.1]; exact IntWalk.i64_in _ (by omega)
      have s3 : ¬ z = 0 := by omega
      have s4 : (W * y).tmod z = W * y % z := Int.tmod_eq_emod_of_nonneg m1.1
      have r1 := Int.emod_nonneg (W * y) s3
      have r2 := Int.emod_lt_of_pos (W * y) (show 0 < z by omega)
      have s6 : IntKind.i64.wrap (W * y % z) = W * y % z := IntWalk.i64_in _ (by omega)
      obtain ⟨o1, o2, t1, t2, ex, bel, bd⟩ := HP.out
      have bs := bel.size
      have hA : Below wr.heap.size wr (wr.alloc (.cells #[.int .i64 y, .int .i64 z] 25)) := belA (Below.refl _ _)
      have O1 := hide (o1.below hA)
      have O2 := hide (o2.below hA)
      have BL := hide (bel.trans (hA.mono bs))
      have NV := hide (fun k hk => (o1.lt k hk).2)
      have NU := hide (fun k hk => (o2.lt k hk).2)
      have T2 := hide t2
      have EX := hide ex
      have cA0 : (wr.alloc (.cells #[.int .i64 y, .int .i64 z] 25)).cell? ⟨wr.heap.size, 0, none⟩ = some (.int .i64 y) := by simp [cell_of_block (blk_new wr _ _)]
      have cA1 : (wr.alloc (.cells #[.int .i64 y, .int .i64 z] 25)).cell? ⟨wr.heap.size, 1, none⟩ = some (.int .i64 z) := by simp [cell_of_block (blk_new wr _ _)]
      have CA0 := hide cA0
      have CA1 := hide cA1
      have bsA := BL.out.size
      clear t1 t2 ex HP o1 o2 bel hA cA0 cA1
      generalize (flsL W ts).take k = A at *
      generalize (rstL W ts).take k = R at *
      go_wp2_with (first
        | (at_builtin; refine append1B rfl _ _ rfl w.heap.size _ A k (W * y / z) _ ?_ O1.out HL1.out rfl rfl (by omega) bsA ?_; (focus (simp; done)); intro g1 c1 w1 ow1 gr1 sh1; have TW := hide (two_go1 O1.out O2.out T2.out BL.out (Nat.le_refl _) gr1 sh1); have OW1 := hide ow1; have bs1 := TW.out.2.2.size; have cf0 := grown_cell gr1 CA0.out (fun e => by have := NV.out _ e; omega); have cf1 := grown_cell gr1 CA1.out (fun e => by have := NV.out _ e; omega); have lf := World.block_lt_of_cell? _ _ cf0; simp only at lf; clear ow1 gr1 sh1 O1)
        | (at_builtin; refine append1L rfl _ _ rfl w.heap.size _ R k (W * y % z) TW.out.1 HL2.out rfl rfl (by omega) bs1 ?_; intro g2 c2 w2 ow2 gr2 sh2; have TV := hide (two_go2 OW1.out TW.out.1 TW.out.2.1 TW.out.2.2 (Nat.le_refl _) gr2 sh2); have OW2 := hide ow2; have bs2 := TV.out.2.2.size; have ce0 := grown_cell gr2 cf0 (fun e => by have := NU.out _ e; omega); have ce1 := grown_cell gr2 cf1 (fun e => by have := NU.out _ e; omega); clear ow2 gr2 sh2)
        | fail)
      go_roundw
      case rel => exact ⟨k + 1, x - W * y / z, by omega, by go_num, by go_num, ⟨by rw [HST.out]; exact TV.out.1, by rw [HR.out]; exact OW2.out, .inr fun e => TV.out.2.1 (by simpa [Value.ownBlock] using e), .inr fun e => TV.out.2.1 (by simpa [Value.ownBlock] using e.symm), by rw [HST.out, EX.out]; simp; omega, TV.out.2.2, by omega⟩⟩
      case measure => simp [intOf]; omega
    · have hkn : k = ts.length := by omega
      subst hkn
      obtain ⟨o1, o2, t1, t2, ex, bel, bd⟩ := HP.out
      clear HP
      rw [List.take_of_length_le (by rw [fls_length]; exact Nat.le_refl _)] at ex o1
      rw [List.take_of_length_le (by rw [rst_length]; exact Nat.le_refl _)] at o2
      have hl1' := fls_length W ts
      have hl2 := rst_length W ts
      rcases o2.cases with ⟨_, h0⟩ | ⟨g2, c2, rfl, hg2, p2⟩
      · exfalso
        rw [h0] at hl2; simp only [List.length_nil] at hl2; omega
      rcases o1.cases with ⟨_, h0⟩ | ⟨g1, c1, rfl, hg1', p1⟩
      · exfalso
        rw [h0] at hl1'; simp only [List.length_nil] at hl1'; omega
      have hne : g1 ≠ g2 := by
        intro e
        rcases t1 with t | t
        · cases t
        · exact t (by rw [e]; rfl)
      obtain ⟨L0, hLn⟩ := divL_bd DH.out W
      have hxL : x = ((divL ts W).toNat : Int) := by
        rw [Int.toNat_of_nonneg L0, ex]; rfl
      have HG := hide (fun t (ht : t < ts.length) => div_go DH.out W ht)
      have HBE := hide (fun t i (ht : t < ts.length) (hi : (divR ts W).getD t 0 = ((i : Nat) : Int)) => bestD_end DH.out W ht hi)
      have HE := hide (show divAt ts W (divL ts W).toNat = divGo ts W from rfl)
      have HPL := hide (fun t => divAt_length ts W t)
      have HRL := hide (fun t => rsAt_length ts W t)
      rw [hl1'] at o1 ⊢
      rw [hl2] at o2 ⊢
      have H0 : divAt ts W 0 = flsL W ts := rfl
      have R0 : rsAt ts W 0 = rstL W ts := rfl
      rw [← H0] at o1
      rw [← R0] at o2
      have OW1 := hide o1
      have OW2 := hide o2
      have BL := hide bel
      generalize (divL ts W).toNat = Ln at *
      clear o1 o2 p1 p2 H0 R0 ex hl1' hl2 t1 t2 bel bd
      subst hxL
      go_wp2
      have PT := hide (⟨OW1.out, OW2.out, BL.out⟩ : DivT w.heap.size w ts W g1 c1 g2 c2 0 _)
      clear OW1 OW2 BL
      go_loopw [6] (fun q wr => ∃ t : Nat, t ≤ Ln ∧ q = .int .i64 ((Ln : Int) - t) ∧ Hid (DivT w.heap.size w ts W g1 c1 g2 c2 t wr)) (fun q _ => (intOf q).toNat)
      case atStart => exact ⟨0, Nat.zero_le _, by simp, PT⟩
      case round =>
        clear PT
        obtain ⟨t, ht, rfl, PT⟩ := hrel
        by_cases htL : t < Ln
        · have d1 : (0 : Int) < (Ln : Int) - (t : Int) := by omega
          go_wp2
          go_loopw [10, 11] (fun b i wr2 => ∃ k : Nat, k ≤ ts.length ∧ i = .int .i64 k ∧ b = .int .i64 (bestD ts W t k) ∧ Hid (DivT w.heap.size w ts W g1 c1 g2 c2 t wr2)) (fun _ i _ => ts.length - (intOf i).toNat)
          case atStart => exact ⟨0, Nat.zero_le _, rfl, rfl, PT⟩
          case round =>
            clear PT
            obtain ⟨k, hk, rfl, rfl, PT⟩ := hrel
            by_cases hlt : k < ts.length
            · have HBS := hide (bestD_two DH.out (W := W) (t := t) hlt)
              have HBD := bestD_bd DH.out W t k (by omega)
              have HB1 := HBD.1
              have HB2 := HBD.2.1
              clear HBD
              have pr := PT.out.own2.ownP.2.2.cell
              have prk := pr k (by rw [HRL.out]; exact hlt)
              obtain ⟨b, off, rfl, hcell, hcell1, hcell2⟩ := (hc.below PT.out.bel) k hlt
              have HC := hide ((hc.below PT.out.bel))
              have ik : (k : Int) < (ts.length : Int) := by omega
              have rk := rs_bd DH.out W t k hlt
              have HRB := hide (fun j (hj : j < ts.length) => rs_bd DH.out W t j hj)
              have bx : ∀ m : Nat, (m : Int) = bestD ts W t k → _ := fun m (e : (m : Int) = bestD ts W t k) => pr m (by rw [HRL.out]; omega)
              clear pr
              have BX := hide bx
              clear bx
              have hbk := bt_get ts k hlt
              have hmk := DH.out.mem _ (getD_mem3' hlt)
              rw [← hbk] at hcell2 hmk
              generalize btD ts (k : Int) = bk at *
              generalize bestD ts W t k = m at *
              have l2 := World.block_lt_of_cell? _ _ prk
              have l3 := World.block_lt_of_cell? _ _ hcell2
              simp at l2 l3
              generalize hr : (rsAt ts W t).getD k 0 = r at *
              clear hbk hcell hcell1
              by_cases h1 : 0 ≤ r
              · by_cases h3 : m < 0
                · have HN := hide (HBS.out.1 ⟨h1, .inl h3⟩)
                  clear HBS BX
                  go_wp2
                  (refine wp_region_g [0, 1, 2, 3, 4, 5, 6, 7, 8, 9, 10, 11, 12, 13, 14, 15, 16, 17, 18, 19, 20, 21, 22, 23, 24, 25, 26, 27, 28, 29, 30, 31, 32, 33] [] (by kernel_rfl) (by kernel_rfl) ?_; simp only [pick, List.map_cons, List.map_nil, Array.getD_eq_getD_getElem?, List.getElem?_toArray, List.getElem?_cons_zero, List.getElem?_cons_succ, Option.getD_some]; (iterate 34 (refine wpG_step (fun K hK => ?_); go_simp; first | (refine hK _ ?_; clear hK K) | (apply Exists.intro; refine ⟨fun _ => ?_, hK _ ?_⟩; (fail); clear hK K))); refine wpG_nil ?_)
                  intro w2 hb2
                  have PT2 := hide (PT.out.below (Nat.le_refl _) (below_of_inC hb2))
                  clear PT hb2
                  go_wp2
                  go_roundw
                  case rel => exact ⟨k + 1, by omega, by go_num, by rw [HN.out], PT2⟩
                  case measure => simp [intOf]; omega
                · obtain ⟨mi, rfl⟩ := Int.eq_ofNat_of_zero_le (show 0 ≤ m by omega)
                  have pm := BX.out mi rfl
                  clear BX
                  have hmi : mi < ts.length := by omega
                  have im : (mi : Int) < (ts.length : Int) := by omega
                  have i0 : (0 : Int) ≤ (mi : Int) := by omega
                  obtain ⟨b', off', e', _, _, hcellm⟩ := HC.out mi hmi
                  cases e'
                  have hbm := bt_get ts mi hmi
                  have hmm := DH.out.mem _ (getD_mem3' hmi)
                  rw [← hbm] at hcellm hmm
                  have rm' := HRB.out mi hmi
                  simp only [Int.toNat_natCast] at HBS
                  generalize (rsAt ts W t).getD mi 0 = rm at *
                  generalize btD ts (mi : Int) = bm at *
                  have u1 := muls rm'.1 rm'.2 hmk.2.2.1 hmk.2.2.2.1
                  have u2 := muls rk.1 rk.2 hmm.2.2.1 hmm.2.2.2.1
                  have s1 : IntKind.i64.wrap (rm * bk) = rm * bk := IntWalk.i64_in _ (by omega)
                  have s2 : IntKind.i64.wrap (r * bm) = r * bm := IntWalk.i64_in _ (by omega)
                  clear hbm hmm hmk
                  by_cases h4 : rm * bk < r * bm
                  · have HN := hide (HBS.out.1 ⟨h1, .inr h4⟩)
                    clear HBS
                    go_wp2
                    (refine wp_region_g [0, 1, 2, 3, 4, 5, 6, 7, 8, 9, 10, 11, 12, 13, 14, 15, 16, 17, 18, 19, 20, 21, 22, 23, 24, 25, 26, 27, 28, 29, 30, 31, 32, 33] [] (by kernel_rfl) (by kernel_rfl) ?_; simp only [pick, List.map_cons, List.map_nil, Array.getD_eq_getD_getElem?, List.getElem?_toArray, List.getElem?_cons_zero, List.getElem?_cons_succ, Option.getD_some]; (iterate 34 (refine wpG_step (fun K hK => ?_); go_simp; first | (refine hK _ ?_; clear hK K) | (apply Exists.intro; refine ⟨fun _ => ?_, hK _ ?_⟩; (fail); clear hK K))); refine wpG_nil ?_)
                    intro w2 hb2
                    have PT2 := hide (PT.out.below (Nat.le_refl _) (below_of_inC hb2))
                    clear PT hb2
                    go_wp2
                    go_roundw
                    case rel => exact ⟨k + 1, by omega, by go_num, by rw [HN.out], PT2⟩
                    case measure => simp [intOf]; omega
                  · have HN := hide (HBS.out.2 (by rintro ⟨_, h | h⟩; exact h3 h; exact h4 h))
                    clear HBS
                    go_wp2
                    (refine wp_region_g [0, 1, 2, 3, 4, 5, 6, 7, 8, 9, 10, 11, 12, 13, 14, 15, 16, 17, 18, 19, 20, 21, 22, 23, 24, 25, 26, 27, 28, 29, 30, 31, 32, 33] [] (by kernel_rfl) (by kernel_rfl) ?_; simp only [pick, List.map_cons, List.map_nil, Array.getD_eq_getD_getElem?, List.getElem?_toArray, List.getElem?_cons_zero, List.getElem?_cons_succ, Option.getD_some]; (iterate 34 (refine wpG_step (fun K hK => ?_); go_simp; first | (refine hK _ ?_; clear hK K) | (apply Exists.intro; refine ⟨fun _ => ?_, hK _ ?_⟩; (fail); clear hK K))); refine wpG_nil ?_)
                    intro w2 hb2
                    have PT2 := hide (PT.out.below (Nat.le_refl _) (below_of_inC hb2))
                    clear PT hb2
                    go_wp2
                    go_roundw
                    case rel => exact ⟨k + 1, by omega, by go_num, by rw [HN.out], PT2⟩
                    case measure => simp [intOf]; omega
              · have HN := hide (HBS.out.2 (by rintro ⟨h, _⟩; exact h1 h))
                clear HBS BX
                have h1e : decide (0 ≤ r) = false := decide_eq_false h1
                have h1x : ¬ 0 ≤ r := h1
                go_wp2
                (refine wp_region_g [0, 1, 2, 3, 4, 5, 6, 7, 8, 9, 10, 11, 12, 13, 14, 15, 16, 17, 18, 19, 20, 21, 22, 23, 24, 25, 26, 27, 28, 29, 30, 31, 32, 33] [] (by kernel_rfl) (by kernel_rfl) ?_; simp only [pick, List.map_cons, List.map_nil, Array.getD_eq_getD_getElem?, List.getElem?_toArray, List.getElem?_cons_zero, List.getElem?_cons_succ, Option.getD_some]; (iterate 34 (refine wpG_step (fun K hK => ?_); go_simp; first | (refine hK _ ?_; clear hK K) | (apply Exists.intro; refine ⟨fun _ => ?_, hK _ ?_⟩; (fail); clear hK K))); refine wpG_nil ?_)
                intro w2 hb2
                have PT2 := hide (PT.out.below (Nat.le_refl _) (below_of_inC hb2))
                clear PT hb2
                go_wp2
                go_roundw
                case rel => exact ⟨k + 1, by omega, by go_num, by rw [HN.out], PT2⟩
                case measure => simp [intOf]; omega
            · have hkn : k = ts.length := by omega
              subst hkn
              obtain ⟨i, e0, hin, e1, e4, f2⟩ := HG.out t (by omega)
              have f1 := HBE.out t i (by omega) e0
              rw [f1]
              have po := PT.out.own1.ownP.2.2.cell i (by rw [HPL.out]; exact hin)
              rw [e1] at po
              have pf := PT.out.own1.ownP.2.2.frozen i
              have S1 := PT.out.own1.stored' (HPL.out _) i ((flsL W ts).getD i 0 + 1)
              rw [← e4] at S1
              have K2' := PT.out.own2.kept (grownBy_set _ g1 i (.int .i64 ((flsL W ts).getD i 0 + 1))) (.inr fun e => hne (by simpa [Value.ownBlock] using e.symm))
              have qr := K2'.ownP.2.2.cell i (by rw [HRL.out]; exact hin)
              have qf := K2'.ownP.2.2.frozen i
              have S2 := K2'.stored' (HRL.out _) i (-1)
              rw [← f2] at S2
              have K1' := S1.kept (grownBy_set _ g2 i (.int .i64 (-1))) (.inr fun e => hne (by simpa [Value.ownBlock] using e))
              have PT2 := hide (⟨K1', S2, (PT.out.bel.grown (grownBy_set _ g1 i _) PT.out.bel.size (fun k hk => by injection hk with hk; omega)).grown (grownBy_set _ g2 i _) (by simpa using PT.out.bel.size) (fun k hk => by injection hk with hk; omega)⟩ : DivT w.heap.size w ts W g1 c1 g2 c2 (t + 1) _)
              have fb : 0 ≤ (flsL W ts).getD i 0 ∧ (flsL W ts).getD i 0 ≤ 10000000000 := by
                rw [fls_get W ts i hin]
                obtain ⟨x1, x2, x3, x4, x5⟩ := DH.out.mem _ (getD_mem3' hin)
                have m1 := mulb hw.1 hw.2 (show 0 ≤ (ts.getD i default).2.1 by omega) x2
                exact ⟨Int.ediv_nonneg m1.1 (by omega), Int.le_trans (Int.ediv_le_self _ m1.1) (by omega)⟩
              clear S1 S2 K1' K2' e1 e4 f1 f2
              generalize (flsL W ts).getD i 0 = f at *
              generalize (rsAt ts W t).getD i 0 = r at *
              have i1 : (i : Int) < (ts.length : Int) := by omega
              go_wp2
              go_roundw
              case rel => exact ⟨t + 1, by omega, by congr 1; omega, PT2⟩
              case measure => simp [intOf]; omega
        · have htt : t = Ln := by omega
          subst htt
          go_wp2
          go_ret
          exact ⟨_, rfl, by rw [HM.out, ← HE.out]; exact PT.out.own1, PT.out.bel⟩

end Go.Proofs.Ytjcoajaoofjjmaa
