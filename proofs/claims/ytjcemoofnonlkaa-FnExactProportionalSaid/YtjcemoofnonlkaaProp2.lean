/- Proportional: the reference's function. -/
import Derived.Test.YtjcemoofnonlkaaProp
import Derived.Test.YtjcemoofnonlkaaEq3
namespace Go.Proofs.Ytjcemoofnonlkaa
set_option linter.unusedSimpArgs false
set_option linter.unusedVariables false
open Go.RowKit

theorem rest_step (xs : List Int) (water all : Int) (k : Nat) (h : k < xs.length) : (rests xs water all).take (k + 1) = (rests xs water all).take k ++ [water * xs.getD k 0 % all] := by
  rw [List.take_add_one]
  congr 1
  simp [rests, List.getD_eq_getElem?_getD, h]

structure PropS (base : Nat) (w0 : World) (xs : List Int) (water all : Int) (k : Nat) (v u : Value) (x : Int) (wr : World) : Prop where
  own1 : OwnsI base wr v ((floors xs water all).take k)
  own2 : OwnsI base wr u ((rests xs water all).take k)
  two : v.ownBlock = none ∨ v.ownBlock ≠ u.ownBlock
  two' : u.ownBlock = none ∨ u.ownBlock ≠ v.ownBlock
  left : x = water - ((floors xs water all).take k).sum
  bel : Below base w0 wr
  bd : -80000000000 * (k : Int) ≤ x ∧ x ≤ 1000000

theorem best_two {xs : List Int} {water : Int} {t k : Nat} (hk : k < xs.length) :
    ((0 ≤ (restAt xs water t).getD k 0 ∧ (propAt xs water t).getD k 0 < xs.getD k 0 ∧ (bestAt xs water t k < 0 ∨ (restAt xs water t).getD (bestAt xs water t k).toNat 0 < (restAt xs water t).getD k 0)) → bestAt xs water t (k + 1) = (k : Int)) ∧
    (¬ (0 ≤ (restAt xs water t).getD k 0 ∧ (propAt xs water t).getD k 0 < xs.getD k 0 ∧ (bestAt xs water t k < 0 ∨ (restAt xs water t).getD (bestAt xs water t k).toNat 0 < (restAt xs water t).getD k 0)) → bestAt xs water t (k + 1) = bestAt xs water t k) := by
  rw [best_step hk]
  exact ⟨fun h => if_pos h, fun h => if_neg h⟩

structure PropT (base : Nat) (w : World) (xs : List Int) (water : Int) (g1 c1 g2 c2 t : Nat) (wr : World) : Prop where
  own1 : OwnsI base wr (.slice (some ⟨g1, 0, none⟩) xs.length c1) (propAt xs water t)
  own2 : OwnsI base wr (.slice (some ⟨g2, 0, none⟩) xs.length c2) (restAt xs water t)
  bel : Below base w wr

theorem PropT.below {base : Nat} {w : World} {xs : List Int} {water : Int} {g1 c1 g2 c2 t : Nat} {wr w2 : World} (h : PropT base w xs water g1 c1 g2 c2 t wr) (hb : base ≤ w.heap.size) (hw : Below wr.heap.size wr w2) : PropT base w xs water g1 c1 g2 c2 t w2 :=
  ⟨h.own1.below hw, h.own2.below hw, h.bel.trans (hw.mono (Nat.le_trans hb h.bel.size))⟩

set_option maxHeartbeats 40000000 in
theorem specProportional_any (a : Option Addr) (cap : Nat) (xs : List Int) (water : Int) (w : World) (hc : Rd w a xs) (hn : xs.length ≤ 1048576) :
    Calls Try.prog 37 #[.slice a xs.length cap, .int .i64 water] w fun e w' => GivesI (propM xs water) w e w' := by
  have b0 : Below w.heap.size w (w.alloc (.cells #[] 3)) := (by repeat first | exact Below.refl _ _ | assumption | (refine belA ?_) | (refine belD ?_) | (refine belN ?_) | (refine belS ?_ (by simp <;> omega)) | (refine belT ?_ (by assumption)))
  have hc0 := hc.below b0
  have own0 := OwnsI.empty w.heap.size w (Nat.le_refl _)
  by_cases hd : dryM xs water = true
  case neg =>
    have HM := hide (show propM xs water = [] by simp [propM, hd])
    go_enter Try.func37, Try.ntmps37
    go_wp2_with (first | (go_at_call 49; refine (specDryOk_any _ _ _ _ _ hc0 hn).mono ?_; rintro e w2 ⟨rfl, rfl⟩))
    go_ret
    exact ⟨_, rfl, by rw [HM.out]; exact own0, b0⟩
  have hs := dryM_spec hd
  have hsum := dry_sum hd
  have HB := hide hs.1.2.2
  have HBB := hide (dry_big hd)
  have hw := hs.2
  have hlen := hs.1.1
  have hlen' := hs.1.2.1
  have HNE := hide (show xs ≠ [] by intro e; subst e; simp at hlen)
  have HD := hide hd
  clear hs
  by_cases hle : xs.sum ≤ water
  case pos =>
    have HM := hide (show propM xs water = xs by simp [propM, HD.out, hle])
    go_enter Try.func37, Try.ntmps37
    go_wp2_with (first
      | (go_at_call 49; refine (specDryOk_any _ _ _ _ _ hc0 hn).mono ?_; rintro e w2 ⟨rfl, rfl⟩)
      | (go_at_call 50; refine (l06Sum_any _ _ _ _ hc0 hn HBB.out).mono ?_; rintro e w2 ⟨rfl, rfl⟩)
      | (at_builtin; refine appendAll rfl _ _ rfl w.heap.size _ [] xs a cap own0 hc0 rfl rfl HNE.out (by simp; omega) (by simp) ?_; intro v1 w1 hown1 hbel1))
    go_ret
    exact ⟨_, rfl, by rw [HM.out]; simpa using hown1, b0.trans hbel1⟩
  have HM := hide (show propM xs water = propGo xs water by simp [propM, HD.out, hle])
  have PH := hide (propH_of HD.out hle)
  go_enter Try.func37, Try.ntmps37
  go_wp2_with (first
    | (go_at_call 49; refine (specDryOk_any _ _ _ _ _ hc0 hn).mono ?_; rintro e w2 ⟨rfl, rfl⟩)
    | (go_at_call 50; refine (l06Sum_any _ _ _ _ hc0 hn HBB.out).mono ?_; rintro e w2 ⟨rfl, rfl⟩))
  have own1 := own0.below (w' := (w.alloc (.cells #[] 3)).alloc (.cells #[] 3)) ((Below.refl _ _).alloc (Nat.le_refl _) _)
  have own2 := OwnsI.empty w.heap.size (w.alloc (.cells #[] 3)) (by simp)
  have b1 : Below w.heap.size w ((w.alloc (.cells #[] 3)).alloc (.cells #[] 3)) := (by repeat first | exact Below.refl _ _ | assumption | (refine belA ?_) | (refine belD ?_) | (refine belN ?_) | (refine belS ?_ (by simp <;> omega)) | (refine belT ?_ (by assumption)))
  rw [World.size_alloc] at own2
  obtain ⟨w0, hw0⟩ : ∃ w0 : World, w0 = (w.alloc (.cells #[] 3)).alloc (.cells #[] 3) := ⟨_, rfl⟩
  rw [← hw0] at own1 own2 b1
  rw [← hw0]
  clear hw0 b0 hc0 own0
  have all0 : 0 < xs.sum := by omega
  generalize hall : xs.sum = all at *
  have HALL := hide hall
  clear hall
  go_loopw [5, 7, 8, 9] (fun v q u i wr => ∃ (k : Nat) (x : Int), k ≤ xs.length ∧ i = .int .i64 k ∧ q = .int .i64 x ∧ Hid (PropS w.heap.size w xs water all k v u x wr)) (fun _ _ _ i _ => xs.length - (intOf i).toNat)
  case atStart => exact ⟨0, water, Nat.zero_le _, rfl, rfl, ⟨own1, own2, .inr (by simp [Value.ownBlock]), .inr (by simp [Value.ownBlock]), by simp, b1, by omega⟩⟩
  case round =>
    clear own1 own2 b1
    obtain ⟨k, x, hk, rfl, rfl, HP⟩ := hrel
    by_cases hlt : k < xs.length
    · obtain ⟨b, off, rfl, hcell⟩ := (hc.below HP.out.bel) k hlt
      have hx := HB.out _ (getD_mem' hlt)
      have HST := hide (prop_step xs water all k hlt)
      have HR := hide (rest_step xs water all k hlt)
      have HL1 := hide (show ((floors xs water all).take k).length = k by simp [floors]; omega)
      have HL2 := hide (show ((rests xs water all).take k).length = k by simp [rests]; omega)
      generalize xs.getD k 0 = c at *
      have m1 := mulb hw.1 hw.2 hx.1 hx.2
      have q1 := Int.ediv_nonneg m1.1 (by omega : 0 ≤ all)
      have q2 : water * c / all ≤ 80000000000 := Int.le_trans (Int.ediv_le_self _ m1.1) (by omega)
      have s1 : IntKind.i64.wrap (water * c) = water * c := IntWalk.i64_in _ (by omega)
      have s2 : IntKind.i64.wrap ((water * c).tdiv all) = water * c / all := by rw [Int.tdiv_eq_ediv_of_nonneg m1.1]; exact IntWalk.i64_in _ (by omega)
      have s3 : ¬ all = 0 := by omega
      have s4 : (water * c).tmod all = water * c % all := Int.tmod_eq_emod_of_nonneg m1.1
      have r1 := Int.emod_nonneg (water * c) s3
      have r2 := Int.emod_lt_of_pos (water * c) all0
      have s6 : IntKind.i64.wrap (water * c % all) = water * c % all := IntWalk.i64_in _ (by omega)
      obtain ⟨o1, o2, t1, t2, ex, bel, bd⟩ := HP.out
      have bs := bel.size
      have O1 := hide o1
      have O2 := hide o2
      have T2 := hide t2
      have EX := hide ex
      have BL := hide bel
      clear t1 t2 ex HP o1 o2 bel
      generalize (floors xs water all).take k = A at *
      generalize (rests xs water all).take k = R at *
      go_wp2_with (first
        | (at_builtin; refine append1L rfl _ _ rfl w.heap.size _ A k (water * c / all) O1.out HL1.out rfl rfl (by omega) bs ?_; intro g1 c1 w1 ow1 gr1 sh1; have TW := hide (two_go1 O1.out O2.out T2.out BL.out (Nat.le_refl _) gr1 sh1); have OW1 := hide ow1; have bs1 := TW.out.2.2.size; clear ow1 gr1 sh1 O1)
        | (at_builtin; refine append1L rfl _ _ rfl w.heap.size _ R k (water * c % all) TW.out.1 HL2.out rfl rfl (by omega) bs1 ?_; intro g2 c2 w2 ow2 gr2 sh2; have TV := hide (two_go2 OW1.out TW.out.1 TW.out.2.1 TW.out.2.2 (Nat.le_refl _) gr2 sh2); have OW2 := hide ow2; have bs2 := TV.out.2.2.size; clear ow2 gr2 sh2)
        | fail)
      go_roundw
      case rel => exact ⟨k + 1, x - water * c / all, by omega, by go_num, by go_num, ⟨by rw [HST.out]; exact TV.out.1, by rw [HR.out]; exact OW2.out, .inr fun e => TV.out.2.1 (by simpa [Value.ownBlock] using e), .inr fun e => TV.out.2.1 (by simpa [Value.ownBlock] using e.symm), by rw [HST.out, EX.out]; simp; omega, TV.out.2.2, by omega⟩⟩
      case measure => simp [intOf]; omega
    · have hkn : k = xs.length := by omega
      subst hkn
      obtain ⟨o1, o2, t1, t2, ex, bel, bd⟩ := HP.out
      clear HP
      rw [List.take_of_length_le (by rw [floors_length]; exact Nat.le_refl _)] at ex o1
      rw [List.take_of_length_le (by simp [rests])] at o2
      have hl1 := floors_length xs water all
      have hl2 : (rests xs water all).length = xs.length := by simp [rests]
      rcases o2.cases with ⟨_, h0⟩ | ⟨g2, c2, rfl, hg2, p2⟩
      · exfalso
        rw [h0] at hl2; simp only [List.length_nil] at hl2; omega
      rcases o1.cases with ⟨_, h0⟩ | ⟨g1, c1, rfl, hg1, p1⟩
      · exfalso
        rw [h0] at hl1; simp only [List.length_nil] at hl1; omega
      have hne : g1 ≠ g2 := by
        intro e
        rcases t1 with t | t
        · cases t
        · exact t (by rw [e]; rfl)
      have hxL : x = ((propL xs water).toNat : Int) := by
        rw [Int.toNat_of_nonneg (propL_eq PH.out).1, ex]; unfold propL; rw [HALL.out]
      have hLn := propL_le PH.out
      have HG := hide (fun t (ht : t < (propL xs water).toNat) => prop_go PH.out ht)
      have HBE := hide (fun t i (ht : t < (propL xs water).toNat) (hi : (propR xs water).getD t 0 = ((i : Nat) : Int)) => best_end PH.out ht hi)
      have HE := hide (show propAt xs water (propL xs water).toNat = propGo xs water from rfl)
      have HPL := hide (fun t => propAt_length xs water t)
      have HRL := hide (fun t => restAt_length xs water t)
      rw [hl1] at o1 ⊢
      rw [hl2] at o2 ⊢
      have H0 : propAt xs water 0 = floors xs water all := by rw [← HALL.out]; rfl
      have R0 : restAt xs water 0 = rests xs water all := by rw [← HALL.out]; rfl
      rw [← H0] at o1
      rw [← R0] at o2
      have OW1 := hide o1
      have OW2 := hide o2
      have BL := hide bel
      generalize (propL xs water).toNat = Ln at *
      clear o1 o2 p1 p2 H0 R0 ex hl1 hl2 t1 t2 bel bd
      subst hxL
      go_wp2
      have PT := hide (⟨OW1.out, OW2.out, BL.out⟩ : PropT w.heap.size w xs water g1 c1 g2 c2 0 _)
      clear OW1 OW2 BL
      go_loopw [7] (fun q wr => ∃ t : Nat, t ≤ Ln ∧ q = .int .i64 ((Ln : Int) - t) ∧ Hid (PropT w.heap.size w xs water g1 c1 g2 c2 t wr)) (fun q _ => (intOf q).toNat)
      case atStart => exact ⟨0, Nat.zero_le _, by simp, PT⟩
      case round =>
        clear PT
        obtain ⟨t, ht, rfl, PT⟩ := hrel
        by_cases htL : t < Ln
        · have d1 : (0 : Int) < (Ln : Int) - (t : Int) := by omega
          go_wp2
          go_loopw [11, 12] (fun b i wr2 => ∃ k : Nat, k ≤ xs.length ∧ i = .int .i64 k ∧ b = .int .i64 (bestAt xs water t k) ∧ Hid (PropT w.heap.size w xs water g1 c1 g2 c2 t wr2)) (fun _ i _ => xs.length - (intOf i).toNat)
          case atStart => exact ⟨0, Nat.zero_le _, rfl, rfl, PT⟩
          case round =>
            clear PT
            obtain ⟨k, hk, rfl, rfl, PT⟩ := hrel
            by_cases hlt : k < xs.length
            · have HBS := hide (best_two (water := water) (t := t) hlt)
              have HBD := best_bd xs water t k (by omega)
              have HB1 := HBD.1
              have HB2 := HBD.2.1
              clear HBD
              have pr := PT.out.own2.ownP.2.2.cell
              have po := PT.out.own1.ownP.2.2.cell k (by rw [HPL.out]; exact hlt)
              have prk := pr k (by rw [HRL.out]; exact hlt)
              obtain ⟨b, off, rfl, hcell⟩ := (hc.below PT.out.bel) k hlt
              have ik : (k : Int) < (xs.length : Int) := by omega
              have bx : ∀ m : Nat, (m : Int) = bestAt xs water t k → _ := fun m (e : (m : Int) = bestAt xs water t k) => pr m (by rw [HRL.out]; omega)
              clear pr
              have BX := hide bx
              clear bx
              generalize bestAt xs water t k = m at *
              have l1 := World.block_lt_of_cell? _ _ po
              have l2 := World.block_lt_of_cell? _ _ prk
              have l3 := World.block_lt_of_cell? _ _ hcell
              simp at l1 l2 l3
              generalize hr : (restAt xs water t).getD k 0 = r at *
              generalize (propAt xs water t).getD k 0 = o at *
              generalize xs.getD k 0 = c at *
              by_cases h1 : 0 ≤ r
              · by_cases h2 : o < c
                · by_cases h3 : m < 0
                  · have HN := hide (HBS.out.1 ⟨h1, h2, .inl h3⟩)
                    clear HBS BX
                    go_wp2
                    (refine wp_region_g [0, 1, 2, 3, 4, 5, 6, 7, 8, 9, 10, 11, 12, 13, 14, 15, 16, 17, 18, 19, 20, 21, 22, 23, 24, 25, 26, 27, 28, 29, 30] [] (by kernel_rfl) (by kernel_rfl) ?_; simp only [pick, List.map_cons, List.map_nil, Array.getD_eq_getD_getElem?, List.getElem?_toArray, List.getElem?_cons_zero, List.getElem?_cons_succ, Option.getD_some]; (iterate 31 (refine wpG_step (fun K hK => ?_); go_simp; first | (refine hK _ ?_; clear hK K) | (apply Exists.intro; refine ⟨fun _ => ?_, hK _ ?_⟩; (fail); clear hK K))); refine wpG_nil ?_)
                    intro w2 hb2
                    have PT2 := hide (PT.out.below (Nat.le_refl _) (below_of_inC hb2))
                    clear PT hb2
                    go_wp2
                    go_roundw
                    case rel => exact ⟨k + 1, by omega, by go_num, by rw [HN.out], PT2⟩
                    case measure => simp [intOf]; omega
                  · obtain ⟨mi, rfl⟩ := Int.eq_ofNat_of_zero_le (show 0 ≤ m by omega)
                    have pm := BX.out mi rfl
                    clear BX
                    have im : (mi : Int) < (xs.length : Int) := by omega
                    have i0 : (0 : Int) ≤ (mi : Int) := by omega
                    simp only [Int.toNat_natCast] at HBS
                    generalize (restAt xs water t).getD mi 0 = rm at *
                    by_cases h4 : rm < r
                    · have HN := hide (HBS.out.1 ⟨h1, h2, .inr h4⟩)
                      clear HBS
                      go_wp2
                      (refine wp_region_g [0, 1, 2, 3, 4, 5, 6, 7, 8, 9, 10, 11, 12, 13, 14, 15, 16, 17, 18, 19, 20, 21, 22, 23, 24, 25, 26, 27, 28, 29, 30] [] (by kernel_rfl) (by kernel_rfl) ?_; simp only [pick, List.map_cons, List.map_nil, Array.getD_eq_getD_getElem?, List.getElem?_toArray, List.getElem?_cons_zero, List.getElem?_cons_succ, Option.getD_some]; (iterate 31 (refine wpG_step (fun K hK => ?_); go_simp; first | (refine hK _ ?_; clear hK K) | (apply Exists.intro; refine ⟨fun _ => ?_, hK _ ?_⟩; (fail); clear hK K))); refine wpG_nil ?_)
                      intro w2 hb2
                      have PT2 := hide (PT.out.below (Nat.le_refl _) (below_of_inC hb2))
                      clear PT hb2
                      go_wp2
                      go_roundw
                      case rel => exact ⟨k + 1, by omega, by go_num, by rw [HN.out], PT2⟩
                      case measure => simp [intOf]; omega
                    · have HN := hide (HBS.out.2 (by rintro ⟨_, _, h | h⟩; exact h3 h; exact h4 h))
                      clear HBS
                      go_wp2
                      (refine wp_region_g [0, 1, 2, 3, 4, 5, 6, 7, 8, 9, 10, 11, 12, 13, 14, 15, 16, 17, 18, 19, 20, 21, 22, 23, 24, 25, 26, 27, 28, 29, 30] [] (by kernel_rfl) (by kernel_rfl) ?_; simp only [pick, List.map_cons, List.map_nil, Array.getD_eq_getD_getElem?, List.getElem?_toArray, List.getElem?_cons_zero, List.getElem?_cons_succ, Option.getD_some]; (iterate 31 (refine wpG_step (fun K hK => ?_); go_simp; first | (refine hK _ ?_; clear hK K) | (apply Exists.intro; refine ⟨fun _ => ?_, hK _ ?_⟩; (fail); clear hK K))); refine wpG_nil ?_)
                      intro w2 hb2
                      have PT2 := hide (PT.out.below (Nat.le_refl _) (below_of_inC hb2))
                      clear PT hb2
                      go_wp2
                      go_roundw
                      case rel => exact ⟨k + 1, by omega, by go_num, by rw [HN.out], PT2⟩
                      case measure => simp [intOf]; omega
                · have HN := hide (HBS.out.2 (by rintro ⟨_, h, _⟩; exact h2 h))
                  clear HBS BX
                  have h2e : decide (o < c) = false := decide_eq_false h2
                  have h2x : ¬ o < c := h2
                  go_wp2
                  (refine wp_region_g [0, 1, 2, 3, 4, 5, 6, 7, 8, 9, 10, 11, 12, 13, 14, 15, 16, 17, 18, 19, 20, 21, 22, 23, 24, 25, 26, 27, 28, 29, 30] [] (by kernel_rfl) (by kernel_rfl) ?_; simp only [pick, List.map_cons, List.map_nil, Array.getD_eq_getD_getElem?, List.getElem?_toArray, List.getElem?_cons_zero, List.getElem?_cons_succ, Option.getD_some]; (iterate 31 (refine wpG_step (fun K hK => ?_); go_simp; first | (refine hK _ ?_; clear hK K) | (apply Exists.intro; refine ⟨fun _ => ?_, hK _ ?_⟩; (fail); clear hK K))); refine wpG_nil ?_)
                  intro w2 hb2
                  have PT2 := hide (PT.out.below (Nat.le_refl _) (below_of_inC hb2))
                  clear PT hb2
                  go_wp2
                  go_roundw
                  case rel => exact ⟨k + 1, by omega, by go_num, by rw [HN.out], PT2⟩
                  case measure => simp [intOf]; omega
              · have HN := hide (HBS.out.2 (by rintro ⟨h, _⟩; exact h1 h))
                clear HBS BX
                have h1e : decide (0 ≤ r) = false := decide_eq_false h1
                have h1x : ¬ 0 ≤ r := h1
                go_wp2
                (refine wp_region_g [0, 1, 2, 3, 4, 5, 6, 7, 8, 9, 10, 11, 12, 13, 14, 15, 16, 17, 18, 19, 20, 21, 22, 23, 24, 25, 26, 27, 28, 29, 30] [] (by kernel_rfl) (by kernel_rfl) ?_; simp only [pick, List.map_cons, List.map_nil, Array.getD_eq_getD_getElem?, List.getElem?_toArray, List.getElem?_cons_zero, List.getElem?_cons_succ, Option.getD_some]; (iterate 31 (refine wpG_step (fun K hK => ?_); go_simp; first | (refine hK _ ?_; clear hK K) | (apply Exists.intro; refine ⟨fun _ => ?_, hK _ ?_⟩; (fail); clear hK K))); refine wpG_nil ?_)
                intro w2 hb2
                have PT2 := hide (PT.out.below (Nat.le_refl _) (below_of_inC hb2))
                clear PT hb2
                go_wp2
                go_roundw
                case rel => exact ⟨k + 1, by omega, by go_num, by rw [HN.out], PT2⟩
                case measure => simp [intOf]; omega
            · have hkn : k = xs.length := by omega
              subst hkn
              obtain ⟨i, e0, hin, _, e1, e2, e3, e4⟩ := HG.out t htL
              obtain ⟨f1, f2⟩ := HBE.out t i htL e0
              rw [f1]
              have po := PT.out.own1.ownP.2.2.cell i (by rw [HPL.out]; exact hin)
              rw [e1] at po
              have pf := PT.out.own1.ownP.2.2.frozen i
              have S1 := PT.out.own1.stored' (HPL.out _) i ((floors xs water xs.sum).getD i 0 + 1)
              rw [← e4] at S1
              have K2' := PT.out.own2.kept (grownBy_set _ g1 i (.int .i64 ((floors xs water xs.sum).getD i 0 + 1))) (.inr fun e => hne (by simpa [Value.ownBlock] using e.symm))
              have qr := K2'.ownP.2.2.cell i (by rw [HRL.out]; exact hin)
              have qf := K2'.ownP.2.2.frozen i
              have S2 := K2'.stored' (HRL.out _) i (-1)
              rw [← f2] at S2
              have K1' := S1.kept (grownBy_set _ g2 i (.int .i64 (-1))) (.inr fun e => hne (by simpa [Value.ownBlock] using e))
              have PT2 := hide (⟨K1', S2, (PT.out.bel.grown (grownBy_set _ g1 i _) PT.out.bel.size (fun k hk => by injection hk with hk; omega)).grown (grownBy_set _ g2 i _) (by simpa using PT.out.bel.size) (fun k hk => by injection hk with hk; omega)⟩ : PropT w.heap.size w xs water g1 c1 g2 c2 (t + 1) _)
              have hxi := HB.out _ (getD_mem' hin)
              clear S1 S2 K1' K2' e1 e4 f1 f2
              generalize (floors xs water xs.sum).getD i 0 = f at *
              generalize (restAt xs water t).getD i 0 = r at *
              have i1 : (i : Int) < (xs.length : Int) := by omega
              go_wp2
              go_roundw
              case rel => exact ⟨t + 1, by omega, by congr 1; omega, PT2⟩
              case measure => simp [intOf]; omega
        · have htt : t = Ln := by omega
          subst htt
          go_wp2
          go_ret
          exact ⟨_, rfl, by rw [HM.out, ← HE.out]; exact PT.out.own1, PT.out.bel⟩

end Go.Proofs.Ytjcemoofnonlkaa
