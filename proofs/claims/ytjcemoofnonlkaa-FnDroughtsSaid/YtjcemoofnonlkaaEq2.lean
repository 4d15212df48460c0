/- Equal parts: the program's function. -/
import Derived.Test.YtjcemoofnonlkaaEq
import Derived.Laws.EntriesVeiled
namespace Go.Proofs.Ytjcemoofnonlkaa
set_option linter.unusedSimpArgs false
set_option linter.unusedVariables false
open Go.RowKit

theorem epGo_step (c h left : Int) (l : List Int) : epGo (c :: l) h left = (if h < c ∧ 0 < left then (min h c + 1) :: epGo l h (left - 1) else min h c :: epGo l h left) := rfl

set_option maxHeartbeats 1000000 in
theorem implEqualParts_any (a : Option Addr) (cap : Nat) (xs : List Int) (water : Int) (w : World) (hc : Rd w a xs) (hn : xs.length ≤ 1048576) :
    Calls Try.prog 32 #[.slice a xs.length cap, .int .i64 water] w fun e w' => GivesI (epM xs water) w e w' := by
  have b0 : Below w.heap.size w ((w.alloc (.cells #[.slice a xs.length cap] 25)).alloc (.cells #[.int .i64 water] 3)) := (by repeat first | exact Below.refl _ _ | assumption | (refine belA ?_) | (refine belD ?_) | (refine belN ?_) | (refine belS ?_ (by simp <;> omega)) | (refine belT ?_ (by assumption)))
  have hc0 := hc.below b0
  by_cases hd : dryM xs water = true
  · have hs := dryM_spec hd
    have hsum := dry_sum hd
    have HB := hide hs.1.2.2
    have HBB := hide (dry_big hd)
    have hw := hs.2
    have hlen := hs.1.1
    have hlen' := hs.1.2.1
    have HD := hide hd
    clear hs
    go_enter Try.func32, Try.ntmps32
    go_wp2_with (first | (go_at_call 51; refine (implDryOk_any _ _ _ _ _ hc0 hn).mono ?_; rintro e w2 ⟨rfl, rfl⟩))
    (refine wp_region_g [0, 1, 2, 3] [] (by kernel_rfl) (by kernel_rfl) ?_; simp only [pick, List.map_cons, List.map_nil, Array.getD_eq_getD_getElem?, List.getElem?_toArray, List.getElem?_cons_zero, List.getElem?_cons_succ, Option.getD_some]; (iterate 4 (refine wpG_step (fun K hK => ?_); go_simp; first | (refine hK _ ?_; clear hK K) | (apply Exists.intro; refine ⟨fun _ => ?_, hK _ ?_⟩; ((go_at_call 52; exact same_g (sumOf_any a cap xs _ (hc0.below (below_grew _ _)) hn HBB.out))); clear hK K))); refine wpG_nil ?_)
    (refine wpT_end ?_; intro w2 hbr _; obtain ⟨hcb, hfb⟩ := bcell hbr; have hzr := hbr.size; (try simp at hzr); (try (refine ltk (a := w.heap.size) (b := w2.heap.size) ?_ ?_; (focus omega); intro _ _)); (try (refine ltk (a := w.heap.size + 1) (b := w2.heap.size) ?_ ?_; (focus omega); intro _ _)); (try (refine ltk (a := w.heap.size + 2) (b := w2.heap.size) ?_ ?_; (focus omega); intro _ _)); (try (refine ltk (a := w.heap.size + 3) (b := w2.heap.size) ?_ ?_; (focus omega); intro _ _)))
    have b2 := belT b0 hbr
    have hc2 := hc.below b2
    by_cases hle : xs.sum ≤ water
    · have HM := hide (show epM xs water = xs by simp [epM, HD.out, hle])
      go_wp2_with (go_at_call 55; refine (copyInts_any a cap xs _ hc2 hn (by intro e; subst e; simp at hlen)).mono ?_; rintro e w3 ⟨v3, rfl, hown3, hb3⟩)
      go_ret
      exact ⟨v3, rfl, by rw [HM.out]; exact hown3.mono b2.size, (by repeat first | exact Below.refl _ _ | assumption | (refine belA ?_) | (refine belD ?_) | (refine belN ?_) | (refine belS ?_ (by simp <;> omega)) | (refine belT ?_ (by assumption)))⟩
    · have HL := hide (lev_at HD.out hle)
      have HM := hide (show epM xs water = epGo xs (lev xs water 80000) (water - under xs (lev xs water 80000)) by simp [epM, HD.out, hle])
      have k0 : w2.cell? ⟨w.heap.size, 0, none⟩ = some (.slice a xs.length cap) := cellB hbr (by simp [go_sem])
      have k1 : w2.cell? ⟨w.heap.size + 1, 0, none⟩ = some (.int .i64 water) := cellB hbr (by simp [go_sem])
      go_wp2_with fail
      generalize hW3 : w2.alloc (.cells #[.func (.func 56) #[] #[.pointer (some ⟨w.heap.size, 0, none⟩)]] 41) = w3
      have b23 : Below w2.heap.size w2 w3 := by subst hW3; exact (Below.refl _ _).alloc (Nat.le_refl _) _
      have k2 : w3.cell? ⟨w2.heap.size, 0, none⟩ = some (.func (.func 56) #[] #[.pointer (some ⟨w.heap.size, 0, none⟩)]) := by subst hW3; simp [go_sem]
      clear hW3
      have k0 := cellB b23 k0
      have k1 := cellB b23 k1
      have hc3 := hc2.below b23
      have b3 := belT b2 b23
      refine (least_any 0 80000 _ _ (fun m => decide (water < under xs m)) w3 (by omega) (by omega) (by omega) (fun W m hW hm0 hm1 => enough_any m water w.heap.size (w.heap.size + 1) w2.heap.size cap a xs W (cellB hW k0) (hc3.below hW) hn (by omega) (by omega) HB.out (cellB hW k1) (cellB hW k2))).mono ?_
      rintro e w4 ⟨r, hr0, hr1, hr2, hr3, rfl, hb4⟩
      go_wp2_with fail
      obtain ⟨hl0, hl1, hl2, hl3⟩ := HL.out
      have hz := under_zero xs (fun x hx => (HB.out x hx).1)
      have ht := under_top xs 80000 80000 (fun x hx => (HB.out x hx).2) (Int.le_refl _)
      have hr4 : r ≠ 0 := by
        intro e; subst e
        rcases hr3 with hr3 | hr3
        · omega
        · simp at hr3; omega
      have hr5 : ¬ water < under xs (r - 1) := by
        rcases hr2 with hr2 | hr2
        · exact absurd hr2 hr4
        · simpa using hr2
      have hr6 : r ≠ 80001 := by
        intro e; subst e
        simp at hr5; omega
      have hr7 : water < under xs r := by
        rcases hr3 with hr3 | hr3
        · omega
        · simpa using hr3
      have HV := hide (lev_unique xs water 80000 (r - 1) (by omega) (by simp; omega) (by omega) (by rw [Int.sub_add_cancel]; exact hr7))
      clear hr2 hr3 hz ht hl0 hl1 hl2 hl3 HL
      have k0 := cellB hb4 k0
      have k1 := cellB hb4 k1
      have k2 := cellB hb4 k2
      have hc4 := hc3.below hb4
      have b4 := belT b3 hb4
      have l0 := World.block_lt_of_cell? _ _ k0
      have l1 := World.block_lt_of_cell? _ _ k1
      have l2 := World.block_lt_of_cell? _ _ k2
      simp at l0 l1 l2
      have hub := under_bound xs (r - 1) 80000 (by omega) (by omega) HB.out
      generalize hh : r - 1 = h at *
      have HH := hide hh
      have hh0 : 0 ≤ h := by omega
      have hh1 : h < 80000 := by omega
      clear hh
      have s1 := IntWalk.i64_in (water - under xs h) (by omega)
      (refine wp_region_g [0, 1, 2, 3, 4, 5] [] (by kernel_rfl) (by kernel_rfl) ?_; simp only [pick, List.map_cons, List.map_nil, Array.getD_eq_getD_getElem?, List.getElem?_toArray, List.getElem?_cons_zero, List.getElem?_cons_succ, Option.getD_some]; (iterate 6 (refine wpG_step (fun K hK => ?_); go_simp; first | (refine hK _ ?_; clear hK K) | (apply Exists.intro; refine ⟨fun _ => ?_, hK _ ?_⟩; ((go_at_call 56; exact same_g (filled_any h w.heap.size cap a xs _ ((cell_grew _ _ _ _ l0).trans k0) (hc4.below (below_grew _ _)) hn hh0 (by omega) HB.out))); clear hK K))); refine wpG_nil ?_)
      clear s1
      (refine wpT_end ?_; intro w5 hbr _; obtain ⟨hcb, hfb⟩ := bcell hbr; have hzr := hbr.size; (try simp at hzr); (try (refine ltk (a := w.heap.size) (b := w5.heap.size) ?_ ?_; (focus omega); intro _ _)); (try (refine ltk (a := w.heap.size + 1) (b := w5.heap.size) ?_ ?_; (focus omega); intro _ _)); (try (refine ltk (a := w.heap.size + 2) (b := w5.heap.size) ?_ ?_; (focus omega); intro _ _)); (try (refine ltk (a := w.heap.size + 3) (b := w5.heap.size) ?_ ?_; (focus omega); intro _ _)))
      have k0 := cellB hbr k0
      have b5 := belT b4 hbr
      have hc5 := hc4.below hbr
      generalize hu : under xs h = u at *
      have HU := hide hu
      clear hu
      have hu1 : 0 ≤ water - u := by omega
      have hu2 : water - u ≤ 1000000 := by omega
      clear hr5 hr7 hub k1 k2
      go_wp2
      go_loopw [7, 8, 33] (fun q v i wr => ∃ (k : Nat) (x : Int) (ys : List Int), k ≤ xs.length ∧ i = .int .i64 k ∧ q = .int .i64 x ∧ 0 ≤ x ∧ x ≤ 1000000 ∧ ys.length = k ∧ OwnsI w.heap.size wr v ys ∧ epGo xs h (water - u) = ys ++ epGo (xs.drop k) h x ∧ Below w.heap.size w wr) (fun _ _ i _ => xs.length - (intOf i).toNat)
      case atStart => exact ⟨0, water - u, [], Nat.zero_le _, rfl, rfl, hu1, hu2, rfl, OwnsI.nil _ _, rfl, b5⟩
      case round =>
        obtain ⟨k, x, ys, hk, rfl, rfl, hx0, hx1, hyl, hown, hr, hbel⟩ := hrel
        have HR := hide hr
        clear hr
        by_cases hlt : k < xs.length
        · obtain ⟨b, off, rfl, hcell⟩ := hc.below hbel k hlt
          have hx := HB.out _ (getD_mem' hlt)
          have HD' := hide (drop_getD xs k hlt)
          generalize xs.getD k 0 = c at *
          have hyl' : ys.length ≤ 12 := by omega
          have HL' := hide hyl
          clear hyl
          by_cases htake : h < c ∧ 0 < x
          · have hm : (if h < c then h else c) = min h c := by split <;> omega
            have HE := hide (show epGo (c :: xs.drop (k + 1)) h x = (min h c + 1) :: epGo (xs.drop (k + 1)) h (x - 1) by rw [epGo_step, if_pos htake])
            obtain ⟨ht1, ht2⟩ := htake
            have hmin : min h c = h := by omega
            have HMI := hide hmin
            clear hmin hm
            go_wp2_with (first
              | (at_builtin; refine append1 rfl _ _ rfl w.heap.size _ ys _ hown rfl rfl (by omega) hbel.size ?_; intro v1 w1 hown1 hbel1))
            go_roundw
            case rel => exact ⟨k + 1, x - 1, ys ++ [h + 1], by omega, by go_num, rfl, by omega, by omega, by simp [HL'.out], hown1, by rw [HR.out, HD'.out, HE.out, HMI.out]; simp, hbel.trans hbel1⟩
            case measure => simp [intOf]; omega
          · have HE := hide (show epGo (c :: xs.drop (k + 1)) h x = min h c :: epGo (xs.drop (k + 1)) h x by rw [epGo_step, if_neg htake])
            have hm : (if h < c then h else c) = min h c := by split <;> omega
            have HMI := hide hm
            clear hm
            go_wp2_with (first
              | (at_builtin; refine append1 rfl _ _ rfl w.heap.size _ ys _ hown rfl rfl (by omega) hbel.size ?_; intro v1 w1 hown1 hbel1))
            all_goals
              go_roundw
              case rel => exact ⟨k + 1, x, ys ++ [min h c], by omega, by go_num, rfl, by omega, by omega, by simp [HL'.out], by first | (rw [show min h c = h by omega]; exact hown1) | (rw [show min h c = (if c < h then c else h) by split <;> omega]; exact hown1), by rw [HR.out, HD'.out, HE.out]; simp, hbel.trans hbel1⟩
              case measure => simp [intOf]; omega
        · go_wp2
          go_ret
          refine ⟨_, rfl, ?_, hbel⟩
          rw [HM.out, HV.out, HU.out, HR.out, List.drop_of_length_le (by omega)]
          simpa [epGo] using hown
  · have HM := hide (show epM xs water = [] by simp [epM, hd])
    go_enter Try.func32, Try.ntmps32
    go_wp2_with (first | (go_at_call 51; refine (implDryOk_any _ _ _ _ _ hc0 hn).mono ?_; rintro e w2 ⟨rfl, rfl⟩))
    go_ret
    exact ⟨_, rfl, by rw [HM.out]; exact OwnsI.nil _ _, (by repeat first | exact Below.refl _ _ | assumption | (refine belA ?_) | (refine belD ?_) | (refine belN ?_) | (refine belS ?_ (by simp <;> omega)) | (refine belT ?_ (by assumption)))⟩

end Go.Proofs.Ytjcemoofnonlkaa
