/- slices.SortStableFunc at twelve numbers or fewer: the walk. -/
import Derived.Test.YtjcoajaoofjjmaaSortM
import Derived.Test.YtjcoajaoofjjmaaApp
import Derived.Test.YtjcoajaoofjjmaaReg2
import Derived.Deep.RegionLaw
import Derived.StillTailTactics
namespace Go.Proofs.Ytjcoajaoofjjmaa
set_option linter.unusedSimpArgs false
set_option linter.unusedVariables false
open Go.RowKit

/-- A drawn region: n operations that only read, then the others in their order. -/
theorem region_stillS {P : Program} {id : Nat} {Q : Exit → Act → World → Prop} {a : Act} {w : World} {l : List Oper} (n : Nat) (hm : P.follows .mixedOrders = true) (hB : Region.lexTailB .any l.toArray n = true)
    (h : ∀ w1, w1.heap = w.heap → (∀ b o, w1.cell? ⟨b, o, none⟩ = w.cell? ⟨b, o, none⟩) → (∀ b o, w1.frozen? ⟨b, o, none⟩ = w.frozen? ⟨b, o, none⟩) → Below w.heap.size w w1 → wpStill P l.toArray w1 (fun a' => wpList P l.toArray Q (l.drop n) a' w1) (l.take n) a) : (Code.region id l.toArray true).wp P Q a w :=
  wp_region_still_tail n hm hB (h _ rfl (fun _ _ => rfl) (fun _ _ => rfl) ⟨rfl, rfl, rfl, Nat.le_refl _, fun _ _ => rfl⟩)

theorem grownB {w W : World} {g : Nat} (h : Below w.heap.size w W) : w.grownBy W (some g) := ⟨h.os, h.tape, h.output, h.size, fun k hk _ => h.block k hk⟩

theorem idQs {Q : Ending → World → Prop} : ∀ e w', Q e w' → Q e w' := fun _ _ h => h

theorem cmp_int (x y : Int) (w : World) : Calls Try.prog 66 #[.int .i64 x, .int .i64 y] w fun e w' => e = .returned (.int .i64 (if x < y then -1 else if y < x then 1 else 0)) ∧ w = w' := by
  have hn : ∀ (z : Int) (W : World), Calls Try.prog 84 #[.int .i64 z] W fun e w' => e = .returned (.bool false) ∧ W = w' := by
    intro z W
    go_enter Try.func84, Try.ntmps84
    go_wp2
    go_ret
    exact ⟨rfl, rfl⟩
  by_cases h1 : x < y
  · go_enter Try.func66, Try.ntmps66
    go_wp2_with (first | (go_at_call 84; refine (hn _ _).mono ?_; rintro e w2 ⟨rfl, rfl⟩))
    go_ret
    exact ⟨by simp [h1], rfl⟩
  · by_cases h2 : y < x
    · go_enter Try.func66, Try.ntmps66
      go_wp2_with (first | (go_at_call 84; refine (hn _ _).mono ?_; rintro e w2 ⟨rfl, rfl⟩))
      go_ret
      exact ⟨by simp [h1, h2], rfl⟩
    · go_enter Try.func66, Try.ntmps66
      go_wp2_with (first | (go_at_call 84; refine (hn _ _).mono ?_; rintro e w2 ⟨rfl, rfl⟩))
      go_ret
      exact ⟨by simp [h1, h2], rfl⟩

structure Srt (w : World) (g : Nat) (T : TypeId) (m : Nat) (n : Int) (l : List Int) (wr : World) : Prop where
  len : l.length = m
  mem : ∀ x ∈ l, 0 ≤ x ∧ x < n
  own : OwnP wr g T l
  grw : w.grownBy wr (some g)

set_option maxHeartbeats 4000000 in
theorem insSortDivide_any (cf : Int → Int → Int) (g cap : Nat) (T : TypeId) (xs : List Int) (n : Int) (cb : Array Value) (w : World) (hown : OwnP w g T xs) (hx : ∀ x ∈ xs, 0 ≤ x ∧ x < n) (hl : xs.length ≤ 1000)
    (hcmp : ∀ W, w.grownBy W (some g) → ∀ x y : Int, 0 ≤ x → x < n → 0 ≤ y → y < n → Calls Try.prog 65 (#[.int .i64 x, .int .i64 y] ++ cb) W fun e w' => Rets W (.int .i64 (cf x y)) e w') :
    Calls Try.prog 89 #[.slice (some ⟨g, 0, none⟩) xs.length cap, .int .i64 0, .int .i64 xs.length, .func (.func 65) #[] cb] w fun e w' =>
      e = .returned (.tuple #[]) ∧ Srt w g T xs.length n (insAll (fun a b => decide (cf a b < 0)) xs) w' := by
  have HC := hide hcmp
  have S0 : Srt w g T xs.length n xs w := ⟨rfl, hx, hown, grownBy_refl _ _⟩
  clear hcmp hown hx
  generalize hlt : (fun a b => decide (cf a b < 0)) = lt
  obtain ⟨fin, hfin⟩ : ∃ f, f = insAll lt xs := ⟨_, rfl⟩
  have HI0 : Hid (insUp lt (xs.length - 1) 1 xs = fin) := hfin.symm
  rw [← hfin]
  clear hfin
  have HLT := hide (fun a b => (congrFun (congrFun hlt a) b).symm)
  clear hlt
  go_enter Try.func89, Try.ntmps89
  go_wp2
  go_loopw [8] (fun vi wr => ∃ (i : Nat) (l : List Int), vi = .int .i64 i ∧ 1 ≤ i ∧ i ≤ xs.length + 1 ∧ Hid (insUp lt (xs.length - i) i l = fin) ∧ Hid (Srt w g T xs.length n l wr)) (fun vi _ => xs.length + 1 - (intOf vi).toNat)
  case atStart => exact ⟨1, xs, rfl, Nat.le_refl _, by omega, HI0, hide S0⟩
  case round =>
    clear S0 HI0
    obtain ⟨i, l, rfl, hi1, hi2, HI, HS⟩ := hrel
    by_cases hlt : i < xs.length
    · go_wp2
      go_loopw [9] (fun vj wr => ∃ (j : Nat) (d : List Int), vj = .int .i64 j ∧ j ≤ i ∧ Hid (insDown lt j d = insDown lt i l) ∧ Hid (Srt w g T xs.length n d wr)) (fun vj _ => (intOf vj).toNat)
      case atStart => exact ⟨i, l, rfl, Nat.le_refl _, hide rfl, HS⟩
      case round =>
        clear HS
        obtain ⟨j, d, rfl, hji, HD, HS⟩ := hrel
        have hdl := HS.out.len
        have STOP : Hid (∀ b : Bool, (j = 0 ∨ ∃ jp, j = jp + 1 ∧ lt (d.getD (jp + 1) 0) (d.getD jp 0) = false) → insUp lt (xs.length - (i + 1)) (i + 1) d = fin) := by
          intro _ h
          have e : insDown lt j d = d := by
            rcases h with rfl | ⟨jp, rfl, h⟩
            · rfl
            · exact insDown_stop h
          rw [← HI.out, show xs.length - i = (xs.length - (i + 1)) + 1 by omega, insUp_go, ← HD.out, e]
        cases j with
        | zero =>
          have STOP0 : Hid (insUp lt (xs.length - (i + 1)) (i + 1) d = fin) := STOP.out true (.inl rfl)
          clear STOP
          go_wp2
          (refine wp_region_g [0, 1, 2, 3, 4, 5, 6, 7, 8, 9, 10, 11, 12, 13, 14, 15, 16] [] (by kernel_rfl) (by kernel_rfl) ?_; simp only [pick, List.map_cons, List.map_nil, Array.getD_eq_getD_getElem?, List.getElem?_toArray, List.getElem?_cons_zero, List.getElem?_cons_succ, Option.getD_some]; (iterate 17 (refine wpG_step (fun K hK => ?_); go_simp; first | (refine hK _ ?_; clear hK K) | (apply Exists.intro; refine ⟨fun _ => ?_, hK _ ?_⟩; (fail); clear hK K))); refine wpG_nil ?_)
          intro w2 hb2
          replace hb2 := below_of_inC hb2
          have S2 : Hid (Srt w g T xs.length n d w2) := ⟨HS.out.len, HS.out.mem, HS.out.own.below hb2, grownBy_trans HS.out.grw (grownB hb2)⟩
          clear HS hb2
          go_wp2
          go_roundw
          case rel => exact ⟨i + 1, d, by go_num, by omega, by omega, STOP0, S2⟩
          case measure => simp [intOf]; omega
        | succ jp =>
          have STOP0 : Hid (lt (d.getD (jp + 1) 0) (d.getD jp 0) = false → insUp lt (xs.length - (i + 1)) (i + 1) d = fin) := fun h => STOP.out true (.inr ⟨jp, rfl, h⟩)
          clear STOP
          have hxm := HS.out.mem (d.getD (jp + 1) 0) (getD_mem' (by omega))
          have hym := HS.out.mem (d.getD jp 0) (getD_mem' (by omega))
          have c1 := HS.out.own.cell (jp + 1) (by omega)
          have c0 := HS.out.own.cell jp (by omega)
          have f1 := HS.out.own.frozen (jp + 1)
          have f0 := HS.out.own.frozen jp
          have HCX := hide (fun W (hb : Below wr.heap.size wr W) => HC.out W (grownBy_trans HS.out.grw (grownB hb)) (d.getD (jp + 1) 0) (d.getD jp 0) hxm.1 hxm.2 hym.1 hym.2)
          have HL1 := hide (HLT.out (d.getD (jp + 1) 0) (d.getD jp 0))
          have hsw : Hid (swpI d (jp + 1) jp = (d.set (jp + 1) (d.getD jp 0)).set jp (d.getD (jp + 1) 0)) := rfl
          have gl := HS.out.own.lt
          generalize hx : d.getD (jp + 1) 0 = x at *
          generalize hy : d.getD jp 0 = y at *
          have i0 : (0 : Int) ≤ (jp : Int) := by omega
          have i2 : (0 : Int) ≤ (jp : Int) + 1 := by omega
          have i3 : IntKind.i64.wrap (jp : Int) = (jp : Int) := IntWalk.i64_in _ (by omega)
          have i4 : (jp : Int) < (xs.length : Int) := by omega
          have i1 : (jp : Int) + 1 < (xs.length : Int) := by omega
          by_cases hc : cf x y < 0
          · go_wp2
            (refine wp_region_g [0, 1, 2, 3, 4, 5, 6, 7, 8, 9, 10, 11, 12, 13, 14, 15, 16] [] (by kernel_rfl) (by kernel_rfl) ?_; simp only [pick, List.map_cons, List.map_nil, Array.getD_eq_getD_getElem?, List.getElem?_toArray, List.getElem?_cons_zero, List.getElem?_cons_succ, Option.getD_some]; (iterate 17 (refine wpG_step (fun K hK => ?_); go_simp; first | (refine hK _ ?_; clear hK K) | (apply Exists.intro; refine ⟨fun _ => ?_, hK _ ?_⟩; (((with_reducible refine (HCX.out _ (below_grew _ _)).mono ?_); exact idQs)); clear hK K))); refine wpG_nil ?_)
            intro w2 hb2
            replace hb2 := below_of_inC hb2
            have O2 := HS.out.own.below hb2
            have G2 := hide (grownBy_trans HS.out.grw (grownB hb2))
            clear c1 c0 f1 f0 gl
            have c1 := O2.cell (jp + 1) (by omega)
            have c0 := O2.cell jp (by omega)
            have f1 := O2.frozen (jp + 1)
            have f0 := O2.frozen jp
            have gl := O2.lt
            rw [hx] at c1
            rw [hy] at c0
            have C2 := (O2.set (jp + 1) y).frozen jp
            have C3 := (O2.set (jp + 1) y).cell jp (by simp; omega)
            have S3 : Hid (Srt w g T xs.length n (swpI d (jp + 1) jp) ((w2.setCell ⟨g, jp + 1, none⟩ (.int .i64 y)).setCell ⟨g, jp, none⟩ (.int .i64 x)).drew) :=
              ⟨by rw [swpI_length]; exact hdl, fun z hz => HS.out.mem z (swpI_mem (by omega) (by omega) hz), by rw [hsw]; exact ((O2.set (jp + 1) y).set jp x).below (belD (Below.refl _ _)), grownBy_trans (grownBy_trans G2.out (grownBy_trans (grownBy_set w2 g (jp + 1) (.int .i64 y)) (grownBy_set _ g jp (.int .i64 x)))) (grownB (belD (Below.refl _ _)))⟩
            have DN : Hid (insDown lt jp (swpI d (jp + 1) jp) = insDown lt i l) := by rw [← HD.out, insDown_go (by rw [hx, hy, HL1.out]; simp; omega)]; exact rfl
            clear O2 HS
            go_wp2
            go_region
            go_wp2
            go_roundw
            case rel => exact ⟨jp, swpI d (jp + 1) jp, by go_num, by omega, DN, S3⟩
            case measure => simp [intOf]
          · go_wp2
            (refine wp_region_g [0, 1, 2, 3, 4, 5, 6, 7, 8, 9, 10, 11, 12, 13, 14, 15, 16] [] (by kernel_rfl) (by kernel_rfl) ?_; simp only [pick, List.map_cons, List.map_nil, Array.getD_eq_getD_getElem?, List.getElem?_toArray, List.getElem?_cons_zero, List.getElem?_cons_succ, Option.getD_some]; (iterate 17 (refine wpG_step (fun K hK => ?_); go_simp; first | (refine hK _ ?_; clear hK K) | (apply Exists.intro; refine ⟨fun _ => ?_, hK _ ?_⟩; (((with_reducible refine (HCX.out _ (below_grew _ _)).mono ?_); exact idQs)); clear hK K))); refine wpG_nil ?_)
            intro w2 hb2
            replace hb2 := below_of_inC hb2
            have S2 : Hid (Srt w g T xs.length n d w2) := ⟨HS.out.len, HS.out.mem, HS.out.own.below hb2, grownBy_trans HS.out.grw (grownB hb2)⟩
            clear HS hb2
            go_wp2
            go_roundw
            case rel => exact ⟨i + 1, d, by go_num, by omega, by omega, STOP0.out (by rw [HL1.out]; simp; omega), S2⟩
            case measure => simp [intOf]; omega
    · go_wp2
      go_end0
      have hi : i = xs.length ∨ i = xs.length + 1 := by omega
      have hf : l = fin := by rw [← HI.out, show xs.length - i = 0 by omega]; rfl
      exact ⟨rfl, by rw [← hf]; exact HS.out⟩

set_option maxHeartbeats 4000000 in
theorem stableDivide_any (cf : Int → Int → Int) (g cap : Nat) (T : TypeId) (xs : List Int) (n : Int) (cb : Array Value) (w : World) (hown : OwnP w g T xs) (hx : ∀ x ∈ xs, 0 ≤ x ∧ x < n) (hl : xs.length ≤ 12)
    (hcmp : ∀ W, w.grownBy W (some g) → ∀ x y : Int, 0 ≤ x → x < n → 0 ≤ y → y < n → Calls Try.prog 65 (#[.int .i64 x, .int .i64 y] ++ cb) W fun e w' => Rets W (.int .i64 (cf x y)) e w') :
    Calls Try.prog 64 #[.slice (some ⟨g, 0, none⟩) xs.length cap, .func (.func 65) #[] cb] w fun e w' =>
      e = .returned (.tuple #[]) ∧ Srt w g T xs.length n (insAll (fun a b => decide (cf a b < 0)) xs) w' := by
  have HI := hide (insSortDivide_any cf g cap T xs n cb w hown hx (by omega) hcmp)
  clear hcmp hx hown
  have HST : Hid (Calls Try.prog 83 #[.slice (some ⟨g, 0, none⟩) xs.length cap, .int .i64 xs.length, .func (.func 65) #[] cb] w fun e w' =>
      e = .returned (.tuple #[]) ∧ Srt w g T xs.length n (insAll (fun a b => decide (cf a b < 0)) xs) w') := by
    unfold Hid
    have h1 : ¬ ((20 : Int) ≤ (xs.length : Int)) := by omega
    have h2 : ¬ ((20 : Int) < (xs.length : Int)) := by omega
    go_enter Try.func83, Try.ntmps83
    go_wp2
    refine wp_loop_rounds 1 ?_
    rw [rounds_succ]
    go_wp2_with (go_at_call 89; (with_reducible refine (HI.out).mono ?_); rintro e w' ⟨rfl, S⟩)
    refine wp_loop_rounds 1 ?_
    rw [rounds_succ]
    go_wp2
    go_end0
    exact ⟨rfl, S⟩
  go_enter Try.func64, Try.ntmps64
  go_wp2_with (go_at_call 83; (with_reducible refine (HST.out).mono ?_); rintro e w' ⟨rfl, S⟩)
  go_end0
  exact ⟨rfl, S⟩

end Go.Proofs.Ytjcoajaoofjjmaa
