/- Rights: structs of an int and a fraction. -/
import Derived.Test.YtjcoajaoofjjmaaT3b
import Derived.Test.YtjcoajaoofjjmaaFrac5
namespace Go.Proofs.Ytjcoajaoofjjmaa
set_option linter.unusedSimpArgs false
set_option linter.unusedVariables false
open Go.RowKit

theorem toRight_any (x y z : Int) (w : World) :
    Calls Try.prog 54 #[.agg #[.int .i64 x, .int .i64 y, .int .i64 z]] w fun e w' => Rets w (.agg #[.int .i64 x, .int .i64 y, .int .i64 z]) e w' := by
  go_enter Try.func54, Try.ntmps54
  go_wp2_with (first | (go_at_call 40; refine (toFraction_any _ _ _).mono ?_; rintro e w2 ⟨rfl, hb2⟩; obtain ⟨hc2, hf2⟩ := bcell hb2; have hz2 := hb2.size; (try simp at hz2); (try (refine ltk (a := w.heap.size) (b := w2.heap.size) ?_ ?_; (focus omega); intro _ _)); (try (refine ltk (a := w.heap.size + 1) (b := w2.heap.size) ?_ ?_; (focus omega); intro _ _)); (try (refine ltk (a := w.heap.size + 2) (b := w2.heap.size) ?_ ?_; (focus omega); intro _ _)); (try (refine ltk (a := w.heap.size + 3) (b := w2.heap.size) ?_ ?_; (focus omega); intro _ _))))
  refine bodyPost_ret (by simp [results, Try.results54, go_sem, *]; try rfl) rfl ?_
  refine ⟨rfl, ?_⟩
  have b0 := belT (belA (belA (belA (Below.refl _ _)))) hb2
  clear hb2 hc2 hf2
  exact belS (belS (belS (belS (belS b0 (by simp only; omega)) (by simp only; omega)) (by simp only; omega)) (by simp only; omega)) (by simp only; omega)

theorem eqRight_any (x y z x' y' z' : Int) (w : World) :
    Calls Try.prog 56 #[.agg #[.int .i64 x, .int .i64 y, .int .i64 z], .agg #[.int .i64 x', .int .i64 y', .int .i64 z']] w fun e w' => Rets w (.bool ((x, y, z) == (x', y', z'))) e w' := by
  go_enter Try.func56, Try.ntmps56
  go_wp2_with (first | (go_at_call 19; refine (eqFraction_any _ _ _ _ _).mono ?_; rintro e w2 ⟨rfl, hb2⟩; obtain ⟨hc2, hf2⟩ := bcell hb2; have hz2 := hb2.size; (try simp at hz2); (try (refine ltk (a := w.heap.size) (b := w2.heap.size) ?_ ?_; (focus omega); intro _ _)); (try (refine ltk (a := w.heap.size + 1) (b := w2.heap.size) ?_ ?_; (focus omega); intro _ _)); (try (refine ltk (a := w.heap.size + 2) (b := w2.heap.size) ?_ ?_; (focus omega); intro _ _)); (try (refine ltk (a := w.heap.size + 3) (b := w2.heap.size) ?_ ?_; (focus omega); intro _ _))))
  all_goals go_returns
  all_goals exact ⟨ret_bool (by first | (simp_all; done) | (simp_all; intros; omega)), (by repeat first | exact Below.refl _ _ | assumption | (refine belA ?_) | (refine belD ?_) | (refine belN ?_) | (refine belS ?_ (by simp <;> omega)) | (refine belT ?_ (by assumption)))⟩

theorem infoRight : (Try.prog.info? 56).map (fun i => (i.zero, i.size, i.bytes)) = some (some (.agg #[.int .i64 0, .int .i64 0, .int .i64 0]), 3, 24) := by kernel_rfl

theorem make_Rights (t : TypeId) (ht : Try.prog.underlying t = some (.slice 56)) (n : Nat) (hn : n ≤ 1048576) (w : World) :
    (Instr.makeSlice t (.int .i64 (n : Int)) (.int .i64 (n : Int))).run Try.prog w = .ok (.slice (some ⟨w.heap.size, 0, none⟩) n n) (w.alloc (.cells ((flat (List.replicate n ((0 : Int), (0 : Int), (0 : Int)))).map (Value.int .i64)).toArray 56)) := by
  obtain ⟨i, hi, hz, hs, hb⟩ := info_parts infoRight
  have h := run_make (P := Try.prog) w t 56 i (.agg #[.int .i64 0, .int .i64 0, .int .i64 0]) ht hi hz .i64 .i64 (n : Int) (n : Int) (by omega) (by omega) (by rw [hb]; omega) (by omega)
  rw [hs] at h
  simp only [Int.toNat_natCast] at h
  rw [h, ← zeros3_eq]
  simp only [Value.cells]

theorem toRightS_any (a : Option Addr) (cap : Nat) (ts : List T3) (w : World) (hc : Rd3 w a ts) (hn : ts.length ≤ 1048576) :
    Calls Try.prog 17 #[.slice a ts.length cap] w fun e w' => ∃ g, w.heap.size ≤ g ∧ e = .returned (.slice (some ⟨g, 0, none⟩) ts.length ts.length) ∧ OwnP w' g 56 (flat ts) ∧ Below w.heap.size w w' := by
  have hmk := make_Rights 28 Try.underlying28 ts.length hn
  have h0 : ∀ w : World, OwnP (w.alloc (.cells ((flat (List.replicate ts.length ((0 : Int), (0 : Int), (0 : Int)))).map (Value.int .i64)).toArray 56)) w.heap.size 56 (flat (List.replicate ts.length ((0 : Int), (0 : Int), (0 : Int)))) := fun w => own_newP w _ _
  generalize hzz : ((flat (List.replicate ts.length ((0 : Int), (0 : Int), (0 : Int)))).map (Value.int .i64)).toArray = Z at hmk h0
  clear hzz
  have H0 := hide h0
  clear h0
  go_enter Try.func17, Try.ntmps17
  go_wp2
  clear hmk
  go_loopw [4] (fun i wr => ∃ k : Nat, k ≤ ts.length ∧ i = .int .i64 k ∧ OwnP wr w.heap.size 56 (flat (ts.take k ++ List.replicate (ts.length - k) ((0 : Int), (0 : Int), (0 : Int)))) ∧ Below w.heap.size w wr) (fun i _ => ts.length - (intOf i).toNat)
  case atStart => exact ⟨0, Nat.zero_le _, rfl, by simpa using H0.out w, (by repeat first | exact Below.refl _ _ | assumption | (refine belA ?_) | (refine belD ?_) | (refine belN ?_) | (refine belS ?_ (by simp <;> omega)) | (refine belT ?_ (by assumption)))⟩
  case round =>
    obtain ⟨k, hk, rfl, hown, hbel⟩ := hrel
    by_cases hlt : k < ts.length
    · obtain ⟨b, off, rfl, hcell, hcell1, hcell2⟩ := hc.below hbel k hlt
      have HS := hide (fill_step3 ts k hlt _ rfl)
      generalize ts.getD k default = x at *
      obtain ⟨x, y, z⟩ := x
      simp only at hcell hcell1 hcell2
      have hl : w.heap.size < wr.heap.size := hown.lt
      have hkl : k < (ts.take k ++ List.replicate (ts.length - k) ((0 : Int), (0 : Int), (0 : Int))).length := by simp; omega
      generalize (ts.take k ++ List.replicate (ts.length - k) ((0 : Int), (0 : Int), (0 : Int))) = us at *
      go_wp2_with fail
      go_at_call 54
      refine (toRight_any x y z _).mono ?_
      rintro e w2 ⟨rfl, hb2⟩
      have own2 := hown.below hb2
      have g0 := own2.cell0 k hkl
      have g1 := own2.cell1 k hkl
      have g2 := own2.cell2 k hkl
      have f0 := own2.frozen (k * 3)
      have f1 := own2.frozen (k * 3 + 1)
      have f2 := own2.frozen (k * 3 + 2)
      have hset := own2.set3 k x y z
      rw [HS.out] at hset
      have bel2 := belT hbel hb2
      clear own2 hown
      generalize us.getD k default = v at *
      obtain ⟨v0, v1, v2⟩ := v
      simp only at g0 g1 g2
      go_wp2
      go_roundw
      case rel => exact ⟨k + 1, by omega, by go_num, hset, (by repeat first | exact Below.refl _ _ | assumption | (refine belA ?_) | (refine belD ?_) | (refine belN ?_) | (refine belS ?_ (by simp <;> omega)) | (refine belT ?_ (by assumption)))⟩
      case measure => simp [intOf]; omega
    · go_wp2
      go_ret
      refine ⟨w.heap.size, Nat.le_refl _, rfl, ?_, hbel⟩
      have : k = ts.length := by omega
      subst this
      simpa using hown
theorem szRightS_any (a : Option Addr) (cap n : Nat) (w : World) (hm : n ≤ 9223372036854775807) :
    Calls Try.prog 15 #[.slice a n cap, .int .i64 1048576] w fun e w' => e = .returned (.int .i64 (if n ≤ 1048576 then 1048576 - (n : Int) else -1)) ∧ w = w' := by
  go_enter Try.func15, Try.ntmps15
  go_wp2
  all_goals go_ret
  all_goals exact ⟨ret_int (by first | rfl | (split <;> omega)), rfl⟩
theorem eqRightS_any (a a' : Option Addr) (cap cap' : Nat) (xs ys : List T3) (w : World) (hc : Rd3 w a xs) (hc' : Rd3 w a' ys) (hn : xs.length ≤ 1048576) :
    Calls Try.prog 20 #[.slice a xs.length cap, .slice a' ys.length cap'] w fun e w' => Rets w (.bool (xs == ys)) e w' := by
  by_cases hlen : xs.length = ys.length
  · have hl1 : ((xs.length : Int) == (ys.length : Int)) = true := by simp [hlen]
    have hl2 : ((xs.length : Int) != (ys.length : Int)) = false := by simp [hlen]
    have HL := hide hlen
    clear hlen
    go_enter Try.func20, Try.ntmps20
    go_wp2
    clear hl1 hl2
    go_loopw [5] (fun i wr => ∃ k : Nat, k ≤ xs.length ∧ i = .int .i64 k ∧ (xs == ys) = (xs.drop k == ys.drop k) ∧ Below w.heap.size w wr) (fun i _ => xs.length - (intOf i).toNat)
    case atStart => exact ⟨0, Nat.zero_le _, rfl, rfl, Below.refl _ _⟩
    case round =>
      obtain ⟨k, hk, rfl, hr, hbel⟩ := hrel
      have HR := hide hr
      clear hr
      by_cases hlt : k < xs.length
      · have hlt' : k < ys.length := by rw [← HL.out]; exact hlt
        obtain ⟨b, off, rfl, q0, q1, q2⟩ := hc.below hbel k hlt
        obtain ⟨b', off', rfl, r0, r1, r2⟩ := hc'.below hbel k hlt'
        have HD := hide (beq_drop3 xs ys k hlt hlt')
        generalize xs.getD k default = x at *
        generalize ys.getD k default = y at *
        obtain ⟨x0, x1, x2⟩ := x
        obtain ⟨y0, y1, y2⟩ := y
        simp only at q0 q1 q2 r0 r1 r2
        have bl := World.block_lt_of_cell? wr _ q0
        have bl' := World.block_lt_of_cell? wr _ r0
        simp at bl bl'
        have i1 : (0 : Int) ≤ (k : Int) := by omega
        have i2 : (k : Int) < (xs.length : Int) := by omega
        have i3 : (k : Int) < (ys.length : Int) := by omega
        go_wp2
        (refine wp_region_g [0, 1, 2, 3, 4, 5, 6, 7, 8, 9] [] (by kernel_rfl) (by kernel_rfl) ?_; simp only [pick, List.map_cons, List.map_nil, Array.getD_eq_getD_getElem?, List.getElem?_toArray, List.getElem?_cons_zero, List.getElem?_cons_succ, Option.getD_some]; (iterate 10 (refine wpG_step (fun K hK => ?_); go_simp; first | (refine hK _ ?_; clear hK K) | (apply Exists.intro; refine ⟨fun _ => ?_, hK _ ?_⟩; ((go_at_call 56; exact eqRight_any _ _ _ _ _ _ _)); clear hK K))); refine wpG_nil ?_)
        (refine wpT_end ?_; intro w2 hbr _; obtain ⟨hcb, hfb⟩ := bcell hbr; have hzr := hbr.size; (try simp at hzr); (try (refine ltk (a := w.heap.size) (b := w2.heap.size) ?_ ?_; (focus omega); intro _ _)); (try (refine ltk (a := w.heap.size + 1) (b := w2.heap.size) ?_ ?_; (focus omega); intro _ _)); (try (refine ltk (a := w.heap.size + 2) (b := w2.heap.size) ?_ ?_; (focus omega); intro _ _)); (try (refine ltk (a := w.heap.size + 3) (b := w2.heap.size) ?_ ?_; (focus omega); intro _ _)); (try (refine ltk (a := b) (b := w2.heap.size) ?_ ?_; (focus omega); intro _ _)); (try (refine ltk (a := b') (b := w2.heap.size) ?_ ?_; (focus omega); intro _ _)))
        go_wp2
        · go_ret
          exact ⟨ret_bool (by rw [HR.out, HD.out]; simp_all), (by repeat first | exact Below.refl _ _ | assumption | (refine belA ?_) | (refine belD ?_) | (refine belN ?_) | (refine belS ?_ (by simp <;> omega)) | (refine belT ?_ (by assumption)))⟩
        · go_roundw
          case rel => exact ⟨k + 1, by omega, by go_num, by rw [HR.out, HD.out]; simp_all, (by repeat first | exact Below.refl _ _ | assumption | (refine belA ?_) | (refine belD ?_) | (refine belN ?_) | (refine belS ?_ (by simp <;> omega)) | (refine belT ?_ (by assumption)))⟩
          case measure => simp [intOf]; omega
      · go_wp2
        go_ret
        have h1 : xs.drop k = [] := List.drop_of_length_le (by omega)
        have h2 : ys.drop k = [] := List.drop_of_length_le (by rw [← HL.out]; omega)
        exact ⟨ret_bool (by rw [HR.out, h1, h2]; rfl), hbel⟩
  · have hl1 : ((xs.length : Int) == (ys.length : Int)) = false := by simp; omega
    have hl2 : ((xs.length : Int) != (ys.length : Int)) = true := by simp; omega
    have hne : (xs == ys) = false := by
      rw [beq_eq_false_iff_ne]; intro h; exact hlen (by rw [h])
    have HN := hide hne
    clear hne hlen
    go_enter Try.func20, Try.ntmps20
    go_wp2
    go_ret
    exact ⟨ret_bool HN.out.symm, Below.refl _ _⟩
end Go.Proofs.Ytjcoajaoofjjmaa
