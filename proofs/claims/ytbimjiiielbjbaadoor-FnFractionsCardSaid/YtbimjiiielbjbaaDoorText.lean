/- Numbers and fractions as texts. -/
import Derived.Test.YtbimjiiielbjbaaDoorShelfI
import Derived.Test.YtbimjiiielbjbaaDoorFrac5
import Derived.Lib.ItoaNum
import Derived.Lib.LaidTab
namespace Go.Proofs.YtbimjiiielbjbaaDoor
set_option linter.unusedSimpArgs false
set_option linter.unusedVariables false
open Go.RowKit

/-- The table of the powers of ten is laid. -/
def Tab (w : World) : Prop := Lib.TabIs Tryd.prog w "internal/strconv.uint64pow10" .u64 Lib.pow10Tab

theorem Tab.below {w w' : World} (h : Tab w) (hb : Below w.heap.size w w') : Tab w' := by
  unfold Tab Lib.TabIs World.var? at *
  cases hg : Tryd.prog.globalNamed "internal/strconv.uint64pow10" with
  | none => rw [hg] at h; simp at h
  | some g =>
    rw [hg] at h
    simp only [Option.bind_some] at h ⊢
    have hlt : g < w.heap.size := by
      rcases Nat.lt_or_ge g w.heap.size with h1 | h1
      · exact h1
      · rw [Array.getElem?_eq_none h1] at h; simp at h
    rw [hb.block g hlt]; exact h

/-- The text of a number from 0 on. -/
def numS (n : Int) : ByteArray := ⟨(Lib.decDigits n.toNat).toArray⟩

theorem implFormatInt_any (n : Int) (w : World) (h0 : 0 ≤ n) (h1 : n ≤ 10000) (ht : Tab w) :
    Calls Tryd.prog 20 #[.int .i64 n] w fun e w' => Rets w (.string (numS n)) e w' := by
  have HI := hide (Go.Proofs.Tryd.strconv_Itoa n (by omega) (by omega) w ht)
  have HN := hide (show (⟨(Lib.itoa n).toArray⟩ : ByteArray) = numS n by rw [numS, Lib.itoa, if_neg (by omega)])
  go_enter Tryd.func20, Tryd.ntmps20
  go_wp2_with fail
  refine HI.out.mono ?_
  rintro e w' ⟨rfl, k, os, rfl⟩
  rw [HN.out]
  go_wp2
  go_ret
  exact ⟨rfl, rfl, rfl, rfl, by simp [Go.Sort.grow, World.drewN], fun j hj => by simp [Go.Sort.grow, World.drewN, Array.getElem?_append, hj]⟩

theorem fig_any (d : Int) (w : World) (h0 : 0 ≤ d) (h1 : d ≤ 9) :
    Calls Tryd.prog 29 #[.int .i64 d] w fun e w' => e = .returned (.int .u8 (48 + d)) ∧ w = w' := by
  go_enter Tryd.func29, Tryd.ntmps29
  go_wp2
  go_ret
  exact ⟨rfl, rfl⟩

theorem str_cons (b : UInt8) (x : Int) (t : List UInt8) (h : UInt8.ofNat x.toNat = b) : strOfNums [x] ++ (⟨t.toArray⟩ : ByteArray) = ⟨(b :: t).toArray⟩ := by
  apply ByteArray.ext
  rw [ByteArray.data_append]
  apply Array.toList_inj.1
  simp [strOfNums, h]
theorem dec_small {v : Nat} (h : v < 10) (t : List UInt8) : Lib.decDigits v ++ t = UInt8.ofNat (48 + v) :: t := by rw [Lib.decDigits_one h]; rfl
theorem dec_big {v : Nat} (h : ¬ v < 10) (t : List UInt8) : Lib.decDigits v ++ t = Lib.decDigits (v / 10) ++ UInt8.ofNat (48 + v % 10) :: t := by
  rw [Lib.decDigits, dif_neg h]; simp

theorem specFormatInt_any (n : Int) (w : World) (h0 : 0 ≤ n) (h1 : n ≤ 10000) :
    Calls Tryd.prog 19 #[.int .i64 n] w fun e w' => Rets w (.string (numS n)) e w' := by
  by_cases hz : n = 0
  · subst hz
    go_enter Tryd.func19, Tryd.ntmps19
    go_wp2
    go_ret
    exact ⟨by rw [numS, Int.toNat_zero, Lib.decDigits_one (by omega)]; rfl, Below.refl _ _⟩
  have hzb : (n == 0) = false := by simpa using hz
  obtain ⟨u, rfl⟩ := Int.eq_ofNat_of_zero_le h0
  have hun : decide ((u : Int) < 0) = false := by simp
  go_enter Tryd.func19, Tryd.ntmps19
  go_wp2
  clear hzb hun
  go_loopw [0, 4, 5] (fun m s _ wr => ∃ (v : Nat) (t : List UInt8), v ≤ u ∧ t.length + v ≤ u ∧ m = .int .i64 v ∧ s = .string ⟨t.toArray⟩ ∧ (v = 0 → t = Lib.decDigits u) ∧ (v ≠ 0 → Lib.decDigits v ++ t = Lib.decDigits u) ∧ Below w.heap.size w wr) (fun m _ _ _ => (intOf m).toNat)
  case atStart => exact ⟨u, [], Nat.le_refl _, by simp, rfl, rfl, fun h => absurd h (by omega), fun _ => by simp, Below.refl _ _⟩
  case round =>
    obtain ⟨v, t, hv, htl, rfl, rfl, hp, hq, hbel⟩ := hrel
    have HP := hide hp
    have HQ := hide hq
    clear hp hq
    by_cases hv0 : v = 0
    · subst hv0
      go_wp2
      go_ret
      exact ⟨by rw [HP.out trivial]; rfl, hbel⟩
    · have hvb : ((v : Int) == 0) = false := by simpa using hv0
      have hvc : ((v : Int) != 0) = true := by simpa using hv0
      have hm := Int.emod_nonneg (v : Int) (show (10 : Int) ≠ 0 by decide)
      have hm2 := Int.emod_lt_of_pos (v : Int) (show (0 : Int) < 10 by decide)
      have hcv := run_convert_bytes_arg (P := Tryd.prog) (wr.alloc (.cells #[.int .u8 (48 + (v : Int) % 10)] 5)) 28 5 Tryd.underlying28 Tryd.underlying5 wr.heap.size 0 1 1 [48 + (v : Int) % 10] rfl (fun i hi => by
        have : i = 0 := by omega
        subst this; rw [cell_of_block (show (wr.alloc (.cells #[.int .u8 (48 + (v : Int) % 10)] 5)).heap[wr.heap.size]? = some (.cells #[.int .u8 (48 + (v : Int) % 10)] 5 (0, 0)) by show (wr.heap.push _)[wr.heap.size]? = _; simp)]; rfl) 9 Tryd.underlying9
      have hz1 : (strOfNums [48 + (v : Int) % 10]).size = 1 := strOfNums_size _
      have hz2 : (⟨t.toArray⟩ : ByteArray).size = t.length := by simp [ByteArray.size]
      have HS := hide (str_cons (UInt8.ofNat (48 + v % 10)) (48 + (v : Int) % 10) t (by congr 1))
      go_wp2_with fail
      refine (fig_any _ _ (by omega) (by omega)).mono ?_
      rintro e w2 ⟨rfl, rfl⟩
      go_wp2
      clear hcv hz1 hz2
      rw [HS.out]
      go_roundw
      case rel =>
        refine ⟨v / 10, UInt8.ofNat (48 + v % 10) :: t, by omega, by simp; omega, by first | rfl | (congr 1; omega), rfl, fun h => ?_, fun h => ?_, (by repeat first | exact Below.refl _ _ | assumption | (refine belA ?_) | (refine belD ?_) | (refine belN ?_) | (refine belS ?_ (by simp <;> omega)) | (refine belT ?_ (by assumption)))⟩
        · have h10 : v < 10 := by omega
          rw [← HQ.out hv0, dec_small h10, Nat.mod_eq_of_lt h10]
        · rw [← HQ.out hv0, dec_big (v := v) (by omega)]
      case measure => simp [intOf]; omega

theorem nd_le (u : Nat) (k : Nat) (h : u < 10 ^ (k + 1)) : Lib.nDigits u ≤ k + 1 := by
  induction k generalizing u with
  | zero => rw [Lib.nDigits_small (by simpa using h)]; exact Nat.le_refl _
  | succ k ih =>
    by_cases h10 : u < 10
    · rw [Lib.nDigits_small h10]; omega
    · rw [Lib.nDigits_big h10]
      have := ih (u / 10) (by rw [Nat.pow_succ] at h; omega)
      omega
theorem num_size {n : Int} (h0 : 0 ≤ n) (h1 : n ≤ 10000) : (numS n).size ≤ 5 := by
  have := nd_le n.toNat 4 (by omega)
  simp only [numS, ByteArray.size, List.size_toArray, Lib.decDigits_length]
  exact this

/-- The text of a fraction. -/
def fracS (t b : Int) : ByteArray := if frOk t b then (if b = 1 then numS t else numS t ++ ⟨#[47]⟩ ++ numS b) else ⟨#[]⟩

theorem frOk_bd {t b : Int} (h : frOk t b = true) : 1 ≤ b ∧ b ≤ 10000 ∧ 0 ≤ t ∧ t ≤ 10000 := by
  simp only [frOk, Bool.and_eq_true] at h
  have h1 := inB_iff.1 h.1.1
  have h2 := inB_iff.1 h.1.2
  omega

set_option maxRecDepth 100000 in
theorem implFractionText_any (t b : Int) (w : World) (ht : Tab w) :
    Calls Tryd.prog 7 #[.agg #[.int .i64 t, .int .i64 b]] w fun e w' => Rets w (.string (fracS t b)) e w' := by
  have HF := hide (fun W => implFractionOk_any t b W)
  cases hk : frOk t b with
  | false =>
    have HM := hide (show fracS t b = ⟨#[]⟩ by simp [fracS, hk])
    rw [hk] at HF
    clear hk
    go_enter Tryd.func7, Tryd.ntmps7
    go_wp2_with fail
    (with_reducible refine (HF.out _).mono ?_)
    rintro e w2 ⟨rfl, hb⟩
    have b0 := belT (belA (Below.refl w.heap.size w)) hb
    go_wp2
    go_ret
    exact ⟨by rw [HM.out]; rfl, b0⟩
  | true =>
    obtain ⟨b1, b2, t1, t2⟩ := frOk_bd hk
    have HI := hide (fun n W (h0 : 0 ≤ n) (h1 : n ≤ 10000) (hb : Below w.heap.size w W) => implFormatInt_any n W h0 h1 (ht.below hb))
    by_cases hb1 : b = 1
    · subst hb1
      have HM := hide (show fracS t 1 = numS t by simp [fracS, hk])
      rw [hk] at HF
      clear hk
      go_enter Tryd.func7, Tryd.ntmps7
      go_wp2_with fail
      (with_reducible refine (HF.out _).mono ?_)
      rintro e w2 ⟨rfl, hb⟩
      have b0 := belT (belA (Below.refl w.heap.size w)) hb
      have hbk := heap_grow (show (w.alloc (.cells #[.int .i64 t, .int .i64 1] 25)).heap[w.heap.size]? = some (.cells #[.int .i64 t, .int .i64 1] 25 (0, 0)) by show (w.heap.push _)[w.heap.size]? = _; simp) hb
      have c0 := cell_of_block hbk 0
      have c1 := cell_of_block hbk 1
      simp at c0 c1
      go_wp2_with fail
      (with_reducible refine (HI.out _ _ (by omega) (by omega) b0).mono ?_)
      rintro e w3 ⟨rfl, hb3⟩
      have b3 := belT b0 hb3
      go_wp2
      go_ret
      exact ⟨by rw [HM.out]; rfl, b3⟩
    · have HM := hide (show fracS t b = numS t ++ ⟨#[47]⟩ ++ numS b by simp [fracS, hk, hb1])
      have hbb : (b == 1) = false := by simpa using hb1
      have s1 := num_size t1 t2
      have s2 := num_size (show 0 ≤ b by omega) b2
      rw [hk] at HF
      clear hk hb1
      go_enter Tryd.func7, Tryd.ntmps7
      go_wp2_with fail
      (with_reducible refine (HF.out _).mono ?_)
      rintro e w2 ⟨rfl, hb⟩
      have b0 := belT (belA (Below.refl w.heap.size w)) hb
      have hbk := heap_grow (show (w.alloc (.cells #[.int .i64 t, .int .i64 b] 25)).heap[w.heap.size]? = some (.cells #[.int .i64 t, .int .i64 b] 25 (0, 0)) by show (w.heap.push _)[w.heap.size]? = _; simp) hb
      have c0 := cell_of_block hbk 0
      have c1 := cell_of_block hbk 1
      simp at c0 c1
      have hbl := (Array.getElem?_eq_some_iff.1 hbk).1
      have HB0 := hide b0
      have s3 : (numS t ++ ⟨#[47]⟩ : ByteArray).size ≤ 6 := by rw [ByteArray.size_append]; have : (⟨#[47]⟩ : ByteArray).size = 1 := rfl; omega
      have q1 : ¬ 9223372036854775807 < (numS t).size + 1 := by omega
      have q2 : ¬ 9223372036854775807 < (numS t ++ ⟨#[47]⟩ : ByteArray).size + (numS b).size := by omega
      have q3 : ¬ 9223372036854775807 < (numS t).size + 1 + (numS b).size := by omega
      clear hb b0
      go_wp2
      (refine wp_region_g [0, 1, 2, 3, 4, 5, 6, 7, 8] [] (by kernel_rfl) (by kernel_rfl) ?_; simp only [pick, List.map_cons, List.map_nil, Array.getD_eq_getD_getElem?, List.getElem?_toArray, List.getElem?_cons_zero, List.getElem?_cons_succ, Option.getD_some]; (iterate 9 (refine wpG_step (fun K hK => ?_); go_simp; first | (refine hK _ ?_; clear hK K) | (apply Exists.intro; refine ⟨fun _ => ?_, hK _ ?_⟩; ((go_at_call 20; exact HI.out _ _ (by omega) (by omega) (HB0.out.trans ((below_grew _ _).mono HB0.out.size)))); clear hK K))); refine wpG_nil ?_)
      (refine wpT_end ?_; intro wr hbr _; obtain ⟨hcb, hfb⟩ := bcell hbr; have hzr := hbr.size; (try simp at hzr); (try (refine ltk (a := w.heap.size) (b := wr.heap.size) ?_ ?_; (focus omega); intro _ _)); (try (refine ltk (a := w.heap.size + 1) (b := wr.heap.size) ?_ ?_; (focus omega); intro _ _)); (try (refine ltk (a := w.heap.size + 2) (b := wr.heap.size) ?_ ?_; (focus omega); intro _ _)); (try (refine ltk (a := w.heap.size + 3) (b := wr.heap.size) ?_ ?_; (focus omega); intro _ _)))
      go_wp2
      go_ret
      exact ⟨by rw [HM.out]; rfl, belT HB0.out hbr⟩

set_option maxRecDepth 100000 in
theorem specFractionText_any (t b : Int) (w : World) (ht : Tab w) :
    Calls Tryd.prog 5 #[.agg #[.int .i64 t, .int .i64 b]] w fun e w' => Rets w (.string (fracS t b)) e w' := by
  have HF := hide (fun W => specFractionOk_any t b W)
  cases hk : frOk t b with
  | false =>
    have HM := hide (show fracS t b = ⟨#[]⟩ by simp [fracS, hk])
    rw [hk] at HF
    clear hk
    go_enter Tryd.func5, Tryd.ntmps5
    go_wp2_with fail
    (with_reducible refine (HF.out _).mono ?_)
    rintro e w2 ⟨rfl, hb⟩
    have b0 := belT (belA (Below.refl w.heap.size w)) hb
    go_wp2
    go_ret
    exact ⟨by rw [HM.out]; rfl, b0⟩
  | true =>
    obtain ⟨b1, b2, t1, t2⟩ := frOk_bd hk
    have HI := hide (fun n W (h0 : 0 ≤ n) (h1 : n ≤ 10000) (hb : Below w.heap.size w W) => specFormatInt_any n W h0 h1)
    by_cases hb1 : b = 1
    · subst hb1
      have HM := hide (show fracS t 1 = numS t by simp [fracS, hk])
      rw [hk] at HF
      clear hk
      go_enter Tryd.func5, Tryd.ntmps5
      go_wp2_with fail
      (with_reducible refine (HF.out _).mono ?_)
      rintro e w2 ⟨rfl, hb⟩
      have b0 := belT (belA (Below.refl w.heap.size w)) hb
      have hbk := heap_grow (show (w.alloc (.cells #[.int .i64 t, .int .i64 1] 25)).heap[w.heap.size]? = some (.cells #[.int .i64 t, .int .i64 1] 25 (0, 0)) by show (w.heap.push _)[w.heap.size]? = _; simp) hb
      have c0 := cell_of_block hbk 0
      have c1 := cell_of_block hbk 1
      simp at c0 c1
      go_wp2_with fail
      (with_reducible refine (HI.out _ _ (by omega) (by omega) b0).mono ?_)
      rintro e w3 ⟨rfl, hb3⟩
      have b3 := belT b0 hb3
      go_wp2
      go_ret
      exact ⟨by rw [HM.out]; rfl, b3⟩
    · have HM := hide (show fracS t b = numS t ++ ⟨#[47]⟩ ++ numS b by simp [fracS, hk, hb1])
      have hbb : (b == 1) = false := by simpa using hb1
      have s1 := num_size t1 t2
      have s2 := num_size (show 0 ≤ b by omega) b2
      rw [hk] at HF
      clear hk hb1
      go_enter Tryd.func5, Tryd.ntmps5
      go_wp2_with fail
      (with_reducible refine (HF.out _).mono ?_)
      rintro e w2 ⟨rfl, hb⟩
      have b0 := belT (belA (Below.refl w.heap.size w)) hb
      have hbk := heap_grow (show (w.alloc (.cells #[.int .i64 t, .int .i64 b] 25)).heap[w.heap.size]? = some (.cells #[.int .i64 t, .int .i64 b] 25 (0, 0)) by show (w.heap.push _)[w.heap.size]? = _; simp) hb
      have c0 := cell_of_block hbk 0
      have c1 := cell_of_block hbk 1
      simp at c0 c1
      have hbl := (Array.getElem?_eq_some_iff.1 hbk).1
      have HB0 := hide b0
      have s3 : (numS t ++ ⟨#[47]⟩ : ByteArray).size ≤ 6 := by rw [ByteArray.size_append]; have : (⟨#[47]⟩ : ByteArray).size = 1 := rfl; omega
      have q1 : ¬ 9223372036854775807 < (numS t).size + 1 := by omega
      have q2 : ¬ 9223372036854775807 < (numS t ++ ⟨#[47]⟩ : ByteArray).size + (numS b).size := by omega
      have q3 : ¬ 9223372036854775807 < (numS t).size + 1 + (numS b).size := by omega
      clear hb b0
      go_wp2
      (refine wp_region_g [0, 1, 2, 3, 4, 5, 6, 7, 8] [] (by kernel_rfl) (by kernel_rfl) ?_; simp only [pick, List.map_cons, List.map_nil, Array.getD_eq_getD_getElem?, List.getElem?_toArray, List.getElem?_cons_zero, List.getElem?_cons_succ, Option.getD_some]; (iterate 9 (refine wpG_step (fun K hK => ?_); go_simp; first | (refine hK _ ?_; clear hK K) | (apply Exists.intro; refine ⟨fun _ => ?_, hK _ ?_⟩; ((go_at_call 19; exact HI.out _ _ (by omega) (by omega) (HB0.out.trans ((below_grew _ _).mono HB0.out.size)))); clear hK K))); refine wpG_nil ?_)
      (refine wpT_end ?_; intro wr hbr _; obtain ⟨hcb, hfb⟩ := bcell hbr; have hzr := hbr.size; (try simp at hzr); (try (refine ltk (a := w.heap.size) (b := wr.heap.size) ?_ ?_; (focus omega); intro _ _)); (try (refine ltk (a := w.heap.size + 1) (b := wr.heap.size) ?_ ?_; (focus omega); intro _ _)); (try (refine ltk (a := w.heap.size + 2) (b := wr.heap.size) ?_ ?_; (focus omega); intro _ _)); (try (refine ltk (a := w.heap.size + 3) (b := wr.heap.size) ?_ ?_; (focus omega); intro _ _)))
      go_wp2
      go_ret
      exact ⟨by rw [HM.out]; rfl, belT HB0.out hbr⟩

end Go.Proofs.YtbimjiiielbjbaaDoor
