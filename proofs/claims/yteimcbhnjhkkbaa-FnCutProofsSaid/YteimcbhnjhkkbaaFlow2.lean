/- The size of a flow. -/
import Derived.Test.YteimcbhnjhkkbaaFlow
namespace Go.Proofs.Yteimcbhnjhkkbaa
set_option linter.unusedSimpArgs false
set_option linter.unusedVariables false
open Go.RowKit

theorem flowOk_parts {p : Int} {ts : List T3} {fs : List Int} {x y : Int} (h : flowOkM p ts fs x y = true) :
    twoM p ts x y = true ∧ fs.length = ts.length ∧ fits ts fs = true ∧ keeps ts fs x y p.toNat 0 = true ∧ ts.length ≤ 20 ∧ ∀ f ∈ fs, 0 ≤ f ∧ f ≤ 1000 := by
  simp only [flowOkM, Bool.and_eq_true, beq_iff_eq] at h
  obtain ⟨⟨⟨h1, h2⟩, h3⟩, h4⟩ := h
  obtain ⟨_, ⟨hl, hall⟩, _⟩ := twoM_parts h1
  exact ⟨h1, h2, h3, h4, hl, fits_bd ts fs h3 h2 fun t ht => by have := pipeOk_iff.1 (hall t ht); omega⟩

theorem gain_bd (x : Int) : ∀ (ts : List T3) (fs : List Int), (∀ f ∈ fs, 0 ≤ f ∧ f ≤ 1000) → -(ts.length * 1000) ≤ gainL x ts fs ∧ gainL x ts fs ≤ ts.length * 1000
  | [], _, _ => by simp [gainL]
  | t :: r, [], _ => by simp [gainL]; omega
  | t :: r, g :: gs, h => by
    have h1 := h g (by simp)
    have h2 := gain_bd x r gs (fun f hf => h f (by simp [hf]))
    simp only [gainL, List.length_cons]
    split <;> split <;> omega

theorem implFlowSize_any (p x y : Int) (a af : Option Addr) (cap capf : Nat) (ts : List T3) (fs : List Int) (w : World) (hc : Rd3 w a ts) (hf : Rd w af fs) (hn : ts.length ≤ 1048576) (hnf : fs.length ≤ 1048576) :
    Calls Try.prog 45 #[.agg #[.int .i64 p, .slice a ts.length cap], .slice af fs.length capf, .int .i64 x, .int .i64 y] w fun e w' => Rets w (.int .i64 (sizeM p ts fs x y)) e w' := by
  have HT := hide (fun W (hb : Below w.heap.size w W) => implFlowOk_any p x y a af cap capf ts fs W (hc.below hb) (hf.below hb) hn hnf)
  cases hk : flowOkM p ts fs x y with
  | false =>
    have HM := hide (show sizeM p ts fs x y = -1 by simp [sizeM, hk])
    rw [hk] at HT
    clear hk
    go_enter Try.func45, Try.ntmps45
    go_wp2_with fail
    (with_reducible refine (HT.out _ (belA (Below.refl _ _))).mono ?_)
    rintro e w2 ⟨rfl, hb⟩
    have b0 := belT (belA (Below.refl w.heap.size w)) hb
    go_wp2
    go_ret
    exact ⟨ret_int HM.out.symm, b0⟩
  | true =>
    obtain ⟨h1, h2, h3, h4, h5, h6⟩ := flowOk_parts hk
    have HG := hide (fun W (hb : Below w.heap.size w W) => gain_any p x a af cap capf ts fs W (hc.below hb) (hf.below hb) h5 h2 h6)
    have hgb := gain_bd x ts fs h6
    have HM := hide (show sizeM p ts fs x y = max (-1) (gainL x ts fs) by simp [sizeM, hk])
    rw [hk] at HT
    clear hk h1 h2 h3 h4 h6
    generalize gainL x ts fs = q at *
    go_enter Try.func45, Try.ntmps45
    go_wp2_with fail
    (with_reducible refine (HT.out _ (belA (Below.refl _ _))).mono ?_)
    rintro e w2 ⟨rfl, hb⟩
    have b0 := belT (belA (Below.refl w.heap.size w)) hb
    have hbk := heap_grow (blk_new w #[.int .i64 p, .slice a ts.length cap] 26) hb
    have c0 := cell_of_block hbk 0
    have c1 := cell_of_block hbk 1
    simp at c0 c1
    go_wp2_with fail
    (with_reducible refine (HG.out _ b0).mono ?_)
    rintro e w3 ⟨rfl, hb3⟩
    have b3 := belT b0 hb3
    go_wp2
    all_goals go_ret
    all_goals exact ⟨ret_int (by rw [HM.out]; omega), b3⟩

theorem specFlowSize_any (p x y : Int) (a af : Option Addr) (cap capf : Nat) (ts : List T3) (fs : List Int) (w : World) (hc : Rd3 w a ts) (hf : Rd w af fs) (hn : ts.length ≤ 1048576) (hnf : fs.length ≤ 1048576) :
    Calls Try.prog 36 #[.agg #[.int .i64 p, .slice a ts.length cap], .slice af fs.length capf, .int .i64 x, .int .i64 y] w fun e w' => Rets w (.int .i64 (sizeM p ts fs x y)) e w' := by
  have HT := hide (fun W (hb : Below w.heap.size w W) => specFlowOk_any p x y a af cap capf ts fs W (hc.below hb) (hf.below hb) hn hnf)
  cases hk : flowOkM p ts fs x y with
  | false =>
    have HM := hide (show sizeM p ts fs x y = -1 by simp [sizeM, hk])
    rw [hk] at HT
    clear hk
    go_enter Try.func36, Try.ntmps36
    go_wp2_with fail
    (with_reducible refine (HT.out _ (belA (Below.refl _ _))).mono ?_)
    rintro e w2 ⟨rfl, hb⟩
    have b0 := belT (belA (Below.refl w.heap.size w)) hb
    go_wp2
    go_ret
    exact ⟨ret_int HM.out.symm, b0⟩
  | true =>
    obtain ⟨h1, h2, h3, h4, h5, h6⟩ := flowOk_parts hk
    have HM := hide (show sizeM p ts fs x y = max (-1) (gainL x ts fs) by simp [sizeM, hk])
    have HB := hide h6
    have HLF := hide h2
    rw [hk] at HT
    clear hk h1 h2 h3 h4 h6
    go_enter Try.func36, Try.ntmps36
    go_wp2_with fail
    (with_reducible refine (HT.out _ (belA (Below.refl _ _))).mono ?_)
    rintro e w2 ⟨rfl, hb⟩
    have b0 := belT (belA (Below.refl w.heap.size w)) hb
    have hbk := heap_grow (blk_new w #[.int .i64 p, .slice a ts.length cap] 26) hb
    go_wp2
    go_loopw [9, 10] (fun q i wr => ∃ (k : Nat) (n : Int), k ≤ ts.length ∧ i = .int .i64 k ∧ q = .int .i64 n ∧ -(k * 1000) ≤ n ∧ n ≤ k * 1000 ∧ wr.heap[w.heap.size]? = some (.cells #[.int .i64 p, .slice a ts.length cap] 26 (0, 0)) ∧ gainL x ts fs = n + gainL x (ts.drop k) (fs.drop k) ∧ Below w.heap.size w wr) (fun _ i _ => ts.length - (intOf i).toNat)
    case atStart => exact ⟨0, 0, Nat.zero_le _, rfl, rfl, by omega, by omega, hbk, by simp, b0⟩
    case round =>
      obtain ⟨k, n, hk, rfl, rfl, n0, n1, hbk', hr, hbel⟩ := hrel
      have HR := hide hr
      clear hr hbk
      have c0 := cell_of_block hbk' 0
      have c1 := cell_of_block hbk' 1
      simp at c0 c1
      by_cases hlt : k < ts.length
      · have hltf : k < fs.length := by rw [HLF.out]; exact hlt
        obtain ⟨b, off, rfl, hcell, hcell1, hcell2⟩ := hc.below hbel k hlt
        obtain ⟨b', off', rfl, hcf⟩ := hf.below hbel k hltf
        have HD := hide (gain_drop x ts fs k hlt hltf)
        have hfb := HB.out _ (getD_mem' hltf)
        generalize ts.getD k default = u at *
        generalize fs.getD k 0 = f at *
        obtain ⟨u0, u1, z⟩ := u
        simp only at hcell hcell1 hcell2
        have bl := World.block_lt_of_cell? wr _ hcell
        have bl' := World.block_lt_of_cell? wr _ hcf
        simp at bl bl'
        have j1 : (0 : Int) ≤ (k : Int) := by omega
        have j2 : (k : Int) < (fs.length : Int) := by omega
        by_cases h0 : u0 = x
        · subst h0
          by_cases h1 : u1 = u0
          · subst h1
            go_wp2
            go_roundw
            case rel => exact ⟨k + 1, n, by omega, by go_num, by first | rfl | (congr 1; omega), by omega, by omega, hbk', by rw [HR.out, HD.out]; simp, (by repeat first | exact Below.refl _ _ | assumption | (refine belA ?_) | (refine belD ?_) | (refine belN ?_) | (refine belS ?_ (by simp <;> omega)) | (refine belT ?_ (by assumption)))⟩
            case measure => simp [intOf]; omega
          · have h1b : (u1 == u0) = false := by simpa using h1
            go_wp2
            go_roundw
            case rel => exact ⟨k + 1, n + f, by omega, by go_num, rfl, by omega, by omega, hbk', by rw [HR.out, HD.out]; simp [h1]; omega, (by repeat first | exact Below.refl _ _ | assumption | (refine belA ?_) | (refine belD ?_) | (refine belN ?_) | (refine belS ?_ (by simp <;> omega)) | (refine belT ?_ (by assumption)))⟩
            case measure => simp [intOf]; omega
        · have h0b : (u0 == x) = false := by simpa using h0
          by_cases h1 : u1 = x
          · subst h1
            go_wp2
            go_roundw
            case rel => exact ⟨k + 1, n - f, by omega, by go_num, rfl, by omega, by omega, hbk', by rw [HR.out, HD.out]; simp [h0]; omega, (by repeat first | exact Below.refl _ _ | assumption | (refine belA ?_) | (refine belD ?_) | (refine belN ?_) | (refine belS ?_ (by simp <;> omega)) | (refine belT ?_ (by assumption)))⟩
            case measure => simp [intOf]; omega
          · have h1b : (u1 == x) = false := by simpa using h1
            go_wp2
            go_roundw
            case rel => exact ⟨k + 1, n, by omega, by go_num, rfl, by omega, by omega, hbk', by rw [HR.out, HD.out]; simp [h0, h1], (by repeat first | exact Below.refl _ _ | assumption | (refine belA ?_) | (refine belD ?_) | (refine belN ?_) | (refine belS ?_ (by simp <;> omega)) | (refine belT ?_ (by assumption)))⟩
            case measure => simp [intOf]; omega
      · have hlf := HLF.out
        have hnl : ¬ k < fs.length := by omega
        clear hlf
        go_wp2
        all_goals go_ret
        all_goals exact ⟨ret_int (by rw [HM.out, HR.out, List.drop_of_length_le (by omega)]; simp [gainL]; omega), hbel⟩

end Go.Proofs.Yteimcbhnjhkkbaa
