/- What goes out of a place minus what comes in. -/
import Derived.Test.YteimcbhnjhkkbaaNet2
namespace Go.Proofs.Yteimcbhnjhkkbaa
set_option linter.unusedSimpArgs false
set_option linter.unusedVariables false
open Go.RowKit

def gainL (x : Int) : List T3 → List Int → Int
  | t :: r, f :: g => (if t.1 = x then f else 0) - (if t.2.1 = x then f else 0) + gainL x r g
  | _, _ => 0

theorem gain_drop (x : Int) (ts : List T3) (fs : List Int) (k : Nat) (h : k < ts.length) (h' : k < fs.length) :
    gainL x (ts.drop k) (fs.drop k) = (if (ts.getD k default).1 = x then fs.getD k 0 else 0) - (if (ts.getD k default).2.1 = x then fs.getD k 0 else 0) + gainL x (ts.drop (k + 1)) (fs.drop (k + 1)) := by
  rw [drop_getD3 ts k h, drop_getD fs k h']; rfl

set_option maxHeartbeats 2000000 in
theorem gain_any (p x : Int) (a af : Option Addr) (cap capf : Nat) (ts : List T3) (fs : List Int) (w : World) (hc : Rd3 w a ts) (hf : Rd w af fs) (hl : ts.length ≤ 20) (hfl : fs.length = ts.length) (hb : ∀ f ∈ fs, 0 ≤ f ∧ f ≤ 1000) :
    Calls Try.prog 55 #[.agg #[.int .i64 p, .slice a ts.length cap], .slice af fs.length capf, .int .i64 x] w fun e w' => Rets w (.int .i64 (gainL x ts fs)) e w' := by
  have HB := hide hb
  have HL := hide hfl
  clear hb hfl
  go_enter Try.func55, Try.ntmps55
  go_wp2
  go_loopw [7, 8, 13] (fun q _ i wr => ∃ (k : Nat) (n : Int), k ≤ ts.length ∧ i = .int .i64 k ∧ q = .int .i64 n ∧ -(k * 1000) ≤ n ∧ n ≤ k * 1000 ∧ gainL x ts fs = n + gainL x (ts.drop k) (fs.drop k) ∧ Below w.heap.size w wr) (fun _ _ i _ => ts.length - (intOf i).toNat)
  case atStart => exact ⟨0, 0, Nat.zero_le _, rfl, rfl, by omega, by omega, by simp, (by repeat first | exact Below.refl _ _ | assumption | (refine belA ?_) | (refine belD ?_) | (refine belN ?_) | (refine belS ?_ (by simp <;> omega)) | (refine belT ?_ (by assumption)))⟩
  case round =>
    obtain ⟨k, n, hk, rfl, rfl, n0, n1, hr, hbel⟩ := hrel
    have HR := hide hr
    clear hr
    by_cases hlt : k < ts.length
    · have hltf : k < fs.length := by rw [HL.out]; exact hlt
      obtain ⟨b, off, rfl, hcell, hcell1, hcell2⟩ := hc.below hbel k hlt
      obtain ⟨b', off', rfl, hcf⟩ := hf.below hbel k hltf
      have HD := hide (gain_drop x ts fs k hlt hltf)
      have hfb := HB.out _ (getD_mem' hltf)
      generalize ts.getD k default = u at *
      generalize fs.getD k 0 = f at *
      obtain ⟨u0, u1, z⟩ := u
      simp only at hcell hcell1 hcell2
      have bl := World.block_lt_of_cell? wr _ hcell
      have bl' := World.block_lt_of_cell? wr _ hcf
      simp at bl bl'
      have j1 : (0 : Int) ≤ (k : Int) := by omega
      have j2 : (k : Int) < (fs.length : Int) := by omega
      by_cases h0 : u0 = x
      · subst h0
        by_cases h1 : u1 = u0
        · subst h1
          go_wp2
          go_roundw
          case rel => exact ⟨k + 1, n, by omega, by go_num, by first | rfl | (congr 1; omega), by omega, by omega, by rw [HR.out, HD.out]; simp, (by repeat first | exact Below.refl _ _ | assumption | (refine belA ?_) | (refine belD ?_) | (refine belN ?_) | (refine belS ?_ (by simp <;> omega)) | (refine belT ?_ (by assumption)))⟩
          case measure => simp [intOf]; omega
        · have h1b : (u1 == u0) = false := by simpa using h1
          go_wp2
          go_roundw
          case rel => exact ⟨k + 1, n + f, by omega, by go_num, rfl, by omega, by omega, by rw [HR.out, HD.out]; simp [h1]; omega, (by repeat first | exact Below.refl _ _ | assumption | (refine belA ?_) | (refine belD ?_) | (refine belN ?_) | (refine belS ?_ (by simp <;> omega)) | (refine belT ?_ (by assumption)))⟩
          case measure => simp [intOf]; omega
      · have h0b : (u0 == x) = false := by simpa using h0
        by_cases h1 : u1 = x
        · subst h1
          go_wp2
          go_roundw
          case rel => exact ⟨k + 1, n - f, by omega, by go_num, rfl, by omega, by omega, by rw [HR.out, HD.out]; simp [h0]; omega, (by repeat first | exact Below.refl _ _ | assumption | (refine belA ?_) | (refine belD ?_) | (refine belN ?_) | (refine belS ?_ (by simp <;> omega)) | (refine belT ?_ (by assumption)))⟩
          case measure => simp [intOf]; omega
        · have h1b : (u1 == x) = false := by simpa using h1
          go_wp2
          go_roundw
          case rel => exact ⟨k + 1, n, by omega, by go_num, rfl, by omega, by omega, by rw [HR.out, HD.out]; simp [h0, h1], (by repeat first | exact Below.refl _ _ | assumption | (refine belA ?_) | (refine belD ?_) | (refine belN ?_) | (refine belS ?_ (by simp <;> omega)) | (refine belT ?_ (by assumption)))⟩
          case measure => simp [intOf]; omega
    · go_wp2
      go_ret
      exact ⟨ret_int (by rw [HR.out, List.drop_of_length_le (by omega)]; simp [gainL]), hbel⟩

end Go.Proofs.Yteimcbhnjhkkbaa
