/- What can leave a place. -/
import Derived.Test.YtamadhdnblmfhaaFlwL
namespace Go.Proofs.Ytamadhdnblmfhaa
set_option linter.unusedSimpArgs false
set_option linter.unusedVariables false
open Go.RowKit

set_option maxHeartbeats 1000000 in
theorem specOutOf_ok (p x : Int) (a : Option Addr) (cap : Nat) (ts : List T3) (w : World) (hc : Rd3 w a ts) (h : placeM p ts x = true) :
    Calls Try.prog 21 #[.agg #[.int .i64 p, .slice a ts.length cap], .int .i64 x] w fun e w' => Rets w (.int .i64 (outM p ts x)) e w' := by
  have hM := hide (show outM p ts x = outM.outL x ts by unfold outM; rw [if_pos h])
  simp only [placeM, Bool.and_eq_true] at h
  obtain ⟨hk, hx⟩ := h
  obtain ⟨p1, p2, hl, hall⟩ := netOk_parts hk
  have HC := hide (fun W (hb : Below w.heap.size w W) => (show Calls Try.prog 58 #[.agg #[.int .i64 p, .slice a ts.length cap]] W fun e w' => Rets W (.bool true) e w' by
    have := specNetOk_any p a cap ts W (hc.below hb) (by omega); rw [hk] at this; exact this))
  have HA := hide hall
  clear hk hall
  go_enter Try.func21, Try.ntmps21
  go_wp2_with fail
  (with_reducible refine (HC.out _ (belA (Below.refl _ _))).mono ?_)
  rintro e w2 ⟨rfl, hb⟩
  have b0 := belT (belA (Below.refl w.heap.size w)) hb
  have hbk := heap_grow (blk_new w #[.int .i64 p, .slice a ts.length cap] 26) hb
  have c0 := cell_of_block hbk 0
  have c1 := cell_of_block hbk 1
  simp at c0 c1
  have hc2 := hc.below b0
  have W1 : IntKind.i64.wrap (p - 1) = p - 1 := IntWalk.i64_in _ (by omega)
  go_wp2_with (first | (go_at_call 59; refine (l01In_any _ _ _ _).mono ?_; rintro e w2 ⟨rfl, rfl⟩))
  clear W1 hx
  go_loop [5, 6] (fun m i => ∃ (k : Nat) (n : Int), k ≤ ts.length ∧ i = .int .i64 k ∧ m = .int .i64 n ∧ 0 ≤ n ∧ n ≤ k * 1000 ∧ Hid (outM.outL x ts = n + outM.outL x (ts.drop k))) (fun m i => ts.length - (intOf i).toNat)
  case atStart => exact ⟨0, 0, Nat.zero_le _, rfl, rfl, by omega, by omega, hide (by simp)⟩
  case round =>
    obtain ⟨k, n, hk, rfl, rfl, n0, n1, HR⟩ := hrel
    by_cases hlt : k < ts.length
    · obtain ⟨b, off, rfl, hcell, hcell1, hcell2⟩ := hc2 k hlt
      have HD := hide (drop_getD3 ts k hlt)
      obtain ⟨m1, m2, m3, m4, m5, m6, m7⟩ := pipeOk_iff.1 (HA.out _ (getD_mem3 hlt))
      generalize ts.getD k default = t at *
      obtain ⟨u, y, z⟩ := t
      simp only at hcell hcell1 hcell2 m1 m2 m3 m4 m5 m6 m7
      have kl : (k : Int) < (ts.length : Int) := by omega
      by_cases hux : u = x
      · subst hux
        go_wp2
        go_round
        case rel => exact ⟨k + 1, n + z, by omega, by go_num, rfl, by omega, by simp; omega, hide (by rw [HR.out, HD.out]; simp [outM.outL]; omega)⟩
        case measure => simp [intOf]; omega
      · have hb1 : (u == x) = false := by simp [hux]
        go_wp2
        go_round
        case rel => exact ⟨k + 1, n, by omega, by go_num, rfl, by omega, by simp; omega, hide (by rw [HR.out, HD.out]; simp [outM.outL, hux])⟩
        case measure => simp [intOf]; omega
    · have hkn : ts.length ≤ k := by omega
      have HE := hide (show outM p ts x = n by rw [hM.out, HR.out, List.drop_of_length_le hkn]; simp [outM.outL])
      go_wp2
      go_ret
      exact ⟨ret_int HE.out.symm, b0⟩

end Go.Proofs.Ytamadhdnblmfhaa
