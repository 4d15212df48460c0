/- The places that water reaches. -/
import Derived.Test.YtamadhdnblmfhaaBits
namespace Go.Proofs.Ytamadhdnblmfhaa
set_option linter.unusedSimpArgs false
set_option linter.unusedVariables false
open Go.RowKit

theorem bitsOr_bd {x y : Int} (hx0 : 0 ≤ x) (hx : x < 256) (hy0 : 0 ≤ y) (hy : y < 256) : 0 ≤ bits .or .i64 x y ∧ bits .or .i64 x y < 256 := by
  obtain ⟨a, rfl⟩ := Int.eq_ofNat_of_zero_le hx0
  obtain ⟨b, rfl⟩ := Int.eq_ofNat_of_zero_le hy0
  unfold bits
  have e : (BitVec.ofInt IntKind.i64.bits (a : Int) ||| BitVec.ofInt IntKind.i64.bits (b : Int)).toNat < 2 ^ 8 := by
    show (BitVec.ofInt 64 (a : Int) ||| BitVec.ofInt 64 (b : Int)).toNat < 2 ^ 8
    rw [BitVec.toNat_or]
    apply Nat.or_lt_two_pow
    · rw [BitVec.toNat_ofInt]; omega
    · rw [BitVec.toNat_ofInt]; omega
  simp only
  rw [IntWalk.i64_in _ (by omega)]
  omega

theorem rcL_bd (d : Int) : ∀ (ts : List T3) (s : Int), (∀ t ∈ ts, 0 ≤ t.2.1 ∧ t.2.1 ≤ 7) → 0 ≤ s → s < 256 → 0 ≤ rcL d s ts ∧ rcL d s ts < 256
  | [], s, _, h0, h1 => ⟨h0, h1⟩
  | t :: r, s, hb, h0, h1 => by
    have ht := hb t (by simp)
    have hp : 1 ≤ (2 : Int) ^ t.2.1.toNat ∧ (2 : Int) ^ t.2.1.toNat ≤ 128 := by
      have : t.2.1 = 0 ∨ t.2.1 = 1 ∨ t.2.1 = 2 ∨ t.2.1 = 3 ∨ t.2.1 = 4 ∨ t.2.1 = 5 ∨ t.2.1 = 6 ∨ t.2.1 = 7 := by omega
      rcases this with h | h | h | h | h | h | h | h <;> rw [h] <;> decide
    simp only [rcL]
    split
    · have := bitsOr_bd h0 h1 (show 0 ≤ (2 : Int) ^ t.2.1.toNat by omega) (by omega)
      exact rcL_bd d r _ (fun u hu => hb u (by simp [hu])) this.1 this.2
    · exact rcL_bd d r _ (fun u hu => hb u (by simp [hu])) h0 h1
theorem rcN_bd (d : Int) (ts : List T3) (hb : ∀ t ∈ ts, 0 ≤ t.2.1 ∧ t.2.1 ≤ 7) : ∀ (n : Nat) (s : Int), 0 ≤ s → s < 256 → 0 ≤ rcN d ts n s ∧ rcN d ts n s < 256
  | 0, s, h0, h1 => ⟨h0, h1⟩
  | n + 1, s, h0, h1 => by
    have := rcL_bd d ts s hb h0 h1
    exact rcN_bd d ts hb n _ this.1 this.2
theorem rcL_10 : ∀ (ts : List T3) (s : Int), (∀ t ∈ ts, 1 ≤ t.2.2) → rcL 1 s ts = rcL 0 s ts
  | [], _, _ => rfl
  | t :: r, s, hb => by
    have ht := hb t (by simp)
    have h0 : (0 : Int) ≤ t.2.2 := by omega
    simp only [rcL, ht, h0, true_and]
    exact rcL_10 r _ (fun u hu => hb u (by simp [hu]))
theorem rcN_10 (ts : List T3) (hb : ∀ t ∈ ts, 1 ≤ t.2.2) : ∀ (n : Nat) (s : Int), rcN 1 ts n s = rcN 0 ts n s
  | 0, _ => rfl
  | n + 1, s => by simp only [rcN]; rw [rcL_10 ts s hb]; exact rcN_10 ts hb n _

theorem reach_law {p : Int} {ts : List T3} {f : Int} (hk : placeM p ts f = true) : (0 ≤ reachM p ts f 1 ∧ reachM p ts f 1 < 256) ∧ reachM p ts f 1 = reachM p ts f 0 := by
  simp only [placeM, Bool.and_eq_true] at hk
  obtain ⟨p1, p2, _, hall⟩ := netOk_parts hk.1
  have hf := inB_iff.1 hk.2
  have hb : ∀ t ∈ ts, 0 ≤ t.2.1 ∧ t.2.1 ≤ 7 ∧ 1 ≤ t.2.2 := fun t ht => by have := pipeOk_iff.1 (hall t ht); omega
  have hp : 1 ≤ (2 : Int) ^ f.toNat ∧ (2 : Int) ^ f.toNat ≤ 128 := by
    have : f = 0 ∨ f = 1 ∨ f = 2 ∨ f = 3 ∨ f = 4 ∨ f = 5 ∨ f = 6 ∨ f = 7 := by omega
    rcases this with h | h | h | h | h | h | h | h <;> rw [h] <;> decide
  exact ⟨rcN_bd 1 ts (fun t ht => ⟨(hb t ht).1, (hb t ht).2.1⟩) _ _ (by omega) (by omega), rcN_10 ts (fun t ht => (hb t ht).2.2) _ _⟩

def rbyM (p : Int) (ts : List T3) (f : Int) : List Int := if placeM p ts f then bitsF (reachM p ts f 1) 8 0 else []
theorem rby_length (p : Int) (ts : List T3) (f : Int) : (rbyM p ts f).length ≤ 1048576 := by
  unfold rbyM; split
  · have := bitsF_length (reachM p ts f 1) 8 0; omega
  · simp

theorem implReachedBy_any (p f : Int) (a : Option Addr) (cap : Nat) (ts : List T3) (w : World) (hc : Rd3 w a ts) (hn : ts.length ≤ 1048576) :
    Calls Try.prog 46 #[.agg #[.int .i64 p, .slice a ts.length cap], .int .i64 f] w fun e w' => GivesI (rbyM p ts f) w e w' := by
  have HP := hide (fun W (hb : Below w.heap.size w W) => isPlace_any p a cap ts f W (hc.below hb) hn)
  cases hk : placeM p ts f with
  | false =>
    have HM := hide (show rbyM p ts f = [] by simp [rbyM, hk])
    rw [hk] at HP
    clear hk
    go_enter Try.func46, Try.ntmps46
    go_wp2_with fail
    (with_reducible refine (HP.out _ (belA (Below.refl _ _))).mono ?_)
    rintro e w2 ⟨rfl, hb⟩
    have b0 := belT (belA (Below.refl w.heap.size w)) hb
    go_wp2
    go_ret
    exact ⟨_, rfl, by rw [HM.out]; exact OwnsI.nil _ _, b0⟩
  | true =>
    obtain ⟨r0, r1⟩ := (reach_law hk).1
    have HM := hide (show rbyM p ts f = bitsF (reachM p ts f 1) 8 0 by simp [rbyM, hk])
    have hf := place_bd hk
    have hnet : netOk p ts = true := by simp only [placeM, Bool.and_eq_true] at hk; exact hk.1
    have HR := hide (fun W (hb : Below w.heap.size w W) => reach_any p f 1 a cap ts W (hc.below hb) hnet hf.1 hf.2)
    have HB := hide (fun W => membersOf_any (reachM p ts f 1) W r0 r1)
    rw [hk] at HP
    clear hk hnet
    generalize reachM p ts f 1 = S at *
    go_enter Try.func46, Try.ntmps46
    go_wp2_with fail
    (with_reducible refine (HP.out _ (belA (Below.refl _ _))).mono ?_)
    rintro e w2 ⟨rfl, hb⟩
    have b0 := belT (belA (Below.refl w.heap.size w)) hb
    have hbk := heap_grow (blk_new w #[.int .i64 p, .slice a ts.length cap] 26) hb
    have c0 := cell_of_block hbk 0
    have c1 := cell_of_block hbk 1
    simp at c0 c1
    go_wp2_with fail
    (with_reducible refine (HR.out _ b0).mono ?_)
    rintro e w3 ⟨rfl, hb3⟩
    have b3 := belT b0 hb3
    go_wp2_with fail
    (with_reducible refine (HB.out _).mono ?_)
    rintro e w4 ⟨v4, rfl, hown, hb4⟩
    go_wp2
    go_ret
    exact ⟨_, rfl, by rw [HM.out]; exact hown.mono b3.size, belT b3 hb4⟩

theorem specReachedBy_any (p f : Int) (a : Option Addr) (cap : Nat) (ts : List T3) (w : World) (hc : Rd3 w a ts) (hn : ts.length ≤ 1048576) :
    Calls Try.prog 45 #[.agg #[.int .i64 p, .slice a ts.length cap], .int .i64 f] w fun e w' => GivesI (rbyM p ts f) w e w' := by
  have HP := hide (fun W (hb : Below w.heap.size w W) => specNetOk_any p a cap ts W (hc.below hb) hn)
  cases hk : netOk p ts with
  | false =>
    have HM := hide (show rbyM p ts f = [] by simp [rbyM, placeM, hk])
    rw [hk] at HP
    clear hk
    go_enter Try.func45, Try.ntmps45
    go_wp2_with fail
    (with_reducible refine (HP.out _ (belA (Below.refl _ _))).mono ?_)
    rintro e w2 ⟨rfl, hb⟩
    have b0 := belT (belA (Below.refl w.heap.size w)) hb
    go_wp2
    go_ret
    exact ⟨_, rfl, by rw [HM.out]; exact OwnsI.empty _ _ b0.size, belA b0⟩
  | true =>
    obtain ⟨p1, p2, _, _⟩ := netOk_parts hk
    by_cases hi : inB f 0 (p - 1) = true
    · have hpl : placeM p ts f = true := by simp [placeM, hk, hi]
      have HM := hide (show rbyM p ts f = bitsF (reachM p ts f 0) 8 0 by rw [rbyM, if_pos hpl, (reach_law hpl).2])
      have hf := place_bd hpl
      have HR := hide (fun W (hb : Below w.heap.size w W) => l08Reach_any p f 0 a cap ts W (hc.below hb) hk hf.1 hf.2)
      have HB := hide (fun W => l08Bits_any (reachM p ts f 0) W)
      rw [hk] at HP
      clear hk hpl
      generalize reachM p ts f 0 = S at *
      go_enter Try.func45, Try.ntmps45
      go_wp2_with fail
      (with_reducible refine (HP.out _ (belA (Below.refl _ _))).mono ?_)
      rintro e w2 ⟨rfl, hb⟩
      have b0 := belT (belA (Below.refl w.heap.size w)) hb
      have hbk := heap_grow (blk_new w #[.int .i64 p, .slice a ts.length cap] 26) hb
      have c0 := cell_of_block hbk 0
      have c1 := cell_of_block hbk 1
      simp at c0 c1
      go_wp2_with (first | (go_at_call 59; refine (l01In_any _ _ _ _).mono ?_; rintro e w2 ⟨rfl, rfl⟩))
      (with_reducible refine (HR.out _ b0).mono ?_)
      rintro e w3 ⟨rfl, hb3⟩
      have b3 := belT b0 hb3
      go_wp2_with fail
      (with_reducible refine (HB.out _).mono ?_)
      rintro e w4 ⟨v4, rfl, hown, hb4⟩
      go_wp2
      go_ret
      exact ⟨_, rfl, by rw [HM.out]; exact hown.mono b3.size, belT b3 hb4⟩
    · have hi' : inB f 0 (p - 1) = false := by simpa using hi
      have HM := hide (show rbyM p ts f = [] by simp [rbyM, placeM, hi'])
      rw [hk] at HP
      clear hk hi
      go_enter Try.func45, Try.ntmps45
      go_wp2_with fail
      (with_reducible refine (HP.out _ (belA (Below.refl _ _))).mono ?_)
      rintro e w2 ⟨rfl, hb⟩
      have b0 := belT (belA (Below.refl w.heap.size w)) hb
      have hbk := heap_grow (blk_new w #[.int .i64 p, .slice a ts.length cap] 26) hb
      have c0 := cell_of_block hbk 0
      have c1 := cell_of_block hbk 1
      simp at c0 c1
      go_wp2_with (first | (go_at_call 59; refine (l01In_any _ _ _ _).mono ?_; rintro e w2 ⟨rfl, rfl⟩))
      go_ret
      exact ⟨_, rfl, by rw [HM.out]; exact OwnsI.empty _ _ b0.size, belA b0⟩

end Go.Proofs.Ytamadhdnblmfhaa
