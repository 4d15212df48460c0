/- Sets of places as numbers: one bit a place. -/
import Derived.Test.YteimcbhnjhkkbaaMf
import Derived.Test.YteimcbhnjhkkbaaCut
import Derived.Test.YteimcbhnjhkkbaaApp
namespace Go.Proofs.Yteimcbhnjhkkbaa
set_option linter.unusedSimpArgs false
set_option linter.unusedVariables false
open Go.RowKit

theorem bitsOr (m n : Nat) (hm : m < 2 ^ 62) (hn : n < 2 ^ 62) : bits .or .i64 (m : Int) (n : Int) = ((m ||| n : Nat) : Int) := by
  unfold bits
  have h : m ||| n < 2 ^ 62 := Nat.or_lt_two_pow hm hn
  have e : (BitVec.ofInt IntKind.i64.bits (m : Int) ||| BitVec.ofInt IntKind.i64.bits (n : Int)).toNat = m ||| n := by
    show (BitVec.ofInt 64 (m : Int) ||| BitVec.ofInt 64 (n : Int)).toNat = m ||| n
    rw [BitVec.toNat_or, BitVec.toNat_ofInt, BitVec.toNat_ofInt]
    have e1 : ((m : Int) % ((2 ^ 64 : Nat) : Int)).toNat = m := by omega
    have e2 : ((n : Int) % ((2 ^ 64 : Nat) : Int)).toNat = n := by omega
    rw [e1, e2]
  simp only [e]
  rw [IntWalk.i64_in _ (by omega)]

theorem memB_nat (m z : Nat) : memB (m : Int) (z : Int) = m.testBit z := by
  unfold memB
  rw [bits1, Int.toNat_natCast, Nat.testBit_eq_decide_div_mod_eq]
  have e : (m : Int) / 2 ^ z % 2 = ((m / 2 ^ z % 2 : Nat) : Int) := by norm_cast
  rw [e]
  by_cases h : m / 2 ^ z % 2 = 1
  · rw [h]; rfl
  · have : m / 2 ^ z % 2 = 0 := by omega
    rw [this]; rfl

/-- The number M holds just the places of the list. -/
def MaskOk (M : Int) (q : List Int) : Prop := ∃ m : Nat, M = (m : Int) ∧ m < 256 ∧ ∀ z : Nat, z < 8 → m.testBit z = decide ((z : Int) ∈ q)

theorem MaskOk.bd {M : Int} {q : List Int} (h : MaskOk M q) : 0 ≤ M ∧ M < 256 := by obtain ⟨m, rfl, h1, _⟩ := h; omega
theorem MaskOk.mem {M : Int} {q : List Int} (h : MaskOk M q) {z : Int} (z0 : 0 ≤ z) (z7 : z ≤ 7) : memB M z = decide (z ∈ q) := by
  obtain ⟨m, rfl, _, h2⟩ := h
  obtain ⟨k, rfl⟩ := Int.eq_ofNat_of_zero_le z0
  rw [memB_nat]; exact h2 k (by omega)
theorem pow_lt256 {k : Nat} (h : k < 8) : 2 ^ k < 256 := by
  have : 2 ^ k < 2 ^ 8 := Nat.pow_lt_pow_right (by omega) h
  exact this
theorem MaskOk.start {x : Int} (x0 : 0 ≤ x) (x7 : x ≤ 7) : MaskOk (2 ^ x.toNat) [x] := by
  obtain ⟨k, rfl⟩ := Int.eq_ofNat_of_zero_le x0
  refine ⟨2 ^ k, by simp, pow_lt256 (by omega), fun z hz => ?_⟩
  rw [Nat.testBit_two_pow]
  apply decide_eq_decide.2
  simp; omega
theorem MaskOk.nil : MaskOk 0 [] := ⟨0, rfl, by omega, fun z _ => by simp⟩
theorem MaskOk.add {M : Int} {q : List Int} (h : MaskOk M q) {z : Int} (z0 : 0 ≤ z) (z7 : z ≤ 7) : MaskOk (bits .or .i64 M (2 ^ z.toNat)) (q ++ [z]) := by
  obtain ⟨m, rfl, h1, h2⟩ := h
  obtain ⟨k, rfl⟩ := Int.eq_ofNat_of_zero_le z0
  have hk := pow_lt256 (show k < 8 by omega)
  have e : (2 : Int) ^ (k : Int).toNat = ((2 ^ k : Nat) : Int) := by simp
  rw [e, bitsOr m (2 ^ k) (by omega) (by omega)]
  refine ⟨m ||| 2 ^ k, rfl, Nat.or_lt_two_pow (n := 8) h1 hk, fun y hy => ?_⟩
  rw [Nat.testBit_or, h2 y hy, Nat.testBit_two_pow]
  by_cases e1 : (y : Int) ∈ q
  · simp [e1]
  · by_cases e2 : k = y
    · subst e2; simp
    · simp [e1, e2]; omega
theorem MaskOk.same {M : Int} {q q' : List Int} (h : MaskOk M q) (e : ∀ z, z ∈ q ↔ z ∈ q') : MaskOk M q' := by
  obtain ⟨m, rfl, h1, h2⟩ := h
  exact ⟨m, rfl, h1, fun z hz => by rw [h2 z hz]; exact decide_eq_decide.2 (e z)⟩
theorem MaskOk.ext {M M' : Int} {q : List Int} (h : MaskOk M q) (h' : MaskOk M' q) : M = M' := by
  obtain ⟨m, rfl, h1, h2⟩ := h
  obtain ⟨n, rfl, g1, g2⟩ := h'
  have : m = n := by
    apply Nat.eq_of_testBit_eq
    intro i
    by_cases hi : i < 8
    · rw [h2 i hi, g2 i hi]
    · have p : 256 ≤ 2 ^ i := by
        have : 2 ^ 8 ≤ 2 ^ i := Nat.pow_le_pow_right (by omega) (by omega)
        exact this
      rw [Nat.testBit_lt_two_pow (by omega), Nat.testBit_lt_two_pow (by omega)]
  rw [this]

theorem netP_of {n : Nat} {ts : List T3} {x y : Int} (h : netOk (n : Int) ts = true) (x0 : 0 ≤ x) (x1 : x ≤ n - 1) (y0 : 0 ≤ y) (y1 : y ≤ n - 1) (hxy : x ≠ y) : NetP n ts x y := by
  obtain ⟨_, _, hl, hall⟩ := netOk_parts h
  exact ⟨fun t ht => by have := pipeOk_iff.1 (hall t ht); omega, fun t ht => by have := pipeOk_iff.1 (hall t ht); omega, hl, x0, by omega, y0, by omega, hxy⟩
theorem inP_of {n : Nat} {ts : List T3} (h : netOk (n : Int) ts = true) : inP n ts := by
  obtain ⟨_, _, hl, hall⟩ := netOk_parts h
  exact fun t ht => by have := pipeOk_iff.1 (hall t ht); omega

theorem OwnsI.one (base : Nat) (w : World) (x : Int) (h : base ≤ w.heap.size) : OwnsI base (w.alloc (.cells #[.int .i64 x] 3)) (.slice (some ⟨w.heap.size, 0, none⟩) 1 1) [x] :=
  ⟨by simp, .inr ⟨w.heap.size, 1, #[.int .i64 x], rfl, h, heap_alloc_new w _, Nat.le_refl _, by unfold maxLen; omega, rfl, by simp⟩⟩

end Go.Proofs.Yteimcbhnjhkkbaa
