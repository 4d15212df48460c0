/- What the law on fractions asks, in plain Lean. -/
import Derived.Test.YtbimjiiielbjbaaDoorText
namespace Go.Proofs.YtbimjiiielbjbaaDoor
set_option linter.unusedSimpArgs false
set_option linter.unusedVariables false
open Go.RowKit

/-- Of two small numbers the fraction is made. -/
theorem red_small {n m : Int} (hn : 0 ≤ n) (hn' : n ≤ 10000) (hm : 1 ≤ m) (hm' : m ≤ 10000) :
    ∃ t b g : Int, redM n m = some (t, b) ∧ frOk t b = true ∧ 1 ≤ g ∧ n = g * t ∧ m = g * b ∧ 1 ≤ b ∧ b ≤ m ∧ 0 ≤ t ∧ t ≤ n := by
  have hg := gcd_pos n m (by omega)
  have h1 : Int.gcd (n / (Int.gcd n m : Int)) (m / (Int.gcd n m : Int)) = 1 := Int.gcd_ediv_gcd_ediv_gcd (by omega)
  have hq : 1 ≤ m / (Int.gcd n m : Int) := by
    have := Int.ediv_pos_of_pos_of_dvd (show 0 < m by omega) (by omega) (Int.gcd_dvd_right (a := n) (b := m))
    omega
  have hq' : m / (Int.gcd n m : Int) ≤ m := Int.ediv_le_self _ (by omega)
  have ht : 0 ≤ n / (Int.gcd n m : Int) := Int.ediv_nonneg hn (by omega)
  have ht' : n / (Int.gcd n m : Int) ≤ n := Int.ediv_le_self _ hn
  have en : n = (Int.gcd n m : Int) * (n / (Int.gcd n m : Int)) := (Int.mul_ediv_cancel' (Int.gcd_dvd_left (a := n) (b := m))).symm
  have em : m = (Int.gcd n m : Int) * (m / (Int.gcd n m : Int)) := (Int.mul_ediv_cancel' (Int.gcd_dvd_right (a := n) (b := m))).symm
  have hok : frOk (n / (Int.gcd n m : Int)) (m / (Int.gcd n m : Int)) = true := by
    simp only [frOk, h1, Bool.and_eq_true]
    exact ⟨⟨inB_iff.2 (by omega), inB_iff.2 (by omega)⟩, by decide⟩
  exact ⟨_, _, _, by unfold redM; rw [if_pos hok], hok, by omega, en, em, hq, hq', ht, ht'⟩

theorem frOk_gcd {a b : Int} (h : frOk a b = true) : Int.gcd a b = 1 := by
  simp only [frOk, Bool.and_eq_true, beq_iff_eq] at h
  have := h.2
  omega

/-- Two reduced fractions of one value are one. -/
theorem fr_same {a b c d : Int} (h : frOk a b = true) (k : frOk c d = true) (e : a * d = c * b) : a = c ∧ b = d := by
  obtain ⟨h1, h2, h3, h4⟩ := frOk_bd h
  obtain ⟨k1, k2, k3, k4⟩ := frOk_bd k
  have g1 := frOk_gcd h
  have g2 := frOk_gcd k
  obtain ⟨A, rfl⟩ := Int.eq_ofNat_of_zero_le h3
  obtain ⟨B, rfl⟩ := Int.eq_ofNat_of_zero_le (show 0 ≤ b by omega)
  obtain ⟨C, rfl⟩ := Int.eq_ofNat_of_zero_le k3
  obtain ⟨D, rfl⟩ := Int.eq_ofNat_of_zero_le (show 0 ≤ d by omega)
  rw [Int.gcd_natCast_natCast] at g1 g2
  have e' : A * D = C * B := by exact_mod_cast e
  have d1 : B ∣ D := (Nat.Coprime.symm g1).dvd_of_dvd_mul_left (⟨C, by rw [e', Nat.mul_comm]⟩ : B ∣ A * D)
  have d2 : D ∣ B := (Nat.Coprime.symm g2).dvd_of_dvd_mul_left (⟨A, by rw [← e', Nat.mul_comm]⟩ : D ∣ C * B)
  have eq : B = D := Nat.dvd_antisymm d1 d2
  subst eq
  have : A = C := Nat.eq_of_mul_eq_mul_right (by omega) e'
  subst this
  exact ⟨rfl, rfl⟩

def smallF (a b : Int) : Prop := frOk a b = true ∧ a ≤ 39 ∧ b ≤ 40

theorem mk_small {n m : Int} (hn : 0 ≤ n) (hn' : n ≤ 39) (hm : 1 ≤ m) (hm' : m ≤ 40) : ∃ t b, mkM n m = some (t, b) ∧ smallF t b := by
  obtain ⟨t, b, g, h1, h2, h3, h4, h5, h6, h7, h8, h9⟩ := red_small hn (by omega) hm (by omega)
  refine ⟨t, b, ?_, h2, by omega, by omega⟩
  unfold mkM
  rw [inB_iff.2 (show 0 ≤ n ∧ n ≤ 100000000 by omega), inB_iff.2 (show 1 ≤ m ∧ m ≤ 100000000 by omega), ← h1]
  rfl

structure FracLaw (a b c d x y p q : Int) : Prop where
  add : addM a b c d = some (x, y)
  add' : addM c d a b = some (x, y)
  mul : timesM a b c d = some (p, q)
  mul' : timesM c d a b = some (p, q)
  okx : frOk x y = true
  okp : frOk p q = true
  valx : x * b * d = (a * d + c * b) * y
  valp : p * b * d = a * c * q
  neg : cmpM a b c d = -cmpM c d a b
  same : (cmpM a b c d == 0) = (a == c && b == d)
  more : cmpM x y a b = if 0 < c then 1 else 0
  three : mkM (3 * a) (3 * b) = some (a, b)

theorem mul_two {x y X Y : Int} (hx : 0 ≤ x) (hx' : x ≤ X) (hy : 0 ≤ y) (hy' : y ≤ Y) : 0 ≤ x * y ∧ x * y ≤ X * Y := mul_bound hx hx' hy hy'

theorem frac_law {a b c d : Int} (h : smallF a b) (k : smallF c d) : ∃ x y p q, FracLaw a b c d x y p q := by
  obtain ⟨hok, ha, hb⟩ := h
  obtain ⟨kok, hc, hd⟩ := k
  obtain ⟨b1, _, a0, _⟩ := frOk_bd hok
  obtain ⟨d1, _, c0, _⟩ := frOk_bd kok
  have m1 := mul_two a0 ha (show 0 ≤ d by omega) hd
  have m2 := mul_two c0 hc (show 0 ≤ b by omega) hb
  have m3 := mul_two (show 0 ≤ b by omega) hb (show 0 ≤ d by omega) hd
  have m4 := mul_two a0 ha c0 hc
  have m5 : 1 ≤ b * d := mul_pos' b1 d1
  obtain ⟨x, y, g, r1, r2, r3, r4, r5, r6, r7, r8, r9⟩ := red_small (n := a * d + c * b) (m := b * d) (by omega) (by omega) m5 (by omega)
  obtain ⟨p, q, g', s1, s2, s3, s4, s5, s6, s7, s8, s9⟩ := red_small (n := a * c) (m := b * d) (by omega) (by omega) m5 (by omega)
  refine ⟨x, y, p, q, ?_, ?_, ?_, ?_, r2, s2, ?_, ?_, ?_, ?_, ?_, ?_⟩
  · simp only [addM, hok, kok]; exact r1
  · simp only [addM, hok, kok]; rw [Int.add_comm, Int.mul_comm d b]; exact r1
  · simp only [timesM, hok, kok]; exact s1
  · simp only [timesM, hok, kok]; rw [Int.mul_comm c a, Int.mul_comm d b]; exact s1
  · rw [r4, Int.mul_assoc, r5]; simp only [Int.mul_assoc, Int.mul_comm, Int.mul_left_comm]
  · rw [s4, Int.mul_assoc, s5]; simp only [Int.mul_assoc, Int.mul_comm, Int.mul_left_comm]
  · simp only [cmpM, hok, kok, Bool.and_self, if_true]
    split <;> split <;> (try split) <;> omega
  · simp only [cmpM, hok, kok, Bool.and_self, if_true]
    by_cases e : a * d = c * b
    · obtain ⟨rfl, rfl⟩ := fr_same hok kok e
      simp
    · have hne : ¬ (a = c ∧ b = d) := by
        rintro ⟨rfl, rfl⟩; exact e rfl
      have hf : (a == c && b == d) = false := by
        rw [← Bool.not_eq_true]; simpa using hne
      rw [hf, beq_eq_false_iff_ne]
      split
      · omega
      · split <;> omega
  · simp only [cmpM, hok, r2, Bool.and_self, if_true]
    have e1 : g * (x * b) = (a * d + c * b) * b := by rw [r4, Int.mul_assoc]
    have e2 : g * (a * y) = a * d * b := by
      rw [show g * (a * y) = a * (g * y) by simp only [Int.mul_left_comm], ← r5, Int.mul_assoc, Int.mul_comm d b]
    have e3 : g * (x * b) - g * (a * y) = c * b * b := by rw [e1, e2, Int.add_mul]; omega
    by_cases hc0 : 0 < c
    · have : 0 < c * b * b := Int.mul_pos (Int.mul_pos hc0 (by omega)) (by omega)
      have hlt : a * y < x * b := Int.lt_of_mul_lt_mul_left (a := g) (by omega) (by omega)
      rw [if_neg (by omega), if_pos hlt, if_pos hc0]
    · have hz : c = 0 := by omega
      subst hz
      have : g * (x * b) = g * (a * y) := by simp at e3; omega
      have := Int.eq_of_mul_eq_mul_left (by omega) this
      rw [if_neg (by omega), if_neg (by omega), if_neg hc0]
  · unfold mkM redM
    have hg : Int.gcd (3 * a) (3 * b) = 3 := by rw [Int.gcd_mul_left, frOk_gcd hok]; rfl
    rw [inB_iff.2 (show 0 ≤ 3 * a ∧ 3 * a ≤ 100000000 by omega), inB_iff.2 (show 1 ≤ 3 * b ∧ 3 * b ≤ 100000000 by omega), hg]
    have e1 : 3 * a / ((3 : Nat) : Int) = a := by omega
    have e2 : 3 * b / ((3 : Nat) : Int) = b := by omega
    rw [e1, e2, hok]
    rfl

theorem part_law {a b n : Int} (h : smallF a b) (h0 : 0 ≤ n) (h1 : n ≤ 255) :
    partM a b n * b ≤ n * a ∧ n * a < (partM a b n + 1) * b ∧ 0 ≤ partM a b n ∧ partM a b n ≤ 10000 ∧ partM a b n = n * a / b := by
  obtain ⟨hok, ha, hb⟩ := h
  obtain ⟨b1, _, a0, _⟩ := frOk_bd hok
  have e : partM a b n = n * a / b := by simp [partM, hok, inB_iff.2 (show 0 ≤ n ∧ n ≤ 1000000 by omega)]
  have m := mul_two h0 h1 a0 ha
  rw [e]
  have l1 := Int.ediv_mul_le (n * a) (show b ≠ 0 by omega)
  have l2 := Int.lt_ediv_add_one_mul_self (n * a) (show 0 < b by omega)
  have l3 := Int.ediv_nonneg m.1 (show 0 ≤ b by omega)
  have l4 := Int.ediv_le_self b m.1
  exact ⟨l1, l2, l3, by omega, rfl⟩

theorem frac_pos (a b : Int) (h : smallF a b) : 0 < (fracS a b).size ∧ (fracS a b).size ≤ 11 := by
  obtain ⟨b1, b2, a0, a1⟩ := frOk_bd h.1
  have hp : ∀ n : Int, 1 ≤ (numS n).size := fun n => by
    simp only [numS, ByteArray.size, List.size_toArray, Lib.decDigits_length]; exact Lib.nDigits_pos _
  have h1 := hp a
  have h2 := num_size a0 a1
  have h3 := num_size (show 0 ≤ b by omega) b2
  unfold fracS
  rw [if_pos h.1]
  split
  · omega
  · rw [ByteArray.size_append, ByteArray.size_append]
    have : (⟨#[47]⟩ : ByteArray).size = 1 := rfl
    omega

theorem frac_34 : fracS 3 4 = ⟨#[51, 47, 52]⟩ := by
  have h : frOk 3 4 = true := by decide
  unfold fracS
  rw [if_pos h, if_neg (by decide)]
  have e1 : numS 3 = ⟨#[51]⟩ := by
    show (⟨(Lib.decDigits 3).toArray⟩ : ByteArray) = _
    rw [Lib.decDigits_one (by omega)]; rfl
  have e2 : numS 4 = ⟨#[52]⟩ := by
    show (⟨(Lib.decDigits 4).toArray⟩ : ByteArray) = _
    rw [Lib.decDigits_one (by omega)]; rfl
  rw [e1, e2]; rfl

end Go.Proofs.YtbimjiiielbjbaaDoor
