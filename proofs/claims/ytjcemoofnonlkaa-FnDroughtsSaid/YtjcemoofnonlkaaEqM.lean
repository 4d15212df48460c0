/- Equal parts, in plain Lean: the height to which all are filled. No program in sight. -/
import Derived.Test.YtjcemoofnonlkaaDry
namespace Go.Proofs.Ytjcemoofnonlkaa
set_option linter.unusedSimpArgs false
set_option linter.unusedVariables false

def under (xs : List Int) (h : Int) : Int := (xs.map fun c => min h c).sum

theorem under_nil (h : Int) : under [] h = 0 := rfl
theorem under_cons (c : Int) (l : List Int) (h : Int) : under (c :: l) h = min h c + under l h := by simp [under]

theorem under_append (l r : List Int) (h : Int) : under (l ++ r) h = under l h + under r h := by simp [under]
theorem under_take (xs : List Int) (h : Int) (k : Nat) (hk : k < xs.length) : under (xs.take (k + 1)) h = under (xs.take k) h + min h (xs.getD k 0) := by
  rw [List.take_succ_eq_append_getElem hk, under_append, under_cons, under_nil]
  simp [List.getD_eq_getElem?_getD, hk]

theorem under_mono (xs : List Int) {h h' : Int} (hh : h ≤ h') : under xs h ≤ under xs h' := by
  induction xs with
  | nil => simp [under]
  | cons c l ih => rw [under_cons, under_cons]; omega

theorem under_zero (xs : List Int) (hb : ∀ x ∈ xs, 0 ≤ x) : under xs 0 = 0 := by
  induction xs with
  | nil => rfl
  | cons c l ih =>
    have h1 := hb c (by simp)
    rw [under_cons, ih (fun x hx => hb x (by simp [hx]))]; omega

theorem under_top (xs : List Int) (B h : Int) (hb : ∀ x ∈ xs, x ≤ B) (hB : B ≤ h) : under xs h = xs.sum := by
  induction xs with
  | nil => rfl
  | cons c l ih =>
    have h1 := hb c (by simp)
    rw [under_cons, ih (fun x hx => hb x (by simp [hx])), List.sum_cons]; omega

theorem under_bound (xs : List Int) (h : Int) (B : Int) (h0 : 0 ≤ h) (hB : 0 ≤ B) (hb : ∀ x ∈ xs, 0 ≤ x ∧ x ≤ B) : 0 ≤ under xs h ∧ under xs h ≤ B * xs.length := by
  induction xs with
  | nil => simp [under]
  | cons c l ih =>
    have h1 := hb c (by simp)
    have h2 := ih (fun x hx => hb x (by simp [hx]))
    rw [under_cons]
    simp only [List.length_cons, Int.natCast_add, Int.mul_add]
    omega

/-- The greatest height up to n at which the parts are together at most the water. -/
def lev (xs : List Int) (water : Int) : Nat → Int
  | 0 => 0
  | n + 1 => if under xs ((n : Int) + 1) ≤ water then (n : Int) + 1 else lev xs water n

theorem lev_spec (xs : List Int) (water : Int) (n : Nat) (h0 : under xs 0 ≤ water) :
    0 ≤ lev xs water n ∧ lev xs water n ≤ n ∧ under xs (lev xs water n) ≤ water ∧ ∀ m : Int, lev xs water n < m → m ≤ n → water < under xs m := by
  induction n with
  | zero => exact ⟨Int.le_refl _, Int.le_refl _, h0, fun m h1 h2 => by simp [lev] at h1; simp at h2; omega⟩
  | succ n ih =>
    obtain ⟨i1, i2, i3, i4⟩ := ih
    by_cases h : under xs ((n : Int) + 1) ≤ water
    · rw [lev, if_pos h]
      exact ⟨by omega, by simp, h, fun m h1 h2 => by simp at h2; omega⟩
    · rw [lev, if_neg h]
      refine ⟨i1, by simp; omega, i3, fun m h1 h2 => ?_⟩
      by_cases hm : m ≤ n
      · exact i4 m h1 hm
      · have : m = (n : Int) + 1 := by simp at h2; omega
        subst this; omega

theorem lev_unique (xs : List Int) (water : Int) (n : Nat) (h : Int) (h0 : 0 ≤ h) (hn : h ≤ n) (h1 : under xs h ≤ water) (h2 : water < under xs (h + 1)) : lev xs water n = h := by
  have hz : under xs 0 ≤ water := Int.le_trans (under_mono xs h0) h1
  obtain ⟨i1, i2, i3, i4⟩ := lev_spec xs water n hz
  rcases Int.lt_trichotomy (lev xs water n) h with h3 | h3 | h3
  · have := i4 h h3 hn; omega
  · exact h3
  · have := under_mono xs (show h + 1 ≤ lev xs water n by omega); omega

/-- All are filled to the height h; what is left goes a liter each to the first that want more. -/
def epGo : List Int → Int → Int → List Int
  | [], _, _ => []
  | c :: l, h, left => if h < c ∧ 0 < left then (min h c + 1) :: epGo l h (left - 1) else min h c :: epGo l h left

def epM (xs : List Int) (water : Int) : List Int :=
  if dryM xs water then (if xs.sum ≤ water then xs else epGo xs (lev xs water 80000) (water - under xs (lev xs water 80000))) else []

theorem epGo_length (xs : List Int) (h left : Int) : (epGo xs h left).length = xs.length := by
  induction xs generalizing left with
  | nil => rfl
  | cons c l ih => rw [epGo]; split <;> simp [ih]

theorem epM_length (xs : List Int) (water : Int) (hn : xs.length ≤ 1048576) : (epM xs water).length ≤ 1048576 := by
  unfold epM; split
  · split
    · exact hn
    · rw [epGo_length]; exact hn
  · simp

theorem epM_pos {xs : List Int} {water : Int} (h : dryM xs water = true) : (epM xs water).length = xs.length := by
  unfold epM; rw [if_pos h]; split
  · rfl
  · exact epGo_length _ _ _

/-- Where the water does not suffice: what the height is. -/
theorem lev_at {xs : List Int} {water : Int} (hd : dryM xs water = true) (hs : ¬ xs.sum ≤ water) :
    0 ≤ lev xs water 80000 ∧ lev xs water 80000 < 80000 ∧ under xs (lev xs water 80000) ≤ water ∧ water < under xs (lev xs water 80000 + 1) := by
  obtain ⟨⟨_, _, hb⟩, hw, _⟩ := dryM_spec hd
  have hz : under xs 0 ≤ water := by rw [under_zero xs (fun x hx => (hb x hx).1)]; exact hw
  obtain ⟨i1, i2, i3, i4⟩ := lev_spec xs water 80000 hz
  have ht := under_top xs 80000 80000 (fun x hx => (hb x hx).2) (Int.le_refl _)
  have hne : lev xs water 80000 ≠ 80000 := by intro e; rw [e] at i3; omega
  have h5 : lev xs water 80000 < 80000 := by simp at i2; omega
  exact ⟨i1, h5, i3, i4 _ (by omega) (by simp; omega)⟩

end Go.Proofs.Ytjcemoofnonlkaa
