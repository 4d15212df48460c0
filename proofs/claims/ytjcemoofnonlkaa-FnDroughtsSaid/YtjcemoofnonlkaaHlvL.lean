/- The rule of halves, in plain Lean: sums, claims, pairs. -/
import Derived.Test.YtjcemoofnonlkaaHalf2
import Derived.Test.YtjcemoofnonlkaaLossM
import Derived.Test.YtjcemoofnonlkaaPair2
namespace Go.Proofs.Ytjcemoofnonlkaa
set_option linter.unusedSimpArgs false
set_option linter.unusedVariables false
open Go.RowKit

theorem epGo_part (l : List Int) (h left : Int) (k : Nat) (hk : k < l.length) :
    (epGo l h left).getD k 0 = min h (l.getD k 0) ∨ ((epGo l h left).getD k 0 = min h (l.getD k 0) + 1 ∧ h < l.getD k 0) := by
  induction l generalizing left k with
  | nil => simp at hk
  | cons c l ih =>
    cases k with
    | zero =>
      rw [epGo]
      split
      · rename_i hh; right; simp; exact hh.1
      · left; simp
    | succ k =>
      have hk' : k < l.length := by simpa using hk
      rw [epGo]
      split
      · simpa using ih (left - 1) k hk'
      · simpa using ih left k hk'

theorem ep_parts {xs : List Int} {water : Int} (hd : dryM xs water = true) :
    ∃ H : Int, 0 ≤ H ∧ ∀ k, k < xs.length → (epM xs water).getD k 0 = min H (xs.getD k 0) ∨ ((epM xs water).getD k 0 = min H (xs.getD k 0) + 1 ∧ H < xs.getD k 0) := by
  unfold epM
  rw [if_pos hd]
  split
  · refine ⟨80000, by omega, fun k hk => ?_⟩
    have := (dryM_spec hd).1.2.2 _ (getD_mem' hk)
    left; omega
  · rename_i hle
    exact ⟨_, (lev_at hd hle).1, fun k hk => epGo_part _ _ _ k hk⟩

theorem zip_getD (f : Int → Int → Int) (xs ys : List Int) (k : Nat) (h1 : k < xs.length) (h2 : k < ys.length) : (List.zipWith f xs ys).getD k 0 = f (xs.getD k 0) (ys.getD k 0) := by
  have := zip_drop f xs ys k h1 h2
  have e : (List.zipWith f xs ys).drop k = List.zipWith f (xs.drop k) (ys.drop k) := List.drop_zipWith
  rw [← e] at this
  have hl : k < (List.zipWith f xs ys).length := by simp; omega
  rw [drop_getD _ k hl] at this
  injection this

theorem zip_sum (xs ys : List Int) (h : xs.length = ys.length) : (List.zipWith (fun c l => 2 * c - l) xs ys).sum = 2 * xs.sum - ys.sum := by
  induction xs generalizing ys with
  | nil => cases ys with
    | nil => rfl
    | cons y r => simp at h
  | cons x l ih => cases ys with
    | nil => simp at h
    | cons y r =>
      have := ih r (by simpa using h)
      simp only [List.zipWith_cons_cons, List.sum_cons, this]
      omega

/-- How two halves lie to each other: with a height H, from below or from above. -/
def halfShape (xs hs : List Int) : Prop := ∃ H : Int, 0 ≤ H ∧
  ((∀ k, k < xs.length → hs.getD k 0 = min H (xs.getD k 0) ∨ (hs.getD k 0 = min H (xs.getD k 0) + 1 ∧ H < xs.getD k 0)) ∨
   (∀ k, k < xs.length → 2 * xs.getD k 0 - hs.getD k 0 = min H (xs.getD k 0) ∨ (2 * xs.getD k 0 - hs.getD k 0 = min H (xs.getD k 0) + 1 ∧ H < xs.getD k 0)))

theorem shape_pair {xs hs : List Int} (h : halfShape xs hs) (hb : ∀ k, k < xs.length → 0 ≤ xs.getD k 0) (i k : Nat) (hi : i < xs.length) (hk : k < xs.length) :
    -2 ≤ conX (2 * xs.getD i 0) (2 * xs.getD k 0) (hs.getD i 0 + hs.getD k 0) - 2 * hs.getD i 0 ∧ conX (2 * xs.getD i 0) (2 * xs.getD k 0) (hs.getD i 0 + hs.getD k 0) - 2 * hs.getD i 0 ≤ 2 ∧ -2 ≤ conY (2 * xs.getD i 0) (2 * xs.getD k 0) (hs.getD i 0 + hs.getD k 0) - 2 * hs.getD k 0 ∧ conY (2 * xs.getD i 0) (2 * xs.getD k 0) (hs.getD i 0 + hs.getD k 0) - 2 * hs.getD k 0 ≤ 2 := by
  obtain ⟨H, h0, h1⟩ := h
  have b1 := hb i hi
  have b2 := hb k hk
  rcases h1 with h1 | h1
  · have p1 := h1 i hi
    have p2 := h1 k hk
    generalize xs.getD i 0 = x at *
    generalize xs.getD k 0 = y at *
    generalize hs.getD i 0 = a at *
    generalize hs.getD k 0 = b at *
    unfold conX conY
    omega
  · have p1 := h1 i hi
    have p2 := h1 k hk
    generalize xs.getD i 0 = x at *
    generalize xs.getD k 0 = y at *
    generalize hs.getD i 0 = a at *
    generalize hs.getD k 0 = b at *
    unfold conX conY
    omega

/-- What the law asks of halves. -/
structure HalfLaw (xs : List Int) (water : Int) (hs : List Int) : Prop where
  len : hs.length = xs.length
  shape : halfShape xs hs
  inn : ∀ k, k < xs.length → 0 ≤ hs.getD k 0 ∧ hs.getD k 0 ≤ 2 * xs.getD k 0
  low : 2 * water ≤ xs.sum → ∀ k, k < xs.length → hs.getD k 0 ≤ xs.getD k 0
  high : xs.sum ≤ 2 * water → ∀ k, k < xs.length → xs.getD k 0 ≤ hs.getD k 0
  all : hs.sum = 2 * min water xs.sum

theorem half_law {xs : List Int} {water : Int} (hd : dryM xs water = true) : HalfLaw xs water (halfM xs water) := by
  have hs := dry_sum hd
  have hw := (dryM_spec hd).2
  have hb := (dryM_spec hd).1.2.2
  unfold halfM
  rw [if_pos hd]
  split
  · rename_i hle
    have hd2 : dryM xs (2 * water) = true := dry_water hd (by omega) (by omega)
    have hin := fun k hk => epM_in hd2 k hk
    obtain ⟨H, h0, hp⟩ := ep_parts hd2
    have hsum := epM_sum hd2
    refine ⟨epM_pos hd2, ⟨H, h0, .inl hp⟩, fun k hk => ?_, fun _ k hk => (hin k hk).2, fun hle2 k hk => ?_, by rw [hsum]; omega⟩
    · have := hin k hk; omega
    · have e : epM xs (2 * water) = xs := by unfold epM; rw [if_pos hd2, if_pos (by omega)]
      rw [e]; exact Int.le_refl _
  · rename_i hle
    have hd2 : dryM xs (max 0 (2 * xs.sum - 2 * water)) = true := dry_water hd (by omega) (by omega)
    have hin := fun k hk => epM_in hd2 k hk
    obtain ⟨H, h0, hp⟩ := ep_parts hd2
    have hsum := epM_sum hd2
    have hlen := epM_pos hd2
    generalize epM xs (max 0 (2 * xs.sum - 2 * water)) = E at *
    have hz : ∀ k, k < xs.length → (List.zipWith (fun c l => 2 * c - l) xs E).getD k 0 = 2 * xs.getD k 0 - E.getD k 0 := fun k hk => zip_getD _ xs E k hk (by omega)
    refine ⟨by simp; omega, ⟨H, h0, .inr fun k hk => ?_⟩, fun k hk => ?_, fun h => absurd h hle, fun _ k hk => ?_, by rw [zip_sum xs E hlen.symm, hsum]; omega⟩
    · rw [hz k hk]; have := hp k hk; omega
    · rw [hz k hk]; have := hin k hk; omega
    · rw [hz k hk]; have := hin k hk; omega

theorem half_pairs {xs : List Int} {water : Int} (hd : dryM xs water = true) : PairP xs (halfM xs water) := by
  have h := half_law hd
  have hb := (dryM_spec hd).1.2.2
  refine ⟨by simp only [dryM, Bool.and_eq_true] at hd; exact hd.1, h.len, h.inn, fun i k hik hk => ?_⟩
  have := shape_pair h.shape (fun j hj => (hb _ (getD_mem' hj)).1) i k (by omega) hk
  show pairOk _ _ _ _
  unfold pairOk
  omega

/-- Of two claims: as by the contest, but for one half. -/
theorem half_two {a b v : Int} (ha : 0 ≤ a ∧ a ≤ 255) (hb : 0 ≤ b ∧ b ≤ 255) (hv : 0 ≤ v ∧ v ≤ 255) :
    ∃ x y, halfM [a, b] v = [x, y] ∧ x - conX a b v ≤ 1 ∧ conX a b v - x ≤ 1 ∧ y - conY a b v ≤ 1 ∧ conY a b v - y ≤ 1 := by
  have hd : dryM [a, b] v = true := by
    simp only [dryM, clOk, allB, Bool.and_eq_true, List.all_eq_true]
    refine ⟨⟨inB_iff.2 (by simp), fun x hx => inB_iff.2 ?_⟩, inB_iff.2 (by omega)⟩
    simp at hx; omega
  have h := half_law hd
  have hp := shape_pair h.shape (fun j hj => ((dryM_spec hd).1.2.2 _ (getD_mem' hj)).1) 0 1 (by simp) (by simp)
  have hall := h.all
  have hl := h.len
  generalize halfM [a, b] v = M at *
  match M, hl with
  | [x, y], _ =>
    refine ⟨x, y, rfl, ?_⟩
    simp at hp hall
    unfold conX conY at *
    omega

theorem con_all {a b v : Int} (ha : 0 ≤ a ∧ a ≤ 255) (hb : 0 ≤ b ∧ b ≤ 255) (hv : 0 ≤ v ∧ v ≤ 255) :
    conX a b v + conY a b v = 2 * min v (a + b) ∧ conX b a v = conY a b v ∧ conY b a v = conX a b v ∧ 0 ≤ conX a b v ∧ conX a b v ≤ 2 * a := by
  unfold conX conY
  omega

end Go.Proofs.Ytjcemoofnonlkaa
