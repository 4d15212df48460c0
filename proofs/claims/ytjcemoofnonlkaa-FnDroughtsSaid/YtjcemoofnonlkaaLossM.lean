/- Equal parts: their sum. Equal losses, in plain Lean. -/
import Derived.Test.YtjcemoofnonlkaaHalf
namespace Go.Proofs.Ytjcemoofnonlkaa
set_option linter.unusedSimpArgs false
set_option linter.unusedVariables false
open Go.RowKit

/-- How many want more than h. -/
def cnt : List Int → Int → Int
  | [], _ => 0
  | c :: l, h => (if h < c then 1 else 0) + cnt l h

theorem cnt_nonneg (l : List Int) (h : Int) : 0 ≤ cnt l h := by
  induction l with
  | nil => exact Int.le_refl _
  | cons c l ih => rw [cnt]; split <;> omega

theorem under_succ (l : List Int) (h : Int) : under l (h + 1) = under l h + cnt l h := by
  induction l with
  | nil => rfl
  | cons c l ih => rw [under_cons, under_cons, cnt, ih]; split <;> omega

theorem epGo_sum (l : List Int) (h left : Int) (hl : 0 ≤ left) : (epGo l h left).sum = under l h + min left (cnt l h) := by
  induction l generalizing left with
  | nil => simp [epGo, under, cnt]; omega
  | cons c l ih =>
    have hn := cnt_nonneg l h
    rw [epGo, under_cons, cnt]
    by_cases hc : h < c
    · by_cases hp : 0 < left
      · rw [if_pos ⟨hc, hp⟩, List.sum_cons, ih (left - 1) (by omega), if_pos hc]; omega
      · rw [if_neg (by omega), List.sum_cons, ih left hl, if_pos hc]; omega
    · rw [if_neg (by omega), List.sum_cons, ih left hl, if_neg hc]; omega

theorem epM_sum {xs : List Int} {water : Int} (hd : dryM xs water = true) : (epM xs water).sum = min water xs.sum := by
  unfold epM
  rw [if_pos hd]
  split
  · omega
  · rename_i hle
    obtain ⟨h0, h1, h2, h3⟩ := lev_at hd hle
    rw [epGo_sum _ _ _ (by omega)]
    rw [under_succ] at h3
    omega

theorem sum_nonneg (l : List Int) (hb : ∀ k, k < l.length → 0 ≤ l.getD k 0) : 0 ≤ l.sum := by
  induction l with
  | nil => simp
  | cons c l ih =>
    have h1 := hb 0 (by simp)
    have h2 := ih (fun k hk => by simpa using hb (k + 1) (by simpa using hk))
    simp at h1
    rw [List.sum_cons]; omega

theorem sum_zero (l : List Int) (hb : ∀ k, k < l.length → 0 ≤ l.getD k 0) (hs : l.sum = 0) (k : Nat) (hk : k < l.length) : l.getD k 0 = 0 := by
  induction l generalizing k with
  | nil => simp at hk
  | cons c l ih =>
    have h1 := hb 0 (by simp)
    have hb' : ∀ k, k < l.length → 0 ≤ l.getD k 0 := fun k hk => by simpa using hb (k + 1) (by simpa using hk)
    have h2 := sum_nonneg l hb'
    simp at h1
    rw [List.sum_cons] at hs
    cases k with
    | zero => simp; omega
    | succ k => simpa using ih hb' (by omega) k (by simpa using hk)

def lossM (xs : List Int) (water : Int) : List Int :=
  if dryM xs water then List.zipWith (fun c l => c - l) xs (epM xs (max 0 (xs.sum - water))) else []

theorem loss_dry {xs : List Int} {water : Int} (hd : dryM xs water = true) : dryM xs (max 0 (xs.sum - water)) = true :=
  dry_water hd (by omega) (by have := dry_sum hd; have := (dryM_spec hd).2; omega)

theorem loss_all {xs : List Int} {water : Int} (hd : dryM xs water = true) (h : xs.sum ≤ water) : lossM xs water = xs := by
  unfold lossM
  rw [if_pos hd]
  have hd0 := loss_dry hd
  have e : max 0 (xs.sum - water) = 0 := by omega
  rw [e] at hd0 ⊢
  have hl := epM_pos hd0
  have hs := epM_sum hd0
  have hsum := dry_sum hd
  have hz := sum_zero (epM xs 0) (fun k hk => (epM_in hd0 k (by omega)).1) (by omega)
  apply List.ext_getElem
  · simp [hl]
  · intro k h1 h2
    have h3 : k < (epM xs 0).length := by omega
    have h4 := hz k h3
    simp only [List.getElem_zipWith]
    rw [List.getD_eq_getElem?_getD, List.getElem?_eq_getElem h3] at h4
    simp at h4
    omega

theorem lossM_length (xs : List Int) (water : Int) (hn : xs.length ≤ 1048576) : (lossM xs water).length ≤ 1048576 := by
  unfold lossM; split
  · simp; omega
  · simp

/-- After k steps in place. -/
def zipK (xs L : List Int) (k : Nat) : List Int := List.zipWith (fun c l => c - l) (xs.take k) (L.take k) ++ xs.drop k

theorem zipK_length (xs L : List Int) (k : Nat) (h1 : k ≤ xs.length) (h2 : k ≤ L.length) : (zipK xs L k).length = xs.length := by
  simp [zipK]; omega
theorem zipK_getD (xs L : List Int) (k : Nat) (h1 : k < xs.length) (h2 : k ≤ L.length) : (zipK xs L k).getD k 0 = xs.getD k 0 := by
  unfold zipK
  rw [drop_getD xs k h1, List.getD_eq_getElem?_getD, List.getElem?_append_right (by simp; omega)]
  simp [show min k xs.length = k by omega, show min k L.length = k by omega]
theorem zipK_step (xs L : List Int) (k : Nat) (h1 : k < xs.length) (h2 : k < L.length) : (zipK xs L k).set k (xs.getD k 0 - L.getD k 0) = zipK xs L (k + 1) := by
  unfold zipK
  have hl : (List.zipWith (fun c l => c - l) (xs.take k) (L.take k)).length = k := by simp; omega
  rw [drop_getD xs k h1, List.set_append_right _ _ (by omega), hl, Nat.sub_self, List.set_cons_zero, List.take_succ_eq_append_getElem h1, List.take_succ_eq_append_getElem h2,
    List.zipWith_append (by simp; omega)]
  simp [List.getD_eq_getElem?_getD, h1, h2]

theorem OwnsI.ownP {base : Nat} {w : World} {g n cap : Nat} {xs : List Int} (h : OwnsI base w (.slice (some ⟨g, 0, none⟩) n cap) xs) : base ≤ g ∧ n = xs.length ∧ OwnP w g 3 xs := by
  rcases h.cases with ⟨hv, _⟩ | ⟨g', cap', hv, hg, ho⟩
  · cases hv
  · cases hv
    exact ⟨hg, rfl, ho⟩

theorem OwnsI.stored {base : Nat} {w : World} {g cap : Nat} {xs : List Int} (h : OwnsI base w (.slice (some ⟨g, 0, none⟩) xs.length cap) xs) (j : Nat) (x : Int) :
    OwnsI base (w.setCell ⟨g, j, none⟩ (.int .i64 x)) (.slice (some ⟨g, 0, none⟩) xs.length cap) (xs.set j x) := by
  have := World.ownsRow.stored h j (.int .i64 x)
  unfold OwnsI
  rw [List.length_set, List.map_set]
  exact this.1

end Go.Proofs.Ytjcemoofnonlkaa
