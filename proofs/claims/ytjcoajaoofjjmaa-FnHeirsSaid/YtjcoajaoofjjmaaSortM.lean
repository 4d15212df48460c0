/- Insertion by swaps, and the picking of the greatest again and again: plain laws. -/
import Derived.Test.YtjcoajaoofjjmaaBase
namespace Go.Proofs.Ytjcoajaoofjjmaa
set_option linter.unusedSimpArgs false
set_option linter.unusedVariables false
set_option linter.unnecessarySimpa false

def swpI (l : List Int) (i j : Nat) : List Int := (l.set i (l.getD j 0)).set j (l.getD i 0)

theorem swpI_length (l : List Int) (i j : Nat) : (swpI l i j).length = l.length := by simp [swpI]

theorem swpI_mem {l : List Int} {i j : Nat} (hi : i < l.length) (hj : j < l.length) {x : Int} (h : x ∈ swpI l i j) : x ∈ l := by
  unfold swpI at h
  rcases List.mem_or_eq_of_mem_set h with h | h
  · rcases List.mem_or_eq_of_mem_set h with h | h
    · exact h
    · rw [h]; simp [List.getD_eq_getElem?_getD, hj]
  · rw [h]; simp [List.getD_eq_getElem?_getD, hi]

/-- The element at j goes down while it is less than the one before. -/
def insDown (lt : Int → Int → Bool) : Nat → List Int → List Int
  | 0, l => l
  | j + 1, l => if lt (l.getD (j + 1) 0) (l.getD j 0) = true then insDown lt j (swpI l (j + 1) j) else l

/-- m elements from i on go down. -/
def insUp (lt : Int → Int → Bool) : Nat → Nat → List Int → List Int
  | 0, _, l => l
  | m + 1, i, l => insUp lt m (i + 1) (insDown lt i l)

def insAll (lt : Int → Int → Bool) (l : List Int) : List Int := insUp lt (l.length - 1) 1 l

theorem insDown_go {lt : Int → Int → Bool} {j : Nat} {l : List Int} (h : lt (l.getD (j + 1) 0) (l.getD j 0) = true) : insDown lt (j + 1) l = insDown lt j (swpI l (j + 1) j) := by
  rw [insDown, if_pos h]
theorem insDown_stop {lt : Int → Int → Bool} {j : Nat} {l : List Int} (h : lt (l.getD (j + 1) 0) (l.getD j 0) = false) : insDown lt (j + 1) l = l := by
  rw [insDown, if_neg (by rw [h]; decide)]
theorem insUp_go (lt : Int → Int → Bool) (m i : Nat) (l : List Int) : insUp lt (m + 1) i l = insUp lt m (i + 1) (insDown lt i l) := rfl

theorem insDown_length (lt : Int → Int → Bool) : ∀ (j : Nat) (l : List Int), (insDown lt j l).length = l.length
  | 0, l => rfl
  | j + 1, l => by
    unfold insDown; split
    · rw [insDown_length lt j, swpI_length]
    · rfl

/-- Into a list that stands the other way round. -/
def insB (lt : Int → Int → Bool) (x : Int) : List Int → List Int
  | [] => [x]
  | y :: r => if lt x y = true then y :: insB lt x r else x :: y :: r

theorem getD_mid (a b : List Int) (x : Int) : (a ++ x :: b).getD a.length 0 = x := by
  simp [List.getD_eq_getElem?_getD]

theorem getD_mid2 (a b : List Int) (x y : Int) : (a ++ y :: x :: b).getD (a.length + 1) 0 = x := by
  have := getD_mid (a ++ [y]) b x
  simpa using this

theorem swp_mid (a b : List Int) (x y : Int) : swpI (a ++ y :: x :: b) (a.length + 1) a.length = a ++ x :: y :: b := by
  unfold swpI
  rw [getD_mid2, getD_mid]
  rw [List.set_append_right _ _ (by omega), List.set_append_right _ _ (by omega)]
  simp

theorem insDown_eq (lt : Int → Int → Bool) (x : Int) : ∀ (r b : List Int), insDown lt r.length (r.reverse ++ x :: b) = (insB lt x r).reverse ++ b
  | [], b => rfl
  | y :: r, b => by
    have e1 : ((y :: r).reverse ++ x :: b) = r.reverse ++ y :: x :: b := by simp
    have l1 : r.reverse.length = r.length := by simp
    have g1 : (r.reverse ++ y :: x :: b).getD (r.length + 1) 0 = x := by rw [← l1]; exact getD_mid2 _ _ _ _
    have g2 : (r.reverse ++ y :: x :: b).getD r.length 0 = y := by rw [← l1]; exact getD_mid _ _ _
    have s1 : swpI (r.reverse ++ y :: x :: b) (r.length + 1) r.length = r.reverse ++ x :: y :: b := by rw [← l1]; exact swp_mid _ _ _ _
    rw [e1]
    show insDown lt (r.length + 1) _ = _
    unfold insDown insB
    rw [g1, g2]
    by_cases h : lt x y = true
    · rw [if_pos h, if_pos h, s1, insDown_eq lt x r (y :: b)]; simp
    · rw [if_neg h, if_neg h]; simp

theorem insB_length (lt : Int → Int → Bool) (x : Int) : ∀ r : List Int, (insB lt x r).length = r.length + 1
  | [] => rfl
  | y :: r => by unfold insB; split <;> simp [insB_length lt x r]

theorem insUp_eq (lt : Int → Int → Bool) : ∀ (b r : List Int), insUp lt b.length r.length (r.reverse ++ b) = (b.foldl (fun r x => insB lt x r) r).reverse
  | [], r => by simp [insUp]
  | x :: b, r => by
    show insUp lt (b.length + 1) r.length _ = _
    rw [insUp_go, insDown_eq, ← insB_length lt x r, insUp_eq lt b (insB lt x r)]; rfl

theorem insAll_eq (lt : Int → Int → Bool) (l : List Int) : insAll lt l = (l.foldl (fun r x => insB lt x r) []).reverse := by
  cases l with
  | nil => rfl
  | cons x b =>
    show insUp lt ((b.length + 1) - 1) 1 (x :: b) = _
    rw [Nat.add_sub_cancel]
    exact insUp_eq lt b [x]

/-! An order of the numbers 0 .. n-1: the greater key first, of equal keys the lesser number. -/

structure Weak (gt : Int → Int → Bool) : Prop where
  asym : ∀ a b, gt a b = true → gt b a = false
  ntr : ∀ a b c, gt a b = false → gt b c = false → gt a c = false

def ahead (gt : Int → Int → Bool) (a b : Int) : Bool := gt a b || (!gt b a && decide (a < b))

theorem Weak.irr {gt : Int → Int → Bool} (h : Weak gt) (a : Int) : gt a a = false := by
  cases e : gt a a with
  | false => rfl
  | true => rw [← e]; exact h.asym a a e

theorem ahead_irr {gt : Int → Int → Bool} (h : Weak gt) (a : Int) : ahead gt a a = false := by simp [ahead, h.irr]

theorem ahead_trans {gt : Int → Int → Bool} (h : Weak gt) {a b c : Int} (h1 : ahead gt a b = true) (h2 : ahead gt b c = true) : ahead gt a c = true := by
  have h3 : gt b a = false := by
    cases e : gt b a with
    | false => rfl
    | true =>
      unfold ahead at h1
      rw [h.asym b a e, e] at h1; cases h1
  have h4 : gt c b = false := by
    cases e : gt c b with
    | false => rfl
    | true =>
      unfold ahead at h2
      rw [h.asym c b e, e] at h2; cases h2
  have h5 : gt c a = false := h.ntr c b a h4 h3
  cases e : gt a c with
  | true => simp [ahead, e]
  | false =>
    have h6 : gt a b = false := by
      cases e' : gt a b with
      | false => rfl
      | true => have := h.ntr a c b e h4; rw [e'] at this; cases this
    have h7 : gt b c = false := by
      cases e' : gt b c with
      | false => rfl
      | true => have := h.ntr b a c h3 e; rw [e'] at this; cases this
    unfold ahead at h1 h2 ⊢
    rw [h6, h3] at h1
    rw [h7, h4] at h2
    rw [e, h5]
    simp at h1 h2 ⊢
    omega

theorem ahead_total {gt : Int → Int → Bool} {a b : Int} (hne : a ≠ b) (h : ahead gt a b = false) : ahead gt b a = true := by
  unfold ahead at h ⊢
  cases e1 : gt a b <;> cases e2 : gt b a <;> simp [e1, e2] at h ⊢
  omega

/-- The list stands the other way round: each element is behind all later ones. -/
def downB (gt : Int → Int → Bool) (r : List Int) : Prop := r.Pairwise fun y z => ahead gt z y = true

theorem mem_insB {lt : Int → Int → Bool} {x z : Int} : ∀ {r : List Int}, z ∈ insB lt x r ↔ z = x ∨ z ∈ r
  | [] => by simp [insB]
  | y :: r => by
    unfold insB; split
    · simp [mem_insB (r := r)]
      constructor
      · rintro (h | h | h) <;> simp [h]
      · rintro (h | h | h) <;> simp [h]
    · simp

theorem insB_down {gt : Int → Int → Bool} (h : Weak gt) {x : Int} : ∀ {r : List Int}, downB gt r → (∀ y ∈ r, y < x) → downB gt (insB gt x r)
  | [], _, _ => by simp [insB, downB]
  | y :: r, hd, hx => by
    obtain ⟨h1, h2⟩ := List.pairwise_cons.1 hd
    unfold insB
    by_cases e : gt x y = true
    · rw [if_pos e]
      refine List.pairwise_cons.2 ⟨fun z hz => ?_, insB_down h h2 fun z hz => hx z (List.mem_cons_of_mem _ hz)⟩
      rcases mem_insB.1 hz with rfl | hz
      · simp [ahead, e]
      · exact h1 z hz
    · rw [if_neg e]
      have e' : gt x y = false := by simpa using e
      have hyx : ahead gt y x = true := by
        have := hx y (List.mem_cons_self ..)
        unfold ahead; rw [e']; simp [this]
      refine List.pairwise_cons.2 ⟨fun z hz => ?_, hd⟩
      rcases List.mem_cons.1 hz with rfl | hz
      · exact hyx
      · exact ahead_trans h (h1 z hz) hyx

theorem foldB_down {gt : Int → Int → Bool} (h : Weak gt) : ∀ (b r : List Int), downB gt r → (∀ y ∈ r, ∀ x ∈ b, y < x) → b.Pairwise (· < ·) → downB gt (b.foldl (fun r x => insB gt x r) r)
  | [], r, hd, _, _ => hd
  | x :: b, r, hd, hx, hb => by
    obtain ⟨h1, h2⟩ := List.pairwise_cons.1 hb
    refine foldB_down h b _ (insB_down h hd fun y hy => hx y hy x (List.mem_cons_self ..)) (fun y hy z hz => ?_) h2
    rcases mem_insB.1 hy with rfl | hy
    · exact h1 z hz
    · exact hx y hy z (List.mem_cons_of_mem _ hz)

theorem mem_foldB {lt : Int → Int → Bool} {z : Int} : ∀ {b r : List Int}, z ∈ b.foldl (fun r x => insB lt x r) r ↔ z ∈ b ∨ z ∈ r
  | [], r => by simp
  | x :: b, r => by
    show z ∈ b.foldl _ (insB lt x r) ↔ _
    rw [mem_foldB (b := b), mem_insB]
    simp
    constructor
    · rintro (h | h | h) <;> simp [h]
    · rintro ((h | h) | h) <;> simp [h]

/-- The numbers 0 .. n-1 in their order. -/
def rankM (gt : Int → Int → Bool) (n : Nat) : List Int := insAll gt ((List.range n).map fun i : Nat => (i : Int))

theorem rank_sorted {gt : Int → Int → Bool} (h : Weak gt) (n : Nat) : (rankM gt n).Pairwise fun y z => ahead gt y z = true := by
  unfold rankM
  rw [insAll_eq, List.pairwise_reverse]
  refine foldB_down h _ [] List.Pairwise.nil (by simp) ?_
  rw [List.pairwise_map]
  exact List.pairwise_lt_range.imp fun h => by omega

theorem rank_mem {gt : Int → Int → Bool} {n : Nat} {z : Int} : z ∈ rankM gt n ↔ 0 ≤ z ∧ z < n := by
  unfold rankM
  rw [insAll_eq, List.mem_reverse, mem_foldB]
  simp
  constructor
  · rintro ⟨i, hi, rfl⟩; omega
  · intro ⟨h1, h2⟩; exact ⟨z.toNat, by omega, by omega⟩

theorem insDown_mem {lt : Int → Int → Bool} {x : Int} : ∀ (j : Nat) (l : List Int), j < l.length → x ∈ insDown lt j l → x ∈ l
  | 0, l, _, h => h
  | j + 1, l, hj, h => by
    unfold insDown at h; split at h
    · exact swpI_mem hj (by omega) (insDown_mem j _ (by rw [swpI_length]; omega) h)
    · exact h

theorem foldB_length (lt : Int → Int → Bool) : ∀ (b r : List Int), (b.foldl (fun r x => insB lt x r) r).length = b.length + r.length
  | [], r => by simp
  | x :: b, r => by
    show (b.foldl _ (insB lt x r)).length = _
    rw [foldB_length lt b, insB_length]; simp; omega

theorem rank_length (gt : Int → Int → Bool) (n : Nat) : (rankM gt n).length = n := by
  unfold rankM
  rw [insAll_eq, List.length_reverse, foldB_length]; simp

/-- The search for the best: the first of the greatest among the open ones. -/
def bestM (gt : Int → Int → Bool) (ok : Int → Bool) : Nat → Int
  | 0 => -1
  | k + 1 => if ok k = true ∧ (bestM gt ok k < 0 ∨ gt k (bestM gt ok k) = true) then k else bestM gt ok k

theorem bestM_spec {gt : Int → Int → Bool} (h : Weak gt) (ok : Int → Bool) : ∀ k : Nat,
    (bestM gt ok k = -1 ∧ ∀ j : Int, 0 ≤ j → j < k → ok j = false) ∨ (0 ≤ bestM gt ok k ∧ bestM gt ok k < k ∧ ok (bestM gt ok k) = true ∧ ∀ j : Int, 0 ≤ j → j < k → ok j = true → j = bestM gt ok k ∨ ahead gt (bestM gt ok k) j = true)
  | 0 => .inl ⟨rfl, fun j h0 h1 => by omega⟩
  | k + 1 => by
    have ih := bestM_spec h ok k
    unfold bestM
    generalize bestM gt ok k = m at *
    by_cases e : ok k = true ∧ (m < 0 ∨ gt k m = true)
    · rw [if_pos e]
      refine .inr ⟨by omega, by omega, e.1, fun j h0 h1 hj => ?_⟩
      by_cases hjk : j = k
      · exact .inl hjk
      · right
        rcases ih with ⟨h2, h3⟩ | ⟨h2, h3, h4, h5⟩
        · rw [h3 j h0 (by omega)] at hj; cases hj
        · have hg : gt k m = true := by
            rcases e.2 with h6 | h6
            · omega
            · exact h6
          have hkm : ahead gt k m = true := by simp [ahead, hg]
          rcases h5 j h0 (by omega) hj with rfl | h6
          · exact hkm
          · exact ahead_trans h hkm h6
    · rw [if_neg e]
      rcases ih with ⟨h2, h3⟩ | ⟨h2, h3, h4, h5⟩
      · refine .inl ⟨h2, fun j h0 h1 => ?_⟩
        by_cases hjk : j = k
        · subst hjk
          cases hok : ok k with
          | false => rfl
          | true => exact absurd ⟨hok, .inl (by omega)⟩ e
        · exact h3 j h0 (by omega)
      · refine .inr ⟨h2, by omega, h4, fun j h0 h1 hj => ?_⟩
        by_cases hjk : j = k
        · subst hjk
          right
          have hg : gt k m = false := by
            cases hg : gt k m with
            | false => rfl
            | true => exact absurd ⟨hj, .inr hg⟩ e
          unfold ahead
          rw [hg]; simp; right; exact h3
        · exact h5 j h0 (by omega) hj

theorem drop_getD_ (xs : List Int) (k : Nat) (h : k < xs.length) : xs.drop k = xs.getD k 0 :: xs.drop (k + 1) := by
  rw [List.drop_eq_getElem_cons h]; simp [List.getD_eq_getElem?_getD, h]

/-- With the first t picked, and the next one open, the search finds the next. -/
theorem best_rank {gt : Int → Int → Bool} (h : Weak gt) (ok : Int → Bool) (n t : Nat) (ht : t < n) (h1 : ∀ j ∈ (rankM gt n).take t, ok j = false) (h2 : ok ((rankM gt n).getD t 0) = true) : bestM gt ok n = (rankM gt n).getD t 0 := by
  have hl := rank_length gt n
  have hs := rank_sorted h n
  have hx : (rankM gt n).getD t 0 ∈ rankM gt n := by simp [List.getD_eq_getElem?_getD, hl, ht]
  obtain ⟨x0, x1⟩ := rank_mem.1 hx
  have hd : rankM gt n = (rankM gt n).take t ++ (rankM gt n).getD t 0 :: (rankM gt n).drop (t + 1) := by
    rw [← drop_getD_ (rankM gt n) t (by omega), List.take_append_drop]
  generalize (rankM gt n).getD t 0 = x at *
  rcases bestM_spec h ok n with ⟨g1, g2⟩ | ⟨g1, g2, g3, g4⟩
  · rw [g2 x x0 x1] at h2; cases h2
  · rcases g4 x x0 x1 h2 with e | e
    · exact e.symm
    · exfalso
      have hm : bestM gt ok n ∈ rankM gt n := rank_mem.2 ⟨g1, g2⟩
      rw [hd] at hm hs
      obtain ⟨s1, s2, s3⟩ := List.pairwise_append.1 hs
      rcases List.mem_append.1 hm with hm | hm
      · rw [h1 _ hm] at g3; cases g3
      · rcases List.mem_cons.1 hm with hm | hm
        · rw [hm, ahead_irr h] at e; cases e
        · have := ahead_trans h e ((List.pairwise_cons.1 s2).1 _ hm)
          rw [ahead_irr h] at this; cases this

end Go.Proofs.Ytjcoajaoofjjmaa
