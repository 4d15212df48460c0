/- What is left is given to the greatest rests: plain laws. -/
import Derived.Test.YtjcoajaoofjjmaaSortM
namespace Go.Proofs.Ytjcoajaoofjjmaa
set_option linter.unusedSimpArgs false
set_option linter.unusedVariables false
set_option linter.unnecessarySimpa false

def setsM (f : Int → Int) (l is : List Int) : List Int := is.foldl (fun o i => o.set i.toNat (f (o.getD i.toNat 0))) l

theorem setsM_length (f : Int → Int) : ∀ (is l : List Int), (setsM f l is).length = l.length
  | [], l => rfl
  | i :: is, l => by show (setsM f (l.set _ _) is).length = _; rw [setsM_length f is]; simp

theorem setsM_snoc (f : Int → Int) (l is : List Int) (i : Int) : setsM f l (is ++ [i]) = (setsM f l is).set i.toNat (f ((setsM f l is).getD i.toNat 0)) := by
  simp [setsM, List.foldl_append]

theorem setsM_out (f : Int → Int) (k : Nat) : ∀ (is l : List Int), (∀ i ∈ is, i.toNat ≠ k) → (setsM f l is).getD k 0 = l.getD k 0
  | [], l, _ => rfl
  | i :: is, l, h => by
    show (setsM f (l.set _ _) is).getD k 0 = _
    rw [setsM_out f k is _ fun j hj => h j (List.mem_cons_of_mem _ hj)]
    have := h i (List.mem_cons_self ..)
    simp [List.getD_eq_getElem?_getD, List.getElem?_set, this]

theorem setsM_in (v : Int) (k : Nat) : ∀ (is l : List Int), k < l.length → (∃ i ∈ is, i.toNat = k) → (setsM (fun _ => v) l is).getD k 0 = v
  | [], l, _, h => by obtain ⟨i, hi, _⟩ := h; cases hi
  | i :: is, l, hk, h => by
    show (setsM (fun _ => v) (l.set _ _) is).getD k 0 = _
    by_cases e : ∃ j ∈ is, j.toNat = k
    · exact setsM_in v k is _ (by simpa using hk) e
    · rw [setsM_out _ k is _ fun j hj hjk => e ⟨j, hj, hjk⟩]
      obtain ⟨j, hj, hjk⟩ := h
      rcases List.mem_cons.1 hj with rfl | hj
      · simp [List.getD_eq_getElem?_getD, hjk, hk]
      · exact absurd ⟨j, hj, hjk⟩ e

/-! The rank is a permutation. -/

theorem insB_perm (lt : Int → Int → Bool) (x : Int) : ∀ r : List Int, (insB lt x r).Perm (x :: r)
  | [] => List.Perm.refl _
  | y :: r => by
    unfold insB; split
    · exact ((insB_perm lt x r).cons y).trans (List.Perm.swap x y r)
    · exact List.Perm.refl _

theorem foldB_perm (lt : Int → Int → Bool) : ∀ b r : List Int, (b.foldl (fun r x => insB lt x r) r).Perm (b ++ r)
  | [], r => List.Perm.refl _
  | x :: b, r => by
    show (b.foldl _ (insB lt x r)).Perm _
    refine (foldB_perm lt b _).trans ?_
    refine ((insB_perm lt x r).append_left b).trans ?_
    exact List.perm_middle

theorem rank_perm (gt : Int → Int → Bool) (n : Nat) : (rankM gt n).Perm ((List.range n).map fun i : Nat => (i : Int)) := by
  unfold rankM
  rw [insAll_eq]
  refine (List.reverse_perm _).trans ?_
  have := foldB_perm gt ((List.range n).map fun i : Nat => (i : Int)) []
  simpa using this

theorem perm_sum {l m : List Int} (h : l.Perm m) : l.sum = m.sum := by
  induction h with
  | nil => rfl
  | cons x _ ih => simp [ih]
  | swap x y l => simp; omega
  | trans _ _ ih1 ih2 => exact ih1.trans ih2

def keyM (rs : List Int) (i : Int) : Int := rs.getD i.toNat 0

theorem range_keys (rs : List Int) : ((List.range rs.length).map fun i : Nat => (i : Int)).map (keyM rs) = rs := by
  apply List.ext_getElem
  · simp
  · intro i h1 h2
    simp [keyM, List.getD_eq_getElem?_getD, h2]

theorem rank_sum (gt : Int → Int → Bool) (rs : List Int) : ((rankM gt rs.length).map (keyM rs)).sum = rs.sum := by
  rw [perm_sum ((rank_perm gt rs.length).map (keyM rs)), range_keys]

theorem sum_le_mul {l : List Int} {m : Int} (h : ∀ x ∈ l, x ≤ m) : l.sum ≤ l.length * m := by
  induction l with
  | nil => simp
  | cons x l ih =>
    have h1 := h x (List.mem_cons_self ..)
    have h2 := ih fun y hy => h y (List.mem_cons_of_mem _ hy)
    simp only [List.sum_cons, List.length_cons]
    rw [show ((l.length + 1 : Nat) : Int) * m = (l.length : Int) * m + m by rw [Int.natCast_add, Int.add_mul]; simp]
    omega

theorem rank_getD_in {gt : Int → Int → Bool} {n t : Nat} (ht : t < n) : 0 ≤ (rankM gt n).getD t 0 ∧ (rankM gt n).getD t 0 < n := by
  refine (rank_mem (gt := gt) (n := n)).1 ?_
  simp [List.getD_eq_getElem?_getD, rank_length, ht]

/-- The one at t is not among the first t. -/
theorem rank_new {gt : Int → Int → Bool} (h : Weak gt) {n t : Nat} (ht : t < n) : ∀ i ∈ (rankM gt n).take t, i.toNat ≠ ((rankM gt n).getD t 0).toNat := by
  intro i hi e
  have hl := rank_length gt n
  have hs := rank_sorted h n
  have hx := rank_getD_in (gt := gt) ht
  have hi0 := (rank_mem.1 (List.mem_of_mem_take hi)).1
  have hd : rankM gt n = (rankM gt n).take t ++ (rankM gt n).getD t 0 :: (rankM gt n).drop (t + 1) := by
    rw [← drop_getD_ (rankM gt n) t (by omega), List.take_append_drop]
  generalize (rankM gt n).getD t 0 = x at *
  rw [hd] at hs
  have := (List.pairwise_append.1 hs).2.2 i hi x (List.mem_cons_self ..)
  rw [show i = x by omega, ahead_irr h] at this
  cases this

def gtK (rs : List Int) (a b : Int) : Bool := decide (keyM rs b < keyM rs a)

theorem gtK_weak (rs : List Int) : Weak (gtK rs) :=
  ⟨fun a b h => by simp [gtK] at *; omega, fun a b c h k => by simp [gtK] at *; omega⟩

/-- With L whole units in the rests, each less than a unit, the first L have a rest. -/
theorem rank_rest {rs : List Int} {all : Int} {L t : Nat} (h0 : ∀ r ∈ rs, 0 ≤ r ∧ r < all) (hL : rs.sum = all * L) (ht : t < L) (ha : 0 < all) : t < rs.length ∧ 0 < keyM rs ((rankM (gtK rs) rs.length).getD t 0) := by
  have hle := sum_le_mul (l := rs) (m := all - 1) fun x hx => by have := (h0 x hx).2; omega
  have hk : ∀ i ∈ rankM (gtK rs) rs.length, 0 ≤ keyM rs i ∧ keyM rs i ≤ all - 1 := fun i hi => by
    obtain ⟨i0, i1⟩ := rank_mem.1 hi
    have := h0 (keyM rs i) (by simp [keyM, List.getD_eq_getElem?_getD, show i.toNat < rs.length by omega])
    omega
  have hmul : all * (L : Int) = (L : Int) * (all - 1) + L := by rw [Int.mul_sub, Int.mul_one, Int.mul_comm]; omega
  have hLn : t < rs.length := by
    rcases Nat.lt_or_ge t rs.length with h | h
    · exact h
    · exfalso
      have h1 : (rs.length : Int) * (all - 1) ≤ (L : Int) * (all - 1) := Int.mul_le_mul_of_nonneg_right (by omega) (by omega)
      omega
  refine ⟨hLn, ?_⟩
  rcases Int.lt_or_le 0 (keyM rs ((rankM (gtK rs) rs.length).getD t 0)) with h | h
  · exact h
  · exfalso
    have hl := rank_length (gtK rs) rs.length
    have hsum := rank_sum (gtK rs) rs
    have hs := rank_sorted (gtK_weak rs) rs.length
    have hd : rankM (gtK rs) rs.length = (rankM (gtK rs) rs.length).take t ++ (rankM (gtK rs) rs.length).getD t 0 :: (rankM (gtK rs) rs.length).drop (t + 1) := by
      rw [← drop_getD_ (rankM (gtK rs) rs.length) t (by omega), List.take_append_drop]
    have htl : ((rankM (gtK rs) rs.length).take t).length = t := by simp; omega
    generalize (rankM (gtK rs) rs.length).getD t 0 = x at *
    generalize (rankM (gtK rs) rs.length).take t = A at *
    generalize (rankM (gtK rs) rs.length).drop (t + 1) = B at *
    rw [hd] at hs hsum hk
    have hB : (B.map (keyM rs)).sum ≤ (B.map (keyM rs)).length * 0 := sum_le_mul fun y hy => by
      obtain ⟨i, hi, rfl⟩ := List.mem_map.1 hy
      have := (List.pairwise_cons.1 (List.pairwise_append.1 hs).2.1).1 i hi
      simp [ahead, gtK] at this
      omega
    have hA : (A.map (keyM rs)).sum ≤ (A.map (keyM rs)).length * (all - 1) := sum_le_mul fun y hy => by
      obtain ⟨i, hi, rfl⟩ := List.mem_map.1 hy
      exact (hk i (List.mem_append_left _ hi)).2
    rw [List.length_map, htl] at hA
    rw [List.map_append, List.sum_append, List.map_cons, List.sum_cons] at hsum
    have h1 : (t : Int) * (all - 1) ≤ (L : Int) * (all - 1) := Int.mul_le_mul_of_nonneg_right (by omega) (by omega)
    omega

/-! Proportional. -/
def floors (xs : List Int) (water all : Int) : List Int := xs.map fun c => water * c / all
def rests (xs : List Int) (water all : Int) : List Int := xs.map fun c => water * c % all

theorem floor_sum (water all : Int) : ∀ xs : List Int, water * xs.sum = all * (floors xs water all).sum + (rests xs water all).sum
  | [] => by simp [floors, rests]
  | c :: xs => by
    have ih := floor_sum water all xs
    have e := Int.mul_ediv_add_emod (water * c) all
    simp only [floors, rests, List.map_cons, List.sum_cons] at *
    rw [Int.mul_add, Int.mul_add]
    omega

def propL (xs : List Int) (water : Int) : Int := water - (floors xs water xs.sum).sum
def propR (xs : List Int) (water : Int) : List Int := rankM (gtK (rests xs water xs.sum)) xs.length
def propGo (xs : List Int) (water : Int) : List Int := setsM (· + 1) (floors xs water xs.sum) ((propR xs water).take (propL xs water).toNat)

structure PropH (xs : List Int) (water : Int) : Prop where
  pos : ∀ x ∈ xs, 0 ≤ x
  w0 : 0 ≤ water
  w1 : water < xs.sum

theorem rests_in {xs : List Int} {water : Int} (h : PropH xs water) : ∀ r ∈ rests xs water xs.sum, 0 ≤ r ∧ r < xs.sum := fun r hr => by
  obtain ⟨c, hc, rfl⟩ := List.mem_map.1 hr
  have ha : 0 < xs.sum := by have := h.w0; have := h.w1; omega
  exact ⟨Int.emod_nonneg _ (by omega), Int.emod_lt_of_pos _ ha⟩

theorem propL_eq {xs : List Int} {water : Int} (h : PropH xs water) : 0 ≤ propL xs water ∧ (rests xs water xs.sum).sum = xs.sum * ((propL xs water).toNat : Int) := by
  have e := floor_sum water xs.sum xs
  have ha : 0 < xs.sum := by have := h.w0; have := h.w1; omega
  have e2 : (rests xs water xs.sum).sum = xs.sum * propL xs water := by
    unfold propL; rw [Int.mul_sub, Int.mul_comm xs.sum water]; omega
  have h0 : 0 ≤ (rests xs water xs.sum).sum := by
    have : ∀ l : List Int, (∀ r ∈ l, 0 ≤ r) → 0 ≤ l.sum := fun l => by
      induction l with
      | nil => intro _; simp
      | cons x l ih => intro hh; have := hh x (List.mem_cons_self ..); have := ih fun r hr => hh r (List.mem_cons_of_mem _ hr); simp; omega
    exact this _ fun r hr => (rests_in h r hr).1
  have h1 : 0 ≤ propL xs water := by
    rcases Int.lt_or_le (propL xs water) 0 with h2 | h2
    · have := Int.mul_neg_of_pos_of_neg ha h2; omega
    · exact h2
  exact ⟨h1, by rw [e2, Int.toNat_of_nonneg h1]⟩

/-- What stands at the t-th of the rank, t < L: the claim is above its floor. -/
theorem prop_at {xs : List Int} {water : Int} (h : PropH xs water) {t : Nat} (ht : (t : Int) < propL xs water) :
    t < xs.length ∧ (floors xs water xs.sum).getD ((propR xs water).getD t 0).toNat 0 < xs.getD ((propR xs water).getD t 0).toNat 0 ∧ 0 < keyM (rests xs water xs.sum) ((propR xs water).getD t 0) := by
  obtain ⟨h0, h1⟩ := propL_eq h
  have ha : 0 < xs.sum := by have := h.w0; have := h.w1; omega
  have hlen : (rests xs water xs.sum).length = xs.length := by simp [rests]
  obtain ⟨g1, g2⟩ := rank_rest (rests_in h) h1 (show t < (propL xs water).toNat by omega) ha
  rw [hlen] at g1 g2
  refine ⟨g1, ?_, g2⟩
  obtain ⟨i0, i1⟩ := rank_getD_in (gt := gtK (rests xs water xs.sum)) g1
  change 0 < keyM (rests xs water xs.sum) ((propR xs water).getD t 0) at g2
  change 0 ≤ (propR xs water).getD t 0 at i0
  change (propR xs water).getD t 0 < _ at i1
  generalize (propR xs water).getD t 0 = i at *
  have hi : i.toNat < xs.length := by omega
  simp only [keyM, rests, floors, List.getD_eq_getElem?_getD, List.getElem?_map, List.getElem?_eq_getElem hi, Option.map_some, Option.getD_some] at g2 ⊢
  have hc := h.pos _ (List.getElem_mem hi)
  have hw0 := h.w0
  have hw1 := h.w1
  generalize xs[i.toNat] = c at *
  generalize xs.sum = all at *
  have e := Int.mul_ediv_add_emod (water * c) all
  have c0 : 0 < c := by
    rcases Int.lt_or_le 0 c with h | h
    · exact h
    · rw [show c = 0 by omega] at g2; simp at g2
  have hm : water * c < all * c := Int.mul_lt_mul_of_pos_right hw1 c0
  refine Int.lt_of_mul_lt_mul_left (a := all) ?_ (by omega)
  omega

/-- The parts when t of the order have been seen and given to. -/
def propAt (xs : List Int) (water : Int) (t : Nat) : List Int := setsM (· + 1) (floors xs water xs.sum) ((propR xs water).take t)

theorem propAt_length (xs : List Int) (water : Int) (t : Nat) : (propAt xs water t).length = xs.length := by simp [propAt, setsM_length, floors]

theorem prop_go {xs : List Int} {water : Int} (h : PropH xs water) {t : Nat} (ht : t < (propL xs water).toNat) :
    ∃ i : Nat, (propR xs water).getD t 0 = (i : Int) ∧ i < xs.length ∧ t < xs.length ∧ (propAt xs water t).getD i 0 = (floors xs water xs.sum).getD i 0 ∧ 0 ≤ (floors xs water xs.sum).getD i 0 ∧ (floors xs water xs.sum).getD i 0 < xs.getD i 0 ∧
      propAt xs water (t + 1) = (propAt xs water t).set i ((floors xs water xs.sum).getD i 0 + 1) := by
  have hL := propL_eq h
  obtain ⟨g1, g2, g3⟩ := prop_at h (t := t) (by omega)
  obtain ⟨i0, i1⟩ := rank_getD_in (gt := gtK (rests xs water xs.sum)) g1
  have hnew := rank_new (gtK_weak (rests xs water xs.sum)) g1
  have hpl : (propR xs water).length = xs.length := rank_length _ _
  change 0 ≤ (propR xs water).getD t 0 at i0
  change (propR xs water).getD t 0 < _ at i1
  change ∀ i ∈ (propR xs water).take t, i.toNat ≠ ((propR xs water).getD t 0).toNat at hnew
  have hsn : (propR xs water).take (t + 1) = (propR xs water).take t ++ [(propR xs water).getD t 0] := by
    rw [List.take_add_one]; congr 1; simp [List.getD_eq_getElem?_getD, hpl, g1]
  obtain ⟨i, hi⟩ := Int.eq_ofNat_of_zero_le i0
  have hi' : ((propR xs water).getD t 0).toNat = i := by omega
  have e1 : (propAt xs water t).getD i 0 = (floors xs water xs.sum).getD i 0 := setsM_out _ i _ _ fun j hj => by rw [← hi']; exact hnew j hj
  rw [hi'] at g2
  have hin : i < xs.length := by omega
  refine ⟨i, hi, hin, g1, e1, ?_, g2, ?_⟩
  · have ha : 0 < xs.sum := by have := h.w0; have := h.w1; omega
    simp only [floors, List.getD_eq_getElem?_getD, List.getElem?_map, List.getElem?_eq_getElem hin, Option.map_some, Option.getD_some]
    exact Int.ediv_nonneg (Int.mul_nonneg h.w0 (h.pos _ (List.getElem_mem hin))) (by omega)
  · unfold propAt
    rw [hsn, setsM_snoc, hi']
    show _ = (setsM _ _ _).set i _
    rw [show (setsM (· + 1) (floors xs water xs.sum) ((propR xs water).take t)).getD i 0 = _ from e1]

/-- What is left in the rests when t have been given to. -/
def restAt (xs : List Int) (water : Int) (t : Nat) : List Int := setsM (fun _ => -1) (rests xs water xs.sum) ((propR xs water).take t)

theorem restAt_length (xs : List Int) (water : Int) (t : Nat) : (restAt xs water t).length = xs.length := by simp [restAt, setsM_length, rests]

def okAt (xs : List Int) (water : Int) (t : Nat) (z : Int) : Bool := decide (0 ≤ (restAt xs water t).getD z.toNat 0) && decide ((propAt xs water t).getD z.toNat 0 < xs.getD z.toNat 0)

def bestAt (xs : List Int) (water : Int) (t k : Nat) : Int := bestM (gtK (rests xs water xs.sum)) (okAt xs water t) k

theorem setsM_or (v : Int) (k : Nat) : ∀ (is l : List Int), (setsM (fun _ => v) l is).getD k 0 = l.getD k 0 ∨ (setsM (fun _ => v) l is).getD k 0 = v ∨ l.length ≤ k
  | is, l => by
    by_cases hk : k < l.length
    · by_cases e : ∃ j ∈ is, j.toNat = k
      · exact .inr (.inl (setsM_in v k is l hk e))
      · exact .inl (setsM_out _ k is l fun j hj hjk => e ⟨j, hj, hjk⟩)
    · exact .inr (.inr (by omega))

/-- An open one has its rest yet. -/
theorem ok_rest {xs : List Int} {water : Int} {t : Nat} {z : Int} (h : okAt xs water t z = true) (hz : z.toNat < xs.length) : (restAt xs water t).getD z.toNat 0 = keyM (rests xs water xs.sum) z := by
  simp only [okAt, Bool.and_eq_true, decide_eq_true_eq] at h
  rcases setsM_or (-1) z.toNat ((propR xs water).take t) (rests xs water xs.sum) with e | e | e
  · exact e
  · have := h.1; unfold restAt at this; rw [e] at this; omega
  · simp [rests] at e; omega

theorem best_bd (xs : List Int) (water : Int) (t k : Nat) (hk : k ≤ xs.length) : -1 ≤ bestAt xs water t k ∧ bestAt xs water t k < xs.length ∧ (0 ≤ bestAt xs water t k → okAt xs water t (bestAt xs water t k) = true) := by
  have := bestM_spec (gtK_weak (rests xs water xs.sum)) (okAt xs water t) k
  change (bestAt xs water t k = -1 ∧ _) ∨ (0 ≤ bestAt xs water t k ∧ bestAt xs water t k < k ∧ okAt xs water t (bestAt xs water t k) = true ∧ _) at this
  rcases this with ⟨h, _⟩ | ⟨h1, h2, h3, _⟩
  · omega
  · exact ⟨by omega, by omega, fun _ => h3⟩

theorem best_step {xs : List Int} {water : Int} {t k : Nat} (hk : k < xs.length) :
    bestAt xs water t (k + 1) = if 0 ≤ (restAt xs water t).getD k 0 ∧ (propAt xs water t).getD k 0 < xs.getD k 0 ∧ (bestAt xs water t k < 0 ∨ (restAt xs water t).getD (bestAt xs water t k).toNat 0 < (restAt xs water t).getD k 0) then (k : Int) else bestAt xs water t k := by
  have hb := best_bd xs water t k (by omega)
  have hs : bestAt xs water t (k + 1) = if okAt xs water t k = true ∧ (bestAt xs water t k < 0 ∨ gtK (rests xs water xs.sum) k (bestAt xs water t k) = true) then (k : Int) else bestAt xs water t k := rfl
  rw [hs]
  have hok : okAt xs water t (k : Int) = true ↔ 0 ≤ (restAt xs water t).getD k 0 ∧ (propAt xs water t).getD k 0 < xs.getD k 0 := by
    simp [okAt, List.getD_eq_getElem?_getD]
  by_cases h1 : okAt xs water t (k : Int) = true
  · obtain ⟨h2, h3⟩ := hok.1 h1
    have hr := ok_rest h1 (by simpa using hk)
    simp only [Int.toNat_natCast] at hr
    by_cases h4 : bestAt xs water t k < 0
    · rw [if_pos ⟨h1, .inl h4⟩, if_pos ⟨h2, h3, .inl h4⟩]
    · have h5 := ok_rest (hb.2.2 (by omega)) (by omega)
      by_cases h6 : gtK (rests xs water xs.sum) k (bestAt xs water t k) = true
      · rw [if_pos ⟨h1, .inr h6⟩, if_pos ⟨h2, h3, .inr (by rw [h5, hr]; simpa [gtK] using h6)⟩]
      · rw [if_neg (by rintro ⟨_, h | h⟩ <;> contradiction), if_neg]
        rintro ⟨_, _, h | h⟩
        · exact h4 h
        · rw [h5, hr] at h; exact h6 (by simpa [gtK] using h)
  · rw [if_neg (fun h => h1 h.1), if_neg (fun h => h1 (hok.2 ⟨h.1, h.2.1⟩))]

theorem best_end {xs : List Int} {water : Int} (h : PropH xs water) {t i : Nat} (ht : t < (propL xs water).toNat) (hi : (propR xs water).getD t 0 = (i : Int)) : bestAt xs water t xs.length = (i : Int) ∧ restAt xs water (t + 1) = (restAt xs water t).set i (-1) := by
  have hL := propL_eq h
  obtain ⟨g1, _, g3⟩ := prop_at h (t := t) (by omega)
  obtain ⟨i2, e1, e2, _, e4, _, e6, _⟩ := prop_go h ht
  have hi2 : i2 = i := by rw [hi] at e1; omega
  subst hi2
  have hnew := rank_new (gtK_weak (rests xs water xs.sum)) g1
  have hpl : (propR xs water).length = xs.length := rank_length _ _
  change ∀ i ∈ (propR xs water).take t, i.toNat ≠ ((propR xs water).getD t 0).toNat at hnew
  have hsn : (propR xs water).take (t + 1) = (propR xs water).take t ++ [(propR xs water).getD t 0] := by
    rw [List.take_add_one]; congr 1; simp [List.getD_eq_getElem?_getD, hpl, g1]
  have hi' : ((propR xs water).getD t 0).toNat = i2 := by omega
  refine ⟨?_, ?_⟩
  · have := best_rank (gtK_weak (rests xs water xs.sum)) (okAt xs water t) xs.length t g1 (fun j hj => ?_) ?_
    · show bestM _ _ _ = _
      rw [this]; exact hi
    · obtain ⟨j0, j1⟩ := rank_mem.1 (List.mem_of_mem_take hj)
      have : (restAt xs water t).getD j.toNat 0 = -1 := setsM_in (-1) j.toNat _ _ (by simp [rests]; omega) ⟨j, hj, rfl⟩
      unfold okAt
      rw [this]; rfl
    · show okAt xs water t ((propR xs water).getD t 0) = true
      have hr : (restAt xs water t).getD i2 0 = keyM (rests xs water xs.sum) ((propR xs water).getD t 0) := by
        unfold keyM; rw [hi']
        exact setsM_out _ i2 _ _ fun j hj => by rw [← hi']; exact hnew j hj
      unfold okAt
      rw [hi', hr, e4]
      simp only [Bool.and_eq_true, decide_eq_true_eq]
      exact ⟨by omega, e6⟩
  · unfold restAt
    rw [hsn, setsM_snoc, hi']

theorem propL_le {xs : List Int} {water : Int} (h : PropH xs water) : (propL xs water).toNat ≤ xs.length := by
  rcases Nat.lt_or_ge xs.length (propL xs water).toNat with h1 | h1
  · obtain ⟨_, _, _, h2, _⟩ := prop_go h h1; omega
  · exact h1

theorem floors_length (xs : List Int) (water all : Int) : (floors xs water all).length = xs.length := by simp [floors]

end Go.Proofs.Ytjcoajaoofjjmaa
