/- Droughts: what the rules give: plain laws. -/
import Derived.Test.YtjcemoofnonlkaaPropM
import Derived.Test.YtjcemoofnonlkaaLossM
import Derived.Test.YtjcemoofnonlkaaHlvL
import Derived.Test.YtjcemoofnonlkaaFirst
import Derived.Test.YtjcemoofnonlkaaProp
namespace Go.Proofs.Ytjcemoofnonlkaa
set_option linter.unusedSimpArgs false
set_option linter.unusedVariables false
set_option linter.unnecessarySimpa false

/-- Each has between nothing and its claim, together what there is to give, and a greater claim no less (but for s). -/
structure DrtOk (xs d : List Int) (give s : Int) : Prop where
  len : d.length = xs.length
  bd : ∀ k, k < xs.length → 0 ≤ d.getD k 0 ∧ d.getD k 0 ≤ xs.getD k 0
  sum : d.sum = give
  mono : ∀ i k, i < xs.length → k < xs.length → xs.getD k 0 < xs.getD i 0 → d.getD k 0 - s ≤ d.getD i 0

theorem sum_set (v : Int) : ∀ (l : List Int) (i : Nat), i < l.length → (l.set i v).sum = l.sum - l.getD i 0 + v
  | [], i, h => by simp at h
  | x :: l, 0, _ => by simp [List.getD_eq_getElem?_getD]; omega
  | x :: l, i + 1, h => by
    have := sum_set v l i (by simpa using h)
    simp only [List.set_cons_succ, List.sum_cons, List.getD_cons_succ]
    omega

theorem set_getD (l : List Int) (i k : Nat) (v : Int) (hi : i < l.length) : (l.set i v).getD k 0 = if i = k then v else l.getD k 0 := by
  by_cases h : i = k
  · subst h; simp [List.getD_eq_getElem?_getD, hi]
  · simp [List.getD_eq_getElem?_getD, List.getElem?_set, h]

theorem prop_all {xs : List Int} {water : Int} (h : PropH xs water) : ∀ t, t ≤ (propL xs water).toNat →
    (propAt xs water t).sum = (floors xs water xs.sum).sum + t ∧
    (∀ k, k < xs.length → (0 ≤ (propAt xs water t).getD k 0 ∧ (propAt xs water t).getD k 0 ≤ xs.getD k 0)) ∧
    (∀ k, k < xs.length → ((propAt xs water t).getD k 0 = (floors xs water xs.sum).getD k 0 ∧ ∀ s, s < t → (propR xs water).getD s 0 ≠ (k : Int)) ∨ ((propAt xs water t).getD k 0 = (floors xs water xs.sum).getD k 0 + 1 ∧ ∃ s, s < t ∧ (propR xs water).getD s 0 = (k : Int)))
  | 0, _ => by
    have ha : 0 < xs.sum := by have := h.w0; have := h.w1; omega
    have e : propAt xs water 0 = floors xs water xs.sum := rfl
    rw [e]
    refine ⟨by simp, fun k hk => ?_, fun k hk => .inl ⟨rfl, fun s hs => by omega⟩⟩
    simp only [floors, List.getD_eq_getElem?_getD, List.getElem?_map, List.getElem?_eq_getElem hk, Option.map_some, Option.getD_some]
    have hc := h.pos _ (List.getElem_mem hk)
    have hw0 := h.w0
    have hw1 := h.w1
    generalize xs[k] = c at *
    generalize xs.sum = all at *
    have m0 := Int.mul_nonneg hw0 hc
    refine ⟨Int.ediv_nonneg m0 (by omega), ?_⟩
    have hm : water * c ≤ all * c := Int.mul_le_mul_of_nonneg_right (by omega) hc
    have := Int.ediv_le_ediv ha hm
    rwa [Int.mul_ediv_cancel_left _ (by omega)] at this
  | t + 1, ht => by
    obtain ⟨g1, g2, g3⟩ := prop_all h t (by omega)
    obtain ⟨i, e0, hi, _, e1, e2, e3, e4⟩ := prop_go h (t := t) (by omega)
    have hl := propAt_length xs water t
    refine ⟨?_, fun k hk => ?_, fun k hk => ?_⟩
    · rw [e4, sum_set _ _ _ (by omega), g1, e1]; simp; omega
    · rw [e4, set_getD _ _ _ _ (by omega)]
      by_cases hik : i = k
      · subst hik; rw [if_pos rfl]; omega
      · rw [if_neg hik]; exact g2 k hk
    · rw [e4, set_getD _ _ _ _ (by omega)]
      by_cases hik : i = k
      · subst hik; rw [if_pos rfl]; exact .inr ⟨rfl, t, by omega, e0⟩
      · rw [if_neg hik]
        rcases g3 k hk with ⟨q1, q2⟩ | ⟨q1, s, q2, q3⟩
        · refine .inl ⟨q1, fun s hs => ?_⟩
          by_cases hst : s = t
          · subst hst; rw [e0]; omega
          · exact q2 s (by omega)
        · exact .inr ⟨q1, s, by omega, q3⟩

theorem prop_drt {xs : List Int} {water : Int} (h : PropH xs water) : DrtOk xs (propGo xs water) water 0 := by
  obtain ⟨g1, g2, g3⟩ := prop_all h _ (Nat.le_refl _)
  have ha : 0 < xs.sum := by have := h.w0; have := h.w1; omega
  have e : propAt xs water (propL xs water).toNat = propGo xs water := rfl
  have hL := propL_eq h
  have hle := propL_le h
  rw [e] at g1 g2 g3
  refine ⟨by simp [propGo, setsM_length, floors], g2, ?_, fun i k hi hk hik => ?_⟩
  · rw [g1, Int.toNat_of_nonneg hL.1]; unfold propL; omega
  · have ci := h.pos _ (List.getElem_mem hi)
    have ck := h.pos _ (List.getElem_mem hk)
    have fi : (floors xs water xs.sum).getD i 0 = water * xs.getD i 0 / xs.sum := by simp [floors, List.getD_eq_getElem?_getD, hi]
    have fk : (floors xs water xs.sum).getD k 0 = water * xs.getD k 0 / xs.sum := by simp [floors, List.getD_eq_getElem?_getD, hk]
    have ri : keyM (rests xs water xs.sum) (i : Int) = water * xs.getD i 0 % xs.sum := by simp [keyM, rests, List.getD_eq_getElem?_getD, hi]
    have rk : keyM (rests xs water xs.sum) (k : Int) = water * xs.getD k 0 % xs.sum := by simp [keyM, rests, List.getD_eq_getElem?_getD, hk]
    have hm : water * xs.getD k 0 ≤ water * xs.getD i 0 := Int.mul_le_mul_of_nonneg_left (by omega) h.w0
    have hf := Int.ediv_le_ediv ha hm
    have di := Int.mul_ediv_add_emod (water * xs.getD i 0) xs.sum
    have dk := Int.mul_ediv_add_emod (water * xs.getD k 0) xs.sum
    rcases g3 k hk with ⟨q1, _⟩ | ⟨q1, s, q2, q3⟩
    · rcases g3 i hi with ⟨p1, _⟩ | ⟨p1, _⟩ <;> omega
    · rcases g3 i hi with ⟨p1, p2⟩ | ⟨p1, _⟩
      · rcases Int.lt_or_le (water * xs.getD k 0 / xs.sum) (water * xs.getD i 0 / xs.sum) with hlt | hge
        · omega
        · exfalso
          have heq : water * xs.getD k 0 / xs.sum = water * xs.getD i 0 / xs.sum := by omega
          have hrk := (prop_at h (t := s) (by omega)).2.2
          rw [q3, rk] at hrk
          have hw : 0 < water := by
            rcases Int.lt_or_le 0 water with hw | hw
            · exact hw
            · have : water = 0 := by have := h.w0; omega
              rw [this] at hrk; simp at hrk
          have hm2 : water * xs.getD k 0 < water * xs.getD i 0 := Int.mul_lt_mul_of_pos_left hik hw
          rw [heq] at dk
          have hgt : gtK (rests xs water xs.sum) (i : Int) (k : Int) = true := by
            unfold gtK; rw [ri, rk]; apply decide_eq_true; omega
          have hmem : (i : Int) ∈ rankM (gtK (rests xs water xs.sum)) xs.length := rank_mem.2 ⟨by omega, by omega⟩
          obtain ⟨s', hs', hs2⟩ := List.getElem_of_mem hmem
          have hpl : (propR xs water).length = xs.length := rank_length _ _
          have hsl : s' < (propR xs water).length := hs'
          have hgi : (propR xs water).getD s' 0 = (i : Int) := by
            show (rankM _ _).getD s' 0 = _
            simp only [List.getD_eq_getElem?_getD, List.getElem?_eq_getElem hs', Option.getD_some]; exact hs2
          have hns : ¬ s' < (propL xs water).toNat := fun hc => p2 s' hc hgi
          have hsort := rank_sorted (gtK_weak (rests xs water xs.sum)) xs.length
          have hsn : s < (rankM (gtK (rests xs water xs.sum)) xs.length).length := by rw [rank_length]; omega
          have := (List.pairwise_iff_getElem.1 hsort) s s' hsn hs' (by omega)
          rw [hs2] at this
          have q3' : (rankM (gtK (rests xs water xs.sum)) xs.length)[s] = (k : Int) := by
            have : (rankM (gtK (rests xs water xs.sum)) xs.length).getD s 0 = (k : Int) := q3
            simpa only [List.getD_eq_getElem?_getD, List.getElem?_eq_getElem hsn, Option.getD_some] using this
          rw [q3'] at this
          have h3 : gtK (rests xs water xs.sum) (k : Int) (i : Int) = false := (gtK_weak _).asym _ _ hgt
          unfold ahead at this
          rw [h3, hgt] at this
          cases this
      · omega

theorem drt_weak {xs d : List Int} {g s t : Int} (h : DrtOk xs d g s) (hst : s ≤ t) : DrtOk xs d g t :=
  ⟨h.len, h.bd, h.sum, fun i k hi hk hik => by have := h.mono i k hi hk hik; omega⟩

theorem ep_drt {xs : List Int} {water : Int} (hd : dryM xs water = true) : DrtOk xs (epM xs water) (min water xs.sum) 1 := by
  obtain ⟨H, h0, hp⟩ := ep_parts hd
  refine ⟨epM_pos hd, fun k hk => epM_in hd k hk, epM_sum hd, fun i k hi hk hik => ?_⟩
  have p1 := hp i hi
  have p2 := hp k hk
  omega

/-- Who gets less than the claim gets no less than the greatest part but for one. -/
theorem ep_top {xs : List Int} {water : Int} (hd : dryM xs water = true) (i k : Nat) (hi : i < xs.length) (hk : k < xs.length) (hik : (epM xs water).getD k 0 < xs.getD k 0) : (epM xs water).getD i 0 - 1 ≤ (epM xs water).getD k 0 := by
  obtain ⟨H, h0, hp⟩ := ep_parts hd
  have p1 := hp i hi
  have p2 := hp k hk
  omega

theorem zip_sum2 (xs ys : List Int) (h : xs.length = ys.length) : (List.zipWith (fun c l => c - l) xs ys).sum = xs.sum - ys.sum := by
  induction xs generalizing ys with
  | nil => cases ys with
    | nil => rfl
    | cons y r => simp at h
  | cons x l ih => cases ys with
    | nil => simp at h
    | cons y r =>
      have := ih r (by simpa using h)
      simp only [List.zipWith_cons_cons, List.sum_cons, this]
      omega

theorem loss_drt {xs : List Int} {water : Int} (hd : dryM xs water = true) : DrtOk xs (lossM xs water) (min water xs.sum) 1 := by
  have hd0 := loss_dry hd
  obtain ⟨H, h0, hp⟩ := ep_parts hd0
  have hl := epM_pos hd0
  have hs := epM_sum hd0
  have hin := fun k hk => epM_in hd0 k hk
  have hsum := dry_sum hd
  have hw := (dryM_spec hd).2
  unfold lossM
  rw [if_pos hd]
  generalize epM xs (max 0 (xs.sum - water)) = E at *
  have hz : ∀ k, k < xs.length → (List.zipWith (fun c l => c - l) xs E).getD k 0 = xs.getD k 0 - E.getD k 0 := fun k hk => zip_getD _ xs E k hk (by omega)
  refine ⟨by simp; omega, fun k hk => ?_, ?_, fun i k hi hk hik => ?_⟩
  · rw [hz k hk]; have := hin k hk; omega
  · rw [zip_sum2 xs E hl.symm, hs]; omega
  · rw [hz k hk, hz i hi]
    have p1 := hp i hi
    have p2 := hp k hk
    omega

theorem fc_sum : ∀ (xs : List Int) (x : Int), (∀ c ∈ xs, 0 ≤ c) → 0 ≤ x → (fc xs x).sum = min x xs.sum
  | [], x, _, h => by simp [fc]; omega
  | c :: l, x, hb, h => by
    have hc := hb c (by simp)
    have h0 : 0 ≤ l.sum := sum_nonneg l (fun k hk => hb _ (List.mem_cons_of_mem _ (getD_mem' hk)))
    have := fc_sum l (x - min c x) (fun y hy => hb y (by simp [hy])) (by omega)
    rw [fc, List.sum_cons, List.sum_cons, this]
    omega

theorem fc_bd : ∀ (xs : List Int) (x : Int) (k : Nat), (∀ c ∈ xs, 0 ≤ c) → 0 ≤ x → k < xs.length → 0 ≤ (fc xs x).getD k 0 ∧ (fc xs x).getD k 0 ≤ xs.getD k 0
  | [], x, k, _, _, h => by simp at h
  | c :: l, x, 0, hb, h, _ => by
    have hc := hb c (by simp)
    simp [fc]; omega
  | c :: l, x, k + 1, hb, h, hk => by
    have hc := hb c (by simp)
    have := fc_bd l (x - min c x) k (fun y hy => hb y (by simp [hy])) (by omega) (by simpa using hk)
    simpa [fc] using this

theorem first_drt {xs : List Int} {water : Int} (hd : dryM xs water = true) : DrtOk xs (firstM xs water) (min water xs.sum) 80000 := by
  have hs := dryM_spec hd
  have hb : ∀ c ∈ xs, 0 ≤ c := fun c hc => (hs.1.2.2 c hc).1
  have e : firstM xs water = fc xs water := by simp [firstM, hd]
  rw [e]
  refine ⟨fc_length _ _, fun k hk => fc_bd xs water k hb hs.2.1 hk, fc_sum xs water hb hs.2.1, fun i k hi hk hik => ?_⟩
  have b1 := fc_bd xs water i hb hs.2.1 hi
  have b2 := fc_bd xs water k hb hs.2.1 hk
  have b3 := hs.1.2.2 _ (getD_mem' hk)
  omega

theorem all_drt {xs : List Int} {water : Int} (hd : dryM xs water = true) (h : xs.sum ≤ water) : DrtOk xs xs (min water xs.sum) 0 := by
  have hs := dryM_spec hd
  refine ⟨rfl, fun k hk => ?_, by omega, fun i k hi hk hik => by omega⟩
  have := hs.1.2.2 _ (getD_mem' hk)
  omega

theorem propM_drt {xs : List Int} {water : Int} (hd : dryM xs water = true) : DrtOk xs (propM xs water) (min water xs.sum) 0 := by
  unfold propM
  rw [if_pos hd]
  split
  · rename_i h; exact all_drt hd h
  · rename_i h
    have := prop_drt (propH_of hd h)
    rw [show min water xs.sum = water by omega]; exact this

/-- The rule's number: its result, and how much less who claims more may get. -/
def ruleM (r : Int) (xs : List Int) (water : Int) : List Int := if r = 1 then epM xs water else if r = 2 then lossM xs water else if r = 3 then firstM xs water else propM xs water
theorem rule_drt (r : Int) {xs : List Int} {water : Int} (hd : dryM xs water = true) : DrtOk xs (ruleM r xs water) (min water xs.sum) (if r = 0 then 0 else if r < 3 then 1 else 80000) ∨ r < 0 ∨ 3 < r := by
  by_cases h0 : r < 0
  · exact .inr (.inl h0)
  by_cases h3 : 3 < r
  · exact .inr (.inr h3)
  left
  unfold ruleM
  by_cases h1 : r = 1
  · subst h1; simpa using ep_drt hd
  · by_cases h2 : r = 2
    · subst h2; simpa using loss_drt hd
    · by_cases h4 : r = 3
      · subst h4; simpa using first_drt hd
      · have : r = 0 := by omega
        subst this; simpa using propM_drt hd

end Go.Proofs.Ytjcemoofnonlkaa
