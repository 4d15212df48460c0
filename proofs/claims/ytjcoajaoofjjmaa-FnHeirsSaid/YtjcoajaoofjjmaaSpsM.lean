/- What the reference's selling computes, in plain Lean. -/
import Derived.Test.YtjcoajaoofjjmaaSellM
namespace Go.Proofs.Ytjcoajaoofjjmaa
set_option linter.unusedSimpArgs false
set_option linter.unusedVariables false
set_option linter.unnecessarySimpa false

theorem take_snoc3 (ts : List T3) (k : Nat) (h : k < ts.length) : ts.take (k + 1) = ts.take k ++ [ts.getD k default] := by
  rw [List.take_succ_eq_append_getElem h]; simp [List.getD_eq_getElem?_getD, h]

theorem sellOut_past (l : List T3) (x : T3) (k0 : Nat) (r : Int × Int) (h : k0 < l.length) : sellOut (l ++ [x]) k0 r = sellOut l k0 r ++ [x] := by
  unfold sellOut
  split
  · rw [List.eraseIdx_append_of_lt_length h]
  · rw [List.set_append_left _ _ h]
    simp [List.getD_eq_getElem?_getD, List.getElem?_append_left h]
theorem sellOut_here (l : List T3) (x : T3) (k0 : Nat) (r : Int × Int) (h : l.length = k0) : sellOut (l ++ [x]) k0 r = if r.1 = 0 then l else l ++ [(x.1, r.1, r.2)] := by
  subst h
  unfold sellOut
  split
  · rw [List.eraseIdx_append_of_length_le (Nat.le_refl _)]; simp
  · rw [List.set_append_right _ _ (Nat.le_refl _)]; simp [List.getD_eq_getElem?_getD]

/-- What the reference adds: nothing is put in where nothing is moved. -/
def addS (us : List T3) (to : Int) (m : Int × Int) : Option (List T3) :=
  if atM to us < us.length ∧ (us.getD (atM to us) default).1 = to then (addM (us.getD (atM to us) default).2.1 (us.getD (atM to us) default).2.2 m.1 m.2).map fun s => us.set (atM to us) (to, s.1, s.2)
  else some (if 0 < m.1 then insM us (atM to us) (to, m.1, m.2) else us)

theorem frOk_zero {b : Int} (h : frOk 0 b = true) : b = 1 := by
  have e := frOk_iff.1 h
  have := e.2.2.2.2
  rw [Int.gcd_zero_left] at this
  omega

theorem addS_eq {us : List T3} {to : Int} {m : Int × Int} (hm : frOk m.1 m.2 = true) (hu : ∀ t ∈ us, frOk t.2.1 t.2.2 = true) : addS us to m = sellTo us to m := by
  obtain ⟨m0, m1⟩ := m
  have hp := frOk_iff.1 hm
  simp only at hm hp
  unfold sellTo addS
  by_cases h0 : m0 = 0
  · subst h0
    have := frOk_zero hm
    subst this
    simp only [if_true]
    split
    · rename_i h
      have ho : frOk (us.getD (atM to us) default).2.1 (us.getD (atM to us) default).2.2 = true := hu _ (by simp [List.getD_eq_getElem?_getD, h.1])
      have e : addM (us.getD (atM to us) default).2.1 (us.getD (atM to us) default).2.2 0 1 = some ((us.getD (atM to us) default).2.1, (us.getD (atM to us) default).2.2) := by
        unfold addM
        rw [ho, hm]
        simp only [Bool.and_self, if_true, Int.mul_one, Int.zero_mul, Int.add_zero]
        exact redM_self ho
      rw [e]
      simp only [Option.map_some]
      congr 1
      apply List.ext_getElem?
      intro i
      rw [List.getElem?_set]
      split
      · rename_i e; subst e
        rw [if_pos h.1, List.getElem?_eq_getElem h.1]
        congr 1
        have h2 := h.2
        simp only [List.getD_eq_getElem?_getD, List.getElem?_eq_getElem h.1, Option.getD_some] at h2 ⊢
        exact Prod.ext h2.symm rfl
      · rfl
    · simp
  · rw [if_neg h0]
    unfold addShM
    split
    · rfl
    · rw [if_pos (by simp only; omega)]

theorem sellOut_ok {ts : List T3} {k : Nat} {r : Int × Int} (hr : frOk r.1 r.2 = true) (hu : ∀ t ∈ ts, frOk t.2.1 t.2.2 = true) : ∀ t ∈ sellOut ts k r, frOk t.2.1 t.2.2 = true := by
  unfold sellOut
  split
  · intro t ht; exact hu t (List.mem_of_mem_eraseIdx ht)
  · intro t ht
    rcases List.mem_or_eq_of_mem_set ht with h | h
    · exact hu t h
    · subst h; exact hr

theorem idxO_ne {o : Int} : ∀ {ts : List T3} (j : Nat), j < idxO o ts → (ts.getD j default).1 ≠ o
  | [], j, h => by simp [idxO] at h
  | t :: r, j, h => by
    simp only [idxO] at h
    split at h
    · omega
    · rename_i e
      cases j with
      | zero => simpa using e
      | succ j => simpa using idxO_ne (ts := r) j (by omega)
theorem srt_past {o : Int} : ∀ {ts : List T3} {p : Int} (j : Nat), srt p ts → idxO o ts < j → j < ts.length → (ts.getD j default).1 ≠ o
  | [], _, j, _, _, h => by simp at h
  | t :: r, p, j, hs, hi, hj => by
    simp only [idxO] at hi
    cases j with
    | zero => omega
    | succ j =>
      have hj' : j < r.length := by simpa using hj
      split at hi
      · rename_i e
        have := srt_mem hs.2 (r.getD j default) (by simp [List.getD_eq_getElem?_getD, hj'])
        simp only [List.getD_cons_succ]
        omega
      · simpa using srt_past (ts := r) j hs.2 (by omega) hj'

/-- The reference's first loop after k rounds. -/
def SellJ (ts : List T3) (k0 : Nat) (A1 A2 : Option (Int × Int)) (k : Nat) (L : List T3) (b : Bool) (m0 m1 : Int) : Prop :=
  (k ≤ k0 ∧ b = false ∧ L = ts.take k ∧ m0 = 0 ∧ m1 = 0) ∨ (k0 < k ∧ b = true ∧ ∃ r0 r1, A1 = some (m0, m1) ∧ A2 = some (r0, r1) ∧ L = sellOut (ts.take k) k0 (r0, r1))

theorem SellJ.start (ts : List T3) (k0 : Nat) (A1 A2 : Option (Int × Int)) : SellJ ts k0 A1 A2 0 [] false 0 0 := .inl ⟨Nat.zero_le _, rfl, by simp, rfl, rfl⟩
theorem SellJ.next {ts : List T3} {k0 : Nat} {A1 A2 : Option (Int × Int)} {k : Nat} {L : List T3} {b : Bool} {m0 m1 : Int} (h : SellJ ts k0 A1 A2 k L b m0 m1) (hk : k < ts.length) (hne : k ≠ k0) : SellJ ts k0 A1 A2 (k + 1) (L ++ [ts.getD k default]) b m0 m1 := by
  rcases h with ⟨h1, h2, h3, h4, h5⟩ | ⟨h1, h2, r0, r1, h3, h4, h5⟩
  · exact .inl ⟨by omega, h2, by rw [h3, take_snoc3 ts k hk], h4, h5⟩
  · exact .inr ⟨by omega, h2, r0, r1, h3, h4, by rw [h5, take_snoc3 ts k hk, sellOut_past _ _ _ _ (by rw [List.length_take]; omega)]⟩
theorem SellJ.here {ts : List T3} {k0 : Nat} {A1 A2 : Option (Int × Int)} {L : List T3} {b : Bool} {m0 m1 x0 x1 r0 r1 : Int} (h : SellJ ts k0 A1 A2 k0 L b m0 m1) (hk : k0 < ts.length) (h1 : A1 = some (x0, x1)) (h2 : A2 = some (r0, r1)) :
    SellJ ts k0 A1 A2 (k0 + 1) (if r0 = 0 then L else L ++ [((ts.getD k0 default).1, r0, r1)]) true x0 x1 := by
  rcases h with ⟨_, _, h3, _, _⟩ | ⟨h3, _⟩
  · refine .inr ⟨by omega, rfl, r0, r1, h1, h2, ?_⟩
    rw [take_snoc3 ts k0 hk, sellOut_here _ _ _ _ (by rw [List.length_take]; omega), ← h3]
  · omega
theorem SellJ.len {ts : List T3} {k0 : Nat} {A1 A2 : Option (Int × Int)} {k : Nat} {L : List T3} {b : Bool} {m0 m1 : Int} (h : SellJ ts k0 A1 A2 k L b m0 m1) : L.length ≤ k := by
  rcases h with ⟨_, _, h3, _, _⟩ | ⟨_, _, r0, r1, _, _, h3⟩
  · rw [h3, List.length_take]; omega
  · rw [h3]
    unfold sellOut
    split
    · refine Nat.le_trans (List.length_eraseIdx_le _ _) ?_
      rw [List.length_take]; omega
    · rw [List.length_set, List.length_take]; omega
theorem SellJ.end {ts : List T3} {k0 : Nat} {A1 A2 : Option (Int × Int)} {L : List T3} {b : Bool} {m0 m1 : Int} (h : SellJ ts k0 A1 A2 ts.length L b m0 m1) : (b = false ∧ ¬ k0 < ts.length) ∨ (b = true ∧ k0 < ts.length ∧ ∃ r0 r1, A1 = some (m0, m1) ∧ A2 = some (r0, r1) ∧ L = sellOut ts k0 (r0, r1)) := by
  rcases h with ⟨h1, h2, _⟩ | ⟨h1, h2, r0, r1, h3, h4, h5⟩
  · exact .inl ⟨h2, by omega⟩
  · exact .inr ⟨h2, h1, r0, r1, h3, h4, by rw [h5, List.take_of_length_le (Nat.le_refl _)]⟩

end Go.Proofs.Ytjcoajaoofjjmaa
