/- Selling a share and inheriting, in plain Lean. -/
import Derived.Test.YtjcoajaoofjjmaaDivK
namespace Go.Proofs.Ytjcoajaoofjjmaa
set_option linter.unusedSimpArgs false
set_option linter.unusedVariables false
set_option linter.unnecessarySimpa false

/-! Reduced fractions depend on the quotient alone. -/
theorem coprime_eq {a b c d : Nat} (h1 : Nat.gcd a b = 1) (h2 : Nat.gcd c d = 1) (h : a * d = c * b) (hb : 0 < b) (hd : 0 < d) : a = c ∧ b = d := by
  have e1 : b ∣ d := by
    have : b ∣ a * d := ⟨c, by rw [h, Nat.mul_comm]⟩
    exact Nat.Coprime.dvd_of_dvd_mul_left (Nat.Coprime.symm h1) this
  have e2 : d ∣ b := by
    have : d ∣ c * b := ⟨a, by rw [← h, Nat.mul_comm]⟩
    exact Nat.Coprime.dvd_of_dvd_mul_left (Nat.Coprime.symm h2) this
  have e := Nat.dvd_antisymm e1 e2
  subst e
  exact ⟨Nat.eq_of_mul_eq_mul_right hb h, rfl⟩

theorem gcd_facts (t b : Int) (ht : 0 ≤ t) (hb : 0 < b) : ∃ x y : Nat, t / (Int.gcd t b : Int) = x ∧ b / (Int.gcd t b : Int) = y ∧ Nat.gcd x y = 1 ∧ 0 < y ∧ t * y = x * b := by
  have hg := gcd_div t b hb
  have g0 := gcd_pos t b hb
  obtain ⟨x, hx⟩ : (Int.gcd t b : Int) ∣ t := Int.gcd_dvd_left ..
  obtain ⟨y, hy⟩ : (Int.gcd t b : Int) ∣ b := Int.gcd_dvd_right ..
  have e1 : t / (Int.gcd t b : Int) = x := by conv => lhs; arg 1; rw [hx]
                                              exact Int.mul_ediv_cancel_left _ (by omega)
  have e2 : b / (Int.gcd t b : Int) = y := by conv => lhs; arg 1; rw [hy]
                                              exact Int.mul_ediv_cancel_left _ (by omega)
  rw [e1, e2] at hg ⊢
  generalize (Int.gcd t b : Int) = g at *
  have hy0 : 0 < y := by
    rcases Int.lt_or_le 0 y with h | h
    · exact h
    · have := Int.mul_nonpos_of_nonneg_of_nonpos (show 0 ≤ g by omega) h; omega
  have hx0 : 0 ≤ x := by
    rcases Int.lt_or_le x 0 with h | h
    · have := Int.mul_neg_of_pos_of_neg g0 h; omega
    · exact h
  obtain ⟨x', rfl⟩ := Int.eq_ofNat_of_zero_le hx0
  obtain ⟨y', rfl⟩ := Int.eq_ofNat_of_zero_le (Int.le_of_lt hy0)
  refine ⟨x', y', rfl, rfl, by simpa using hg, by omega, ?_⟩
  rw [hx, hy]; grind

theorem redM_same {t b t' b' : Int} (ht : 0 ≤ t) (hb : 0 < b) (ht' : 0 ≤ t') (hb' : 0 < b') (h : t * b' = t' * b) : redM t b = redM t' b' := by
  obtain ⟨x, y, e1, e2, hg, hy, hxy⟩ := gcd_facts t b ht hb
  obtain ⟨x', y', e1', e2', hg', hy', hxy'⟩ := gcd_facts t' b' ht' hb'
  have key : (x : Int) * y' = x' * y := by
    apply Int.eq_of_mul_eq_mul_right (a := b * b') (by have := Int.mul_pos hb hb'; omega)
    have a1 : (x : Int) * y' * (b * b') = (x * b) * (y' * b') := by grind
    have a2 : (x' : Int) * y * (b * b') = (x' * b') * (y * b) := by grind
    rw [a1, a2, ← hxy, ← hxy']
    grind
  have key' : x * y' = x' * y := by exact_mod_cast key
  obtain ⟨r1, r2⟩ := coprime_eq hg hg' key' hy hy'
  unfold redM
  rw [e1, e2, e1', e2', r1, r2]

theorem redM_self {t b : Int} (h : frOk t b = true) : redM t b = some (t, b) := by
  have e := frOk_iff.1 h
  unfold redM
  rw [e.2.2.2.2]
  simp [h]

def lessM (a b c d : Int) : Option (Int × Int) := if frOk a b && frOk c d && decide (0 ≤ cmpM a b c d) then redM (a * d - c * b) (b * d) else none

theorem frOk_rest {p q : Int} (h : frOk p q = true) (hp : p ≤ q) : frOk (q - p) q = true := by
  have e := frOk_iff.1 h
  refine frOk_iff.2 ⟨e.1, e.2.1, by omega, by omega, ?_⟩
  rw [show ((Int.gcd (q - p) q : Nat) : Int) = (Int.gcd p q : Nat) from ?_]
  · exact e.2.2.2.2
  · congr 1
    rw [Int.gcd_comm (q - p) q, Int.gcd_self_sub_right, Int.gcd_comm]

theorem timesM_ok {a b c d : Int} {s : Int × Int} (h : timesM a b c d = some s) : frOk a b = true ∧ frOk c d = true ∧ frOk s.1 s.2 = true ∧ s.1 * (b * d) = s.2 * (a * c) := by
  unfold timesM at h
  split at h
  · rename_i h1
    simp at h1
    have e1 := frOk_iff.1 h1.1
    have e2 := frOk_iff.1 h1.2
    have := redM_eq h (Int.mul_pos (by omega) (by omega))
    exact ⟨h1.1, h1.2, this.2, this.1⟩
  · cases h

theorem less_times {y z p q : Int} {m : Int × Int} (hp : p ≤ q) (h : timesM y z p q = some m) : lessM y z m.1 m.2 = timesM y z (q - p) q := by
  obtain ⟨h1, h2, h3, h4⟩ := timesM_ok h
  have e1 := frOk_iff.1 h1
  have e2 := frOk_iff.1 h2
  have e3 := frOk_iff.1 h3
  have zq : 0 < z * q := Int.mul_pos (by omega) (by omega)
  -- m1 * z ≤ y * m2
  have hle : m.1 * z ≤ y * m.2 := by
    apply Int.le_of_mul_le_mul_right (a := q) ?_ (by omega)
    have a1 : m.1 * z * q = m.2 * y * p := by grind
    have a2 : y * m.2 * q = m.2 * y * q := by grind
    rw [a1, a2]
    exact Int.mul_le_mul_of_nonneg_left hp (Int.mul_nonneg (by omega) (by omega))
  have hc : 0 ≤ cmpM y z m.1 m.2 := by
    unfold cmpM
    rw [h1, h3]
    simp only [Bool.and_self, if_true]
    split
    · omega
    · split <;> omega
  unfold lessM timesM
  rw [h1, h3, frOk_rest h2 hp]
  simp only [Bool.and_self, Bool.true_and, decide_eq_true_eq, if_true]
  rw [if_pos hc]
  refine redM_same (by omega) (Int.mul_pos (by omega) (by omega)) (Int.mul_nonneg (by omega) (by omega)) zq ?_
  grind

/-! Rights in rising order of their owners. -/
def srt : Int → List T3 → Prop
  | _, [] => True
  | p, t :: r => p < t.1 ∧ srt t.1 r
def atM (o : Int) : List T3 → Nat
  | [] => 0
  | t :: r => if t.1 < o then atM o r + 1 else 0
def idxO (o : Int) : List T3 → Nat
  | [] => 0
  | t :: r => if t.1 = o then 0 else idxO o r + 1
def insM (ts : List T3) (k : Nat) (x : T3) : List T3 := ts.take k ++ x :: ts.drop k
def addShM (ts : List T3) (o p q : Int) : Option (List T3) :=
  if atM o ts < ts.length ∧ (ts.getD (atM o ts) default).1 = o then (addM (ts.getD (atM o ts) default).2.1 (ts.getD (atM o ts) default).2.2 p q).map fun s => ts.set (atM o ts) (o, s.1, s.2)
  else some (insM ts (atM o ts) (o, p, q))

theorem srt_of_rgA : ∀ {ts : List T3} {p : Int}, rgA p ts = true → srt p ts
  | [], _, _ => trivial
  | t :: r, p, h => by
    simp only [rgA, Bool.and_eq_true, decide_eq_true_eq] at h
    exact ⟨h.1.1.1.2, srt_of_rgA h.2⟩
theorem srt_le : ∀ {ts : List T3} {p q : Int}, srt p ts → q ≤ p → srt q ts
  | [], _, _, _, _ => trivial
  | t :: r, p, q, h, hq => ⟨by have := h.1; omega, h.2⟩
theorem srt_mem : ∀ {ts : List T3} {p : Int}, srt p ts → ∀ t ∈ ts, p < t.1
  | [], _, _, t, ht => by cases ht
  | u :: r, p, h, t, ht => by
    rcases List.mem_cons.1 ht with rfl | ht
    · exact h.1
    · have := srt_mem h.2 t ht; have := h.1; omega

theorem idxO_le (o : Int) : ∀ ts : List T3, idxO o ts ≤ ts.length
  | [] => Nat.le_refl _
  | t :: r => by simp only [idxO]; split <;> simp; exact idxO_le o r
theorem atM_le (o : Int) : ∀ ts : List T3, atM o ts ≤ ts.length
  | [] => Nat.le_refl _
  | t :: r => by simp only [atM]; split <;> simp; exact atM_le o r
theorem idxO_get (o : Int) : ∀ ts : List T3, idxO o ts < ts.length → (ts.getD (idxO o ts) default).1 = o
  | [], h => by simp at h
  | t :: r, h => by
    simp only [idxO] at h ⊢
    split
    · rename_i e; simpa using e
    · rename_i e; rw [if_neg e] at h; simp at h ⊢; simpa using idxO_get o r (by simpa using h)
theorem idxO_none (o : Int) : ∀ ts : List T3, idxO o ts = ts.length → ∀ t ∈ ts, t.1 ≠ o
  | [], _, t, ht => by cases ht
  | u :: r, h, t, ht => by
    simp only [idxO] at h
    split at h
    · simp at h
    · rename_i e
      simp at h
      rcases List.mem_cons.1 ht with rfl | ht
      · exact e
      · exact idxO_none o r h t ht
theorem srt_idx {o : Int} : ∀ {ts : List T3} {p : Int}, srt p ts → idxO o ts < ts.length → atM o ts = idxO o ts
  | [], _, _, h => by simp at h
  | t :: r, p, hs, h => by
    simp only [idxO, atM] at h ⊢
    by_cases e : t.1 = o
    · rw [if_pos e, if_neg (by omega)]
    · rw [if_neg e] at h ⊢
      have h' : idxO o r < r.length := by simpa using h
      have hm : r.getD (idxO o r) default ∈ r := by simp [List.getD_eq_getElem?_getD, h']
      have := srt_mem hs.2 _ hm
      rw [idxO_get o r h'] at this
      rw [if_pos (by omega), srt_idx hs.2 h']

theorem atM_ge {o : Int} : ∀ {ts : List T3}, atM o ts < ts.length → ¬ (ts.getD (atM o ts) default).1 < o
  | [], h => by simp at h
  | t :: r, h => by
    simp only [atM] at h ⊢
    split
    · rename_i e; rw [if_pos e] at h; simpa using atM_ge (ts := r) (by simpa using h)
    · rename_i e; simpa using e
theorem atM_lt {o : Int} : ∀ {ts : List T3} (j : Nat), j < atM o ts → (ts.getD j default).1 < o
  | [], j, h => by simp [atM] at h
  | t :: r, 0, h => by
    simp only [atM] at h
    split at h
    · rename_i e; simpa using e
    · omega
  | t :: r, j + 1, h => by
    simp only [atM] at h
    split at h
    · simpa using atM_lt (ts := r) j (by omega)
    · omega

/-- Step of the search for an owner. -/
theorem idxO_step (o : Int) (ts : List T3) (k : Nat) (h : k < ts.length) : idxO o (ts.drop k) = if (ts.getD k default).1 = o then 0 else idxO o (ts.drop (k + 1)) + 1 := by
  rw [drop_getD3 ts k h]; rfl
theorem atM_step (o : Int) (ts : List T3) (k : Nat) (h : k < ts.length) : atM o (ts.drop k) = if (ts.getD k default).1 < o then atM o (ts.drop (k + 1)) + 1 else 0 := by
  rw [drop_getD3 ts k h]; rfl

theorem addM_frOk {a b c d : Int} {s : Int × Int} (h : addM a b c d = some s) : frOk s.1 s.2 = true := (addM_eq h).2

theorem srt_set : ∀ {ts : List T3} {p : Int} (k : Nat) (x : T3), srt p ts → k < ts.length → x.1 = (ts.getD k default).1 → srt p (ts.set k x)
  | [], _, k, _, _, h, _ => by simp at h
  | t :: r, p, 0, x, hs, h, e => by
    have e : x.1 = t.1 := by simpa using e
    show p < x.1 ∧ srt x.1 r
    rw [e]; exact hs
  | t :: r, p, k + 1, x, hs, h, e => ⟨hs.1, srt_set k x hs.2 (by simpa using h) (by simpa using e)⟩
theorem srt_erase : ∀ {ts : List T3} {p : Int} (k : Nat), srt p ts → srt p (ts.eraseIdx k)
  | [], _, _, _ => trivial
  | t :: r, p, 0, h => srt_le h.2 (Int.le_of_lt h.1)
  | t :: r, p, k + 1, h => ⟨h.1, srt_erase k h.2⟩
theorem srt_ins {o q1 q2 : Int} : ∀ {ts : List T3} {p : Int}, srt p ts → p < o → (∀ t ∈ ts, t.1 ≠ o) → srt p (insM ts (atM o ts) (o, q1, q2))
  | [], p, _, hp, _ => ⟨hp, trivial⟩
  | t :: r, p, hs, hp, hne => by
    have h0 := hne t (by simp)
    simp only [atM]
    split
    · rename_i e
      exact ⟨hs.1, srt_ins hs.2 e (fun u hu => hne u (by simp [hu]))⟩
    · exact ⟨hp, show o < t.1 by omega, hs.2⟩

theorem srt_noAt {o : Int} {ts : List T3} {p : Int} (hs : srt p ts) (h : ¬ (atM o ts < ts.length ∧ (ts.getD (atM o ts) default).1 = o)) : idxO o ts = ts.length := by
  rcases Nat.lt_or_ge (idxO o ts) ts.length with hl | hl
  · exact absurd ⟨by rw [srt_idx hs hl]; exact hl, by rw [srt_idx hs hl]; exact idxO_get o ts hl⟩ h
  · have := idxO_le o ts; omega
theorem srt_yesAt {o : Int} {ts : List T3} {p : Int} (hs : srt p ts) (h : atM o ts < ts.length ∧ (ts.getD (atM o ts) default).1 = o) : idxO o ts = atM o ts := by
  rcases Nat.lt_or_ge (idxO o ts) ts.length with hl | hl
  · exact (srt_idx hs hl).symm
  · have := idxO_le o ts
    exact absurd h.2 (idxO_none o ts (by omega) _ (by simp [List.getD_eq_getElem?_getD, h.1]))

theorem addSh_srt {ts us : List T3} {o q1 q2 p : Int} (hs : srt p ts) (hp : p < o) (h : addShM ts o q1 q2 = some us) : srt p us ∧ us.length ≤ ts.length + 1 := by
  unfold addShM at h
  split at h
  · rename_i hc
    cases ha : addM (ts.getD (atM o ts) default).2.1 (ts.getD (atM o ts) default).2.2 q1 q2 with
    | none => rw [ha] at h; cases h
    | some s =>
      rw [ha] at h
      injection h with h; subst h
      exact ⟨srt_set _ _ hs hc.1 hc.2.symm, by simp⟩
  · rename_i hc
    injection h with h; subst h
    exact ⟨srt_ins hs hp (idxO_none o ts (srt_noAt hs hc)), by simp [insM]; have := atM_le o ts; omega⟩

/-! Selling. -/
def sellOut (ts : List T3) (k : Nat) (r : Int × Int) : List T3 := if r.1 = 0 then ts.eraseIdx k else ts.set k ((ts.getD k default).1, r.1, r.2)
def sellTo (us : List T3) (to : Int) (m : Int × Int) : Option (List T3) := if m.1 = 0 then some us else addShM us to m.1 m.2
def okM : Option (List T3) → Option (List T3)
  | some us => if rightsM us then some us else none
  | none => none
def sellOk (ts : List T3) (f to p q : Int) : Bool := rightsM ts && decide (f ≠ to) && inB to 1 999 && frOk p q && decide (p ≤ q)
def sellM (ts : List T3) (f to p q : Int) : Option (List T3) :=
  if sellOk ts f to p q = true ∧ idxO f ts < ts.length then
    match timesM (ts.getD (idxO f ts) default).2.1 (ts.getD (idxO f ts) default).2.2 p q, timesM (ts.getD (idxO f ts) default).2.1 (ts.getD (idxO f ts) default).2.2 (q - p) q with
    | some m, some r => okM (sellTo (sellOut ts (idxO f ts) r) to m)
    | _, _ => none
  else none

/-! Inheriting. -/
def heirL (o p q : Int) : Int → List Int → List T3 → Option (List T3)
  | _, [], us => some us
  | pr, h :: hs, us => if inB h 1 999 && decide (h ≠ o) && decide (pr < h) then (match addShM us h p q with | some vs => heirL o p q h hs vs | none => none) else none
def inhM (ts : List T3) (o : Int) (hs : List Int) : Option (List T3) :=
  if (rightsM ts && inB hs.length 1 6) = true ∧ idxO o ts < ts.length then
    match splitM (ts.getD (idxO o ts) default).2.1 (ts.getD (idxO o ts) default).2.2 hs.length with
    | some s => okM (heirL o s.1 s.2 0 hs (ts.eraseIdx (idxO o ts)))
    | none => none
  else none

end Go.Proofs.Ytjcoajaoofjjmaa
