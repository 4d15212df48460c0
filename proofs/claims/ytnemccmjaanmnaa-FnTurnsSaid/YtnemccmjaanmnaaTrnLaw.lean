/- Turns in plain Lean: every hour has one owner at most, and turns come again each week. -/
import Derived.Test.YtnemccmjaanmnaaTrn4
namespace Go.Proofs.Ytnemccmjaanmnaa
set_option linter.unusedSimpArgs false
set_option linter.unusedVariables false
open Go.RowKit

/-- How many of the first n numbers f holds of. -/
def cnt (f : Int → Bool) : Nat → Int
  | 0 => 0
  | n + 1 => cnt f n + if f n then 1 else 0

theorem cnt_congr {f g : Int → Bool} : ∀ {n : Nat}, (∀ k : Nat, k < n → f k = g k) → cnt f n = cnt g n
  | 0, _ => rfl
  | n + 1, h => by simp only [cnt]; rw [cnt_congr (fun k hk => h k (by omega)), h n (by omega)]
theorem cnt_bd (f : Int → Bool) : ∀ n : Nat, 0 ≤ cnt f n ∧ cnt f n ≤ n
  | 0 => by simp [cnt]
  | n + 1 => by have := cnt_bd f n; simp only [cnt]; split <;> omega
theorem cnt_pos (f : Int → Bool) : ∀ n : Nat, 0 < cnt f n ↔ ∃ k : Nat, k < n ∧ f k = true
  | 0 => by simp [cnt]
  | n + 1 => by
    have h := cnt_pos f n
    have hb := cnt_bd f n
    simp only [cnt]
    constructor
    · intro h1
      by_cases hf : f n = true
      · exact ⟨n, by omega, hf⟩
      · simp only [hf] at h1
        obtain ⟨k, hk, hk'⟩ := h.1 (by simpa using h1)
        exact ⟨k, by omega, hk'⟩
    · rintro ⟨k, hk, hf⟩
      by_cases hkn : k = n
      · subst hkn; rw [if_pos hf]; omega
      · have := h.2 ⟨k, by omega, hf⟩
        split <;> omega
theorem cnt_false : ∀ n : Nat, cnt (fun _ => false) n = 0
  | 0 => rfl
  | n + 1 => by simp [cnt, cnt_false n]
theorem cnt_true : ∀ n : Nat, cnt (fun _ => true) n = n
  | 0 => rfl
  | n + 1 => by simp [cnt, cnt_true n]
theorem cnt_or {f g : Int → Bool} : ∀ {n : Nat}, (∀ k : Nat, k < n → ¬ (f k = true ∧ g k = true)) → cnt (fun k => f k || g k) n = cnt f n + cnt g n
  | 0, _ => rfl
  | n + 1, h => by
    simp only [cnt]
    rw [cnt_or (fun k hk => h k (by omega))]
    have := h n (by omega)
    by_cases hf : f n = true <;> by_cases hg : g n = true <;> simp [hf, hg] at this ⊢ <;> omega
theorem cnt_range (y z : Int) (h0 : 0 ≤ y) (h1 : y ≤ z) : ∀ n : Nat, cnt (fun k => decide (y ≤ k) && decide (k < z)) n = if (n : Int) ≤ y then 0 else if (n : Int) ≤ z then n - y else z - y
  | 0 => by simp only [cnt]; rw [if_pos (by omega)]
  | n + 1 => by
    have ih := cnt_range y z h0 h1 n
    simp only [cnt, ih, Bool.and_eq_true, decide_eq_true_eq]
    repeat' split
    all_goals omega

theorem trOk_cons {q : Int} {x y z : Int} {r : List T3} (h : trOk q ((x, y, z) :: r) = true) : 1 ≤ x ∧ x ≤ 999 ∧ 0 ≤ y ∧ y < z ∧ z ≤ 168 ∧ q ≤ y ∧ trOk z r = true := by
  simp only [trOk, Bool.and_eq_true, decide_eq_true_eq] at h
  obtain ⟨⟨⟨⟨⟨h1, h2⟩, h3⟩, h4⟩, h5⟩, h6⟩ := h
  have := inB_iff.1 h1
  exact ⟨this.1, this.2, h2, h3, h4, h5, h6⟩

theorem ownL_low {q : Int} {ts : List T3} (h : trOk q ts = true) {k : Int} (hk : k < q) : ownL k ts = 0 := by
  induction ts generalizing q with
  | nil => rfl
  | cons t r ih =>
    obtain ⟨x, y, z⟩ := t
    obtain ⟨h1, h2, h3, h4, h5, h6, h7⟩ := trOk_cons h
    simp only [ownL]
    rw [if_neg (by omega)]
    exact ih h7 (by omega)

theorem cnt_own {q : Int} {ts : List T3} (h : trOk q ts = true) {p : Int} (hp : 1 ≤ p) : cnt (fun k => ownL k ts == p) 168 = hoursL p ts := by
  induction ts generalizing q with
  | nil =>
    simp only [ownL, hoursL]
    have : cnt (fun _ => (0 : Int) == p) 168 = cnt (fun _ => false) 168 := cnt_congr (fun k _ => by simp; omega)
    rw [this, cnt_false]
  | cons t r ih =>
    obtain ⟨x, y, z⟩ := t
    obtain ⟨h1, h2, h3, h4, h5, h6, h7⟩ := trOk_cons h
    have e : cnt (fun k => ownL k ((x, y, z) :: r) == p) 168 = cnt (fun k => ((decide (y ≤ k) && decide (k < z)) && (x == p)) || (ownL k r == p)) 168 := by
      refine cnt_congr fun k _ => ?_
      simp only [ownL]
      by_cases hk : y ≤ (k : Int) ∧ (k : Int) < z
      · rw [if_pos hk, ownL_low h7 hk.2]
        have h0 : ((0 : Int) == p) = false := by simp; omega
        simp [hk.1, hk.2, h0]
      · rw [if_neg hk]
        have hd : (decide (y ≤ (k : Int)) && decide ((k : Int) < z)) = false := by
          rw [← Bool.not_eq_true]; intro h'; apply hk; simpa using h'
        simp [hd]
    rw [e, cnt_or, ih h7]
    · simp only [hoursL]
      refine congrArg (· + hoursL p r) ?_
      by_cases hx : x = p
      · rw [if_pos hx]
        have : cnt (fun k => (decide (y ≤ k) && decide (k < z)) && (x == p)) 168 = cnt (fun k => decide (y ≤ k) && decide (k < z)) 168 := cnt_congr (fun k _ => by simp [hx])
        rw [this, cnt_range y z h3 (by omega)]
        repeat' split
        all_goals omega
      · rw [if_neg hx]
        have : cnt (fun k => (decide (y ≤ k) && decide (k < z)) && (x == p)) 168 = cnt (fun _ => false) 168 := cnt_congr (fun k _ => by simp [hx])
        rw [this, cnt_false]
    · rintro k _ ⟨ha, hb⟩
      simp only [Bool.and_eq_true, decide_eq_true_eq] at ha
      rw [ownL_low h7 ha.1.2] at hb
      have : (0 : Int) = p := by simpa using hb
      omega

theorem cnt_free {q : Int} {ts : List T3} (h : trOk q ts = true) : cnt (fun k => ownL k ts == 0) 168 = 168 - takenL ts := by
  induction ts generalizing q with
  | nil =>
    have : cnt (fun k => ownL k [] == 0) 168 = cnt (fun _ => true) 168 := cnt_congr (fun k _ => by simp [ownL])
    rw [this, cnt_true]; simp [takenL]
  | cons t r ih =>
    obtain ⟨x, y, z⟩ := t
    obtain ⟨h1, h2, h3, h4, h5, h6, h7⟩ := trOk_cons h
    have e : cnt (fun k => ownL k r == 0) 168 = cnt (fun k => (ownL k ((x, y, z) :: r) == 0) || (decide (y ≤ k) && decide (k < z))) 168 := by
      refine cnt_congr fun k _ => ?_
      simp only [ownL]
      by_cases hk : y ≤ (k : Int) ∧ (k : Int) < z
      · rw [ownL_low h7 hk.2]; simp [hk.1, hk.2]
      · rw [if_neg hk]
        have hd : (decide (y ≤ (k : Int)) && decide ((k : Int) < z)) = false := by
          rw [← Bool.not_eq_true]; intro h'; apply hk; simpa using h'
        simp [hd]
    have hor : cnt (fun k => (ownL k ((x, y, z) :: r) == 0) || (decide (y ≤ k) && decide (k < z))) 168 = _ := cnt_or (n := 168) (f := fun k => ownL k ((x, y, z) :: r) == 0) (g := fun k => decide (y ≤ k) && decide (k < z)) (by
      rintro k _ ⟨ha, hb⟩
      simp only [Bool.and_eq_true, decide_eq_true_eq] at hb
      simp only [ownL] at ha
      rw [if_pos hb] at ha
      have : x = 0 := by simpa using ha
      omega)
    have hr := ih h7
    have hg := cnt_range y z h3 (by omega) 168
    rw [if_neg (by omega)] at hg
    have hz : (if ((168 : Nat) : Int) ≤ z then ((168 : Nat) : Int) - y else z - y) = z - y := by split <;> omega
    rw [hz] at hg
    simp only [takenL]
    omega

theorem firstN_spec (f : Int → Bool) : ∀ (m : Nat) (k : Int), (firstN f m k = -1 ∧ ∀ j, k ≤ j → j < k + m → f j = false) ∨ (k ≤ firstN f m k ∧ firstN f m k < k + m ∧ f (firstN f m k) = true ∧ ∀ j, k ≤ j → j < firstN f m k → f j = false)
  | 0, k => .inl ⟨rfl, fun j h1 h2 => by omega⟩
  | m + 1, k => by
    simp only [firstN]
    by_cases hf : f k = true
    · rw [if_pos hf]
      exact .inr ⟨by omega, by omega, hf, fun j h1 h2 => by omega⟩
    · rw [if_neg hf]
      rcases firstN_spec f m (k + 1) with ⟨h1, h2⟩ | ⟨h1, h2, h3, h4⟩
      · refine .inl ⟨h1, fun j hj1 hj2 => ?_⟩
        by_cases hjk : j = k
        · subst hjk; simpa using hf
        · exact h2 j (by omega) (by omega)
      · refine .inr ⟨by omega, by omega, h3, fun j hj1 hj2 => ?_⟩
        by_cases hjk : j = k
        · subst hjk; simpa using hf
        · exact h4 j (by omega) hj2

theorem wk_emod (h : Int) : wk h = h % 168 := by
  unfold wk; rw [Int.tmod_def]; omega

theorem ownM_in {ts : List T3} (hk : tsOk ts = true) {h : Int} (h1 : -1000000 ≤ h) (h2 : h ≤ 1000000) : ownM ts h = ownL (h % 168) ts := by
  have : inB h (-1000000) 1000000 = true := inB_iff.2 ⟨h1, h2⟩
  simp [ownM, hk, this, wk_emod]

/-- What the law says of the next turn. -/
theorem next_law {ts : List T3} (hk : tsOk ts = true) {p h : Int} (hp : 1 ≤ p) (h0 : 0 ≤ h) (h1 : h ≤ 255) :
    (nextM ts p h = -1 ∧ hoursM ts p = 0) ∨ (0 ≤ nextM ts p h ∧ nextM ts p h < 168 ∧ 0 < hoursM ts p ∧ ownM ts (h + nextM ts p h) = p ∧ (0 < nextM ts p h → ownM ts (h + nextM ts p h - 1) ≠ p)) := by
  have hb := ownL_bd (ts := ts) (fun t ht => by have := (tsOk_mem hk).2 t ht; exact ⟨this.1, this.2.1⟩)
  have hh : ownM ts h = ownL (h % 168) ts := ownM_in hk (by omega) (by omega)
  have hn : nextM ts p h = firstN (fun n => ownM ts (wk h + n) == p) 168 0 := by
    simp only [nextM]; rw [if_neg]; have := hb (h % 168); omega
  have hm : hoursM ts p = cnt (fun k => ownL k ts == p) 168 := by
    have h7 : trOk 0 ts = true := by simp only [tsOk, Bool.and_eq_true] at hk; exact hk.2
    rw [cnt_own h7 hp]; simp [hoursM, hk]
  have hw := wk_emod h
  rw [hn, hm]
  rcases firstN_spec (fun n => ownM ts (wk h + n) == p) 168 0 with ⟨e, hf⟩ | ⟨e1, e2, e3, e4⟩
  · left
    refine ⟨e, ?_⟩
    have hc := cnt_bd (fun k => ownL k ts == p) 168
    have hnp : ¬ 0 < cnt (fun k => ownL k ts == p) 168 := by
      rw [cnt_pos]
      rintro ⟨k, hk', hf'⟩
      have hj := hf ((k - h) % 168) (by omega) (by omega)
      rw [ownM_in hk (by omega) (by omega)] at hj
      have : (wk h + (k - h) % 168) % 168 = (k : Int) := by omega
      rw [this] at hj
      rw [hj] at hf'
      cases hf'
    omega
  · right
    generalize firstN (fun n => ownM ts (wk h + n) == p) 168 0 = n at *
    have e3' : ownM ts (wk h + n) = p := by simpa using e3
    rw [ownM_in hk (by omega) (by omega)] at e3'
    refine ⟨e1, by omega, ?_, ?_, ?_⟩
    · rw [cnt_pos]
      refine ⟨((wk h + n) % 168).toNat, by omega, ?_⟩
      rw [show (((wk h + n) % 168).toNat : Int) = (wk h + n) % 168 by omega]
      simpa using e3'
    · rw [ownM_in hk (by omega) (by omega), ← e3']
      congr 1; omega
    · intro hn0
      have := e4 (n - 1) (by omega) (by omega)
      rw [ownM_in hk (by omega) (by omega)] at this
      rw [ownM_in hk (by omega) (by omega)]
      rw [show (h + n - 1) % 168 = (wk h + (n - 1)) % 168 by omega]
      simpa using this

theorem set_trOk {q : Int} : ∀ (ts : List T3) (i : Nat) (x : Int), 1 ≤ x → x ≤ 999 → trOk q (ts.set i (x, (ts.getD i default).2)) = trOk q ts ∨ trOk q ts = false := by
  intro ts i x h1 h2
  induction ts generalizing q i with
  | nil => left; rfl
  | cons t r ih =>
    obtain ⟨a, b, c⟩ := t
    cases i with
    | zero =>
      by_cases h : trOk q ((a, b, c) :: r) = true
      · left
        rw [h]
        obtain ⟨g1, g2, g3, g4, g5, g6, g7⟩ := trOk_cons h
        simp [trOk, inB, h1, h2, g3, g4, g5, g6, g7]
      · right; simpa using h
    | succ i =>
      have := ih (q := c) i
      by_cases h : trOk q ((a, b, c) :: r) = true
      · left
        rw [h]
        obtain ⟨g1, g2, g3, g4, g5, g6, g7⟩ := trOk_cons h
        rw [g7] at this
        have h8 : trOk c (r.set i (x, (r.getD i default).2)) = true := by simpa using this
        simp only [List.set_cons_succ, List.getD_cons_succ]
        simp only [trOk, h8]
        simp [inB, g1, g2, g3, g4, g5, g6]
      · right; simpa using h

theorem set_taken (ts : List T3) (i : Nat) (x : Int) : takenL (ts.set i (x, (ts.getD i default).2)) = takenL ts := by
  induction ts generalizing i with
  | nil => rfl
  | cons t r ih =>
    cases i with
    | zero => simp [takenL]
    | succ i => simp [takenL]; exact ih i

theorem swap_law {ts : List T3} (hk : tsOk ts = true) {i k : Nat} (hi : i < ts.length) (hkl : k < ts.length) : freeM (swapL ts i k) = freeM ts := by
  have hm := (tsOk_mem hk).2
  have h7 : trOk 0 ts = true := by simp only [tsOk, Bool.and_eq_true] at hk; exact hk.2
  have hx := hm _ (getD_mem3 hi)
  have hy := hm _ (getD_mem3 hkl)
  have e1 := set_trOk (q := 0) ts i (ts.getD k default).1 hy.1 hy.2.1
  rw [h7] at e1
  have e1' : trOk 0 (ts.set i ((ts.getD k default).1, (ts.getD i default).2)) = true := by simpa using e1
  have e2 := set_trOk (q := 0) (ts.set i ((ts.getD k default).1, (ts.getD i default).2)) k (ts.getD i default).1 hx.1 hx.2.1
  rw [e1'] at e2
  have e2' : trOk 0 (swapL ts i k) = true := by simpa [swapL] using e2
  have hok : tsOk (swapL ts i k) = true := by
    simp only [tsOk, Bool.and_eq_true] at hk ⊢
    exact ⟨by simpa [swapL] using hk.1, e2'⟩
  simp only [freeM, hok, hk, if_true]
  simp only [swapL]
  rw [set_taken, set_taken]

end Go.Proofs.Ytnemccmjaanmnaa
