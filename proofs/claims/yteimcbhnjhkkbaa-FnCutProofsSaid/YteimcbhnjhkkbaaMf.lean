/- Greatest flows and narrowest cuts: plain laws (a breadth search, the way back, the flow of a net). -/
import Derived.Test.YteimcbhnjhkkbaaGain
namespace Go.Proofs.Yteimcbhnjhkkbaa
set_option linter.unusedSimpArgs false
set_option linter.unusedVariables false

/-- What goes out of a set of places minus what comes in. -/
def netS (S : Int → Bool) : List T3 → List Int → Int
  | t :: r, f :: g => (if S t.1 then f else 0) - (if S t.2.1 then f else 0) + netS S r g
  | _, _ => 0
/-- The width of the pipes out of a set. -/
def cutS (S : Int → Bool) : List T3 → Int
  | [] => 0
  | t :: r => (if S t.1 && !S t.2.1 then t.2.2 else 0) + cutS S r
def sumB (g : Int → Int) : Nat → Int
  | 0 => 0
  | n + 1 => sumB g n + g n

theorem sumB_congr {g h : Int → Int} : ∀ n : Nat, (∀ i : Nat, i < n → g i = h i) → sumB g n = sumB h n
  | 0, _ => rfl
  | n + 1, e => by rw [sumB, sumB, sumB_congr n (fun i hi => e i (by omega)), e n (by omega)]
theorem sumB_add (g h : Int → Int) : ∀ n : Nat, sumB (fun i => g i + h i) n = sumB g n + sumB h n
  | 0 => rfl
  | n + 1 => by rw [sumB, sumB, sumB, sumB_add g h n]; omega
theorem sumB_zero {g : Int → Int} : ∀ n : Nat, (∀ i : Nat, i < n → g i = 0) → sumB g n = 0
  | 0, _ => rfl
  | n + 1, e => by rw [sumB, sumB_zero n (fun i hi => e i (by omega)), e n (by omega)]; rfl
theorem sumB_one (a f : Int) : ∀ n : Nat, 0 ≤ a → sumB (fun i => if a = i then f else 0) n = if a < n then f else 0
  | 0, h => by simp [sumB]; omega
  | n + 1, h => by
    rw [sumB, sumB_one a f n h]
    by_cases h1 : a < (n : Int)
    · rw [if_pos h1, if_neg (by omega), if_pos (by omega)]; omega
    · rw [if_neg h1]
      by_cases h2 : a = (n : Int)
      · rw [if_pos h2, if_pos (by omega)]; omega
      · rw [if_neg h2, if_neg (by omega)]; omega
theorem sumB_pick (S : Int → Bool) (a f : Int) (n : Nat) (h : 0 ≤ a) (h' : a < n) : sumB (fun i => if S i then (if a = i then f else 0) else 0) n = if S a then f else 0 := by
  have : sumB (fun i => if S i then (if a = i then f else 0) else 0) n = sumB (fun i => if a = i then (if S a then f else 0) else 0) n := by
    apply sumB_congr
    intro i _
    by_cases e : a = (i : Int)
    · subst e; simp
    · simp [e]
  rw [this, sumB_one _ _ n h, if_pos h']

def inP (p : Nat) (ts : List T3) : Prop := ∀ t ∈ ts, 0 ≤ t.1 ∧ t.1 < p ∧ 0 ≤ t.2.1 ∧ t.2.1 < p

theorem net_sum (S : Int → Bool) (p : Nat) : ∀ (ts : List T3) (fs : List Int), inP p ts → netS S ts fs = sumB (fun i => if S i then gainL i ts fs else 0) p
  | [], fs, _ => by cases fs <;> (simp only [netS, gainL]; symm; apply sumB_zero; intro i _; simp)
  | t :: r, [], _ => by simp only [netS, gainL]; symm; apply sumB_zero; intro i _; simp
  | t :: r, f :: g, h => by
    have ih := net_sum S p r g (fun u hu => h u (List.mem_cons_of_mem _ hu))
    have ht := h t (List.mem_cons_self ..)
    have e : sumB (fun i => if S i then gainL i (t :: r) (f :: g) else 0) p = sumB (fun i => (if S i then (if t.1 = i then f else 0) else 0) + ((if S i then (if t.2.1 = i then -f else 0) else 0) + (if S i then gainL i r g else 0))) p := by
      apply sumB_congr
      intro i _
      simp only [gainL]
      by_cases h1 : S i
      · simp only [h1, if_true]
        by_cases h3 : t.2.1 = (i : Int)
        · simp only [h3, if_true]; omega
        · simp only [h3, if_false]; omega
      · simp [h1]
    rw [e, sumB_add, sumB_add, sumB_pick S _ _ p ht.1 ht.2.1, sumB_pick S _ _ p ht.2.2.1 ht.2.2.2, ← ih]
    simp only [netS]
    by_cases h3 : S t.2.1
    · simp only [h3, if_true]; omega
    · simp only [h3]; simp

/-- With the water kept at all places but two, what goes out of a set that holds the one and not the other is what goes out of the one. -/
theorem net_gain {S : Int → Bool} {p : Nat} {ts : List T3} {fs : List Int} {x y : Int} (hp : inP p ts) (hk : ∀ i : Nat, i < p → (i : Int) ≠ x → (i : Int) ≠ y → gainL i ts fs = 0) (hx : S x = true) (hy : S y = false) (x0 : 0 ≤ x) (x1 : x < p) :
    netS S ts fs = gainL x ts fs := by
  rw [net_sum S p ts fs hp]
  have : sumB (fun i => if S i then gainL i ts fs else 0) p = sumB (fun i => if x = i then gainL x ts fs else 0) p := by
    apply sumB_congr
    intro i hi
    by_cases h1 : x = (i : Int)
    · rw [if_pos h1, ← h1, if_pos hx]
    · rw [if_neg h1]
      by_cases h2 : (i : Int) = y
      · rw [h2, hy]; simp
      · rw [hk i hi (fun e => h1 e.symm) h2]; simp
  rw [this, sumB_one _ _ p x0, if_pos x1]

def fitsP (ts : List T3) (fs : List Int) : Prop := fs.length = ts.length ∧ ∀ k, k < ts.length → 0 ≤ fs.getD k 0 ∧ fs.getD k 0 ≤ (ts.getD k default).2.2

theorem fitsP_cons {t : T3} {r : List T3} {f : Int} {g : List Int} (h : fitsP (t :: r) (f :: g)) : 0 ≤ f ∧ f ≤ t.2.2 ∧ fitsP r g :=
  ⟨by have := h.2 0 (by simp); simpa using this.1, by have := h.2 0 (by simp); simpa using this.2, by simpa using h.1, fun k hk => by have := h.2 (k + 1) (by simpa using hk); simpa using this⟩

theorem net_le (S : Int → Bool) : ∀ (ts : List T3) (fs : List Int), fitsP ts fs → netS S ts fs ≤ cutS S ts
  | [], fs, _ => by cases fs <;> simp [netS, cutS]
  | t :: r, [], h => by have := h.1; simp at this
  | t :: r, f :: g, h => by
    obtain ⟨h0, h1, h2⟩ := fitsP_cons h
    have ih := net_le S r g h2
    simp only [netS, cutS]
    cases S t.1 <;> cases S t.2.1 <;> simp <;> omega

theorem net_eq (S : Int → Bool) : ∀ (ts : List T3) (fs : List Int), fs.length = ts.length →
    (∀ k, k < ts.length → S (ts.getD k default).1 = true → S (ts.getD k default).2.1 = false → fs.getD k 0 = (ts.getD k default).2.2) →
    (∀ k, k < ts.length → S (ts.getD k default).1 = false → S (ts.getD k default).2.1 = true → fs.getD k 0 = 0) → netS S ts fs = cutS S ts
  | [], fs, _, _, _ => by cases fs <;> simp [netS, cutS]
  | t :: r, [], h, _, _ => by simp at h
  | t :: r, f :: g, h, h1, h2 => by
    have ih := net_eq S r g (by simpa using h) (fun k hk => by have := h1 (k + 1) (by simpa using hk); simpa using this) (fun k hk => by have := h2 (k + 1) (by simpa using hk); simpa using this)
    have k1 := h1 0 (by simp)
    have k2 := h2 0 (by simp)
    simp at k1 k2
    simp only [netS, cutS]
    rw [ih]
    cases e1 : S t.1 <;> cases e2 : S t.2.1 <;> simp_all

/-- A flow: it fits, and the water is kept at all places but two. -/
structure FlowP (p : Nat) (ts : List T3) (fs : List Int) (x y : Int) : Prop where
  fit : fitsP ts fs
  kept : ∀ i : Nat, i < p → (i : Int) ≠ x → (i : Int) ≠ y → gainL i ts fs = 0

/-- No flow is greater than a cut. -/
theorem flow_le_cut {S : Int → Bool} {p : Nat} {ts : List T3} {fs : List Int} {x y : Int} (hp : inP p ts) (h : FlowP p ts fs x y) (hx : S x = true) (hy : S y = false) (x0 : 0 ≤ x) (x1 : x < p) : gainL x ts fs ≤ cutS S ts := by
  rw [← net_gain hp h.kept hx hy x0 x1]; exact net_le S ts fs h.fit

def turnL (ts : List T3) : List T3 := ts.map fun t => (t.2.1, t.1, t.2.2)
theorem gain_turn (x : Int) : ∀ (ts : List T3) (fs : List Int), gainL x (turnL ts) fs = - gainL x ts fs
  | [], fs => by cases fs <;> simp [turnL, gainL]
  | t :: r, [] => by simp [turnL, gainL]
  | t :: r, f :: g => by
    have := gain_turn x r g
    simp only [turnL, List.map_cons, gainL] at *
    rw [this]; omega
theorem cut_turn (S : Int → Bool) : ∀ ts : List T3, cutS (fun i => !S i) (turnL ts) = cutS S ts
  | [] => rfl
  | t :: r => by
    have := cut_turn S r
    simp only [turnL, List.map_cons, cutS] at *
    rw [this]
    cases S t.1 <;> cases S t.2.1 <;> simp
theorem turn_getD (ts : List T3) (k : Nat) : (turnL ts).getD k default = ((ts.getD k default).2.1, (ts.getD k default).1, (ts.getD k default).2.2) := by
  simp only [turnL, List.getD_eq_getElem?_getD, List.getElem?_map]
  cases ts[k]? <;> rfl
theorem flow_turn {p : Nat} {ts : List T3} {fs : List Int} {x y : Int} (h : FlowP p ts fs x y) : FlowP p (turnL ts) fs y x :=
  ⟨⟨by have := h.fit.1; simpa [turnL] using this, fun k hk => by rw [turn_getD]; exact h.fit.2 k (by simpa [turnL] using hk)⟩, fun i hi h1 h2 => by rw [gain_turn, h.kept i hi h2 h1]; rfl⟩
theorem turn_inP {p : Nat} {ts : List T3} (h : inP p ts) : inP p (turnL ts) := fun t ht => by
  obtain ⟨u, hu, rfl⟩ := List.mem_map.1 ht
  have := h u hu
  exact ⟨this.2.2.1, this.2.2.2, this.1, this.2.1⟩
/-- All the gains together are nothing. -/
theorem gain_both {p : Nat} {ts : List T3} {fs : List Int} {x y : Int} (hp : inP p ts) (h : FlowP p ts fs x y) (x0 : 0 ≤ x) (x1 : x < p) (y0 : 0 ≤ y) (y1 : y < p) (hxy : x ≠ y) : gainL y ts fs = - gainL x ts fs := by
  have e := net_sum (fun _ => true) p ts fs hp
  have z : ∀ (ts : List T3) (fs : List Int), netS (fun _ => true) ts fs = 0 := by
    intro ts
    induction ts with
    | nil => intro fs; cases fs <;> rfl
    | cons t r ih => intro fs; cases fs with
      | nil => rfl
      | cons f g => simp only [netS, ih]; simp
  rw [z] at e
  have : sumB (fun i => if (fun _ => true) i then gainL i ts fs else 0) p = sumB (fun i => (if x = i then gainL x ts fs else 0) + (if y = i then gainL y ts fs else 0)) p := by
    apply sumB_congr
    intro i hi
    show (if true = true then gainL (i : Int) ts fs else 0) = _
    rw [if_pos rfl]
    by_cases h1 : x = (i : Int)
    · rw [if_pos h1, if_neg (by omega), ← h1]; simp
    · rw [if_neg h1]
      by_cases h2 : y = (i : Int)
      · rw [if_pos h2, ← h2]; simp
      · rw [if_neg h2, h.kept i hi (fun e => h1 e.symm) (fun e => h2 e.symm)]; simp
  rw [this, sumB_add, sumB_one _ _ p x0, sumB_one _ _ p y0, if_pos x1, if_pos y1] at e
  omega

/-- Where the breadth search stands: the places found, and by which step each. -/
abbrev St := List Int × List Int
def bOne (a : Int) (k : Nat) (t : T3) (f : Int) (s : St) : St :=
  let s1 : St := if t.1 = a ∧ f < t.2.2 ∧ t.2.1 ∉ s.1 then (s.1 ++ [t.2.1], s.2.set t.2.1.toNat (2 * (k : Int))) else s
  if t.2.1 = a ∧ 0 < f ∧ t.1 ∉ s1.1 then (s1.1 ++ [t.1], s1.2.set t.1.toNat (2 * (k : Int) + 1)) else s1
def bAll (a : Int) : Nat → List T3 → List Int → St → St
  | k, t :: r, f :: g, s => bAll a (k + 1) r g (bOne a k t f s)
  | _, _, _, s => s
def bRun (ts : List T3) (fs : List Int) : Nat → Nat → St → St
  | 0, _, s => s
  | n + 1, i, s => if i < s.1.length then bRun ts fs n (i + 1) (bAll (s.1.getD i 0) 0 ts fs s) else s
def bfs (p : Nat) (ts : List T3) (fs : List Int) (x : Int) : St := bRun ts fs p 0 ([x], List.replicate p (-1))

/-- The step by which place z is found leads over a pipe with room from a place that was found before. -/
def StepOk (ts : List T3) (fs : List Int) (q : List Int) (j : Nat) (z c : Int) : Prop :=
  0 ≤ c ∧ (c / 2).toNat < ts.length ∧
  (c % 2 = 0 → (ts.getD (c / 2).toNat default).2.1 = z ∧ fs.getD (c / 2).toNat 0 < (ts.getD (c / 2).toNat default).2.2 ∧ ∃ i, i < j ∧ q.getD i 0 = (ts.getD (c / 2).toNat default).1) ∧
  (c % 2 ≠ 0 → (ts.getD (c / 2).toNat default).1 = z ∧ 0 < fs.getD (c / 2).toNat 0 ∧ ∃ i, i < j ∧ q.getD i 0 = (ts.getD (c / 2).toNat default).2.1)

structure BInv (p : Nat) (ts : List T3) (fs : List Int) (x : Int) (s : St) : Prop where
  nodup : s.1.Nodup
  rng : ∀ z ∈ s.1, 0 ≤ z ∧ z < p
  pos : 0 < s.1.length
  head : s.1.getD 0 0 = x
  len : s.2.length = p
  step : ∀ j, 0 < j → j < s.1.length → StepOk ts fs s.1 j (s.1.getD j 0) (s.2.getD (s.1.getD j 0).toNat 0)
  out : ∀ z : Int, 0 ≤ z → z < p → z ∉ s.1 → s.2.getD z.toNat 0 = -1
  at0 : s.2.getD x.toNat 0 = -1

theorem nodup_len : ∀ (p : Nat) (q : List Int), q.Nodup → (∀ z ∈ q, 0 ≤ z ∧ z < p) → q.length ≤ p := by
  intro p
  induction p with
  | zero =>
    intro q _ h
    cases q with
    | nil => simp
    | cons a r => have := h a (List.mem_cons_self ..); omega
  | succ p ih =>
    intro q hn h
    by_cases hp : (p : Int) ∈ q
    · have h1 := ih (q.erase (p : Int)) (hn.erase _) (fun z hz => by
        have h2 := h z (List.mem_of_mem_erase hz)
        have h3 : z ≠ (p : Int) := fun e => by subst e; exact (hn.not_mem_erase hz).elim
        omega)
      rw [List.length_erase_of_mem hp] at h1
      omega
    · have := ih q hn (fun z hz => by
        have h2 := h z hz
        have h3 : z ≠ (p : Int) := fun e => hp (e ▸ hz)
        omega)
      omega

theorem getD_setI (l : List Int) (i k : Nat) (v : Int) (hi : i < l.length) : (l.set i v).getD k 0 = if i = k then v else l.getD k 0 := by
  by_cases h : i = k
  · subst h; simp [List.getD_eq_getElem?_getD, hi]
  · simp [List.getD_eq_getElem?_getD, List.getElem?_set, h]
theorem getD_app (q r : List Int) (j : Nat) (h : j < q.length) : (q ++ r).getD j 0 = q.getD j 0 := by
  simp [List.getD_eq_getElem?_getD, List.getElem?_append_left h]
theorem getD_last (q : List Int) (z : Int) : (q ++ [z]).getD q.length 0 = z := by
  simp [List.getD_eq_getElem?_getD]
theorem getD_memI {q : List Int} {j : Nat} (h : j < q.length) : q.getD j 0 ∈ q := by simp [List.getD_eq_getElem?_getD, h]
theorem mem_getDI {q : List Int} {z : Int} (h : z ∈ q) : ∃ j, j < q.length ∧ q.getD j 0 = z := by
  obtain ⟨j, hj, e⟩ := List.getElem_of_mem h
  exact ⟨j, hj, by simp [List.getD_eq_getElem?_getD, hj, e]⟩

/-- One more place is found. -/
theorem BInv.add {p : Nat} {ts : List T3} {fs : List Int} {x : Int} {s : St} (h : BInv p ts fs x s) {z c : Int} (z0 : 0 ≤ z) (z1 : z < p) (hz : z ∉ s.1) (hc : StepOk ts fs s.1 s.1.length z c) :
    BInv p ts fs x (s.1 ++ [z], s.2.set z.toNat c) := by
  obtain ⟨h1, h2, h3, h4, h5, h6, h7, h8⟩ := h
  have hzl : z.toNat < s.2.length := by omega
  have hst : ∀ j w d, j ≤ s.1.length → StepOk ts fs s.1 j w d → StepOk ts fs (s.1 ++ [z]) j w d := by
    intro j w d hj ⟨a1, a2, a3, a4⟩
    refine ⟨a1, a2, fun e => ?_, fun e => ?_⟩
    · obtain ⟨b1, b2, i, b3, b4⟩ := a3 e
      exact ⟨b1, b2, i, b3, by rw [getD_app _ _ _ (by omega)]; exact b4⟩
    · obtain ⟨b1, b2, i, b3, b4⟩ := a4 e
      exact ⟨b1, b2, i, b3, by rw [getD_app _ _ _ (by omega)]; exact b4⟩
  refine ⟨?_, ?_, by simp, ?_, by simpa using h5, ?_, ?_, ?_⟩
  · rw [List.nodup_append]
    refine ⟨h1, by simp, fun a ha b hb e => ?_⟩
    simp at hb
    exact hz (by rw [← hb, ← e]; exact ha)
  · intro w hw
    rcases List.mem_append.1 hw with hw | hw
    · exact h2 w hw
    · simp at hw; omega
  · show (s.1 ++ [z]).getD 0 0 = x
    rw [getD_app _ _ _ h3]; exact h4
  · intro j j0 j1
    simp only [List.length_append, List.length_singleton] at j1
    show StepOk ts fs (s.1 ++ [z]) j ((s.1 ++ [z]).getD j 0) ((s.2.set z.toNat c).getD ((s.1 ++ [z]).getD j 0).toNat 0)
    by_cases hj : j < s.1.length
    · rw [getD_app _ _ _ hj, getD_setI _ _ _ _ hzl]
      have hne : ¬ z.toNat = (s.1.getD j 0).toNat := fun e => by
        have := h2 _ (getD_memI hj)
        exact hz (by rw [show z = s.1.getD j 0 by omega]; exact getD_memI hj)
      rw [if_neg hne]
      exact hst j _ _ (by omega) (h6 j j0 hj)
    · have : j = s.1.length := by omega
      subst this
      rw [getD_last, getD_setI _ _ _ _ hzl, if_pos rfl]
      exact hst _ _ _ (Nat.le_refl _) hc
  · intro w w0 w1 hw
    have hw' : w ∉ s.1 ∧ w ≠ z := ⟨fun e => hw (List.mem_append_left _ e), fun e => hw (by simp [e])⟩
    show (s.2.set z.toNat c).getD w.toNat 0 = -1
    rw [getD_setI _ _ _ _ hzl, if_neg (by omega)]
    exact h7 w w0 w1 hw'.1
  · show (s.2.set z.toNat c).getD x.toNat 0 = -1
    have hx : x ∈ s.1 := by rw [← h4]; exact getD_memI h3
    have hx2 := h2 x hx
    have : z ≠ x := fun e => hz (e ▸ hx)
    rw [getD_setI _ _ _ _ hzl, if_neg (by omega)]
    exact h8

/-- The first half of a step: forward. -/
def bFwd (a : Int) (k : Nat) (t : T3) (f : Int) (s : St) : St := if t.1 = a ∧ f < t.2.2 ∧ t.2.1 ∉ s.1 then (s.1 ++ [t.2.1], s.2.set t.2.1.toNat (2 * (k : Int))) else s
def bBack (a : Int) (k : Nat) (t : T3) (f : Int) (s : St) : St := if t.2.1 = a ∧ 0 < f ∧ t.1 ∉ s.1 then (s.1 ++ [t.1], s.2.set t.1.toNat (2 * (k : Int) + 1)) else s
theorem bOne_eq (a : Int) (k : Nat) (t : T3) (f : Int) (s : St) : bOne a k t f s = bBack a k t f (bFwd a k t f s) := rfl

/-- s' is s with more behind its places. -/
def Ext (s s' : St) : Prop := ∃ r, s'.1 = s.1 ++ r
theorem Ext.refl (s : St) : Ext s s := ⟨[], by simp⟩
theorem Ext.trans {a b c : St} (h : Ext a b) (h' : Ext b c) : Ext a c := by
  obtain ⟨r, e⟩ := h
  obtain ⟨r', e'⟩ := h'
  exact ⟨r ++ r', by rw [e', e, List.append_assoc]⟩
theorem Ext.mem {s s' : St} (h : Ext s s') {z : Int} (hz : z ∈ s.1) : z ∈ s'.1 := by
  obtain ⟨r, e⟩ := h; rw [e]; exact List.mem_append_left _ hz
theorem Ext.get {s s' : St} (h : Ext s s') {j : Nat} (hj : j < s.1.length) : j < s'.1.length ∧ s'.1.getD j 0 = s.1.getD j 0 := by
  obtain ⟨r, e⟩ := h; rw [e]; exact ⟨by simp; omega, getD_app _ _ _ hj⟩

theorem fwd_inv {p : Nat} {ts : List T3} {fs : List Int} {x a : Int} {s : St} {k i : Nat} (h : BInv p ts fs x s) (hp : inP p ts) (hk : k < ts.length) (hi : i < s.1.length) (ha : s.1.getD i 0 = a) :
    BInv p ts fs x (bFwd a k (ts.getD k default) (fs.getD k 0) s) ∧ Ext s (bFwd a k (ts.getD k default) (fs.getD k 0) s) := by
  unfold bFwd
  split
  · rename_i hc
    obtain ⟨c1, c2, c3⟩ := hc
    have ht := hp (ts.getD k default) (by simp [List.getD_eq_getElem?_getD, hk])
    refine ⟨h.add ht.2.2.1 ht.2.2.2 c3 ?_, ⟨[_], rfl⟩⟩
    have e1 : (2 * (k : Int) / 2).toNat = k := by omega
    refine ⟨by omega, by rw [e1]; exact hk, fun _ => ?_, fun e => by omega⟩
    rw [e1]
    exact ⟨rfl, c2, i, hi, by rw [ha, c1]⟩
  · exact ⟨h, Ext.refl _⟩
theorem back_inv {p : Nat} {ts : List T3} {fs : List Int} {x a : Int} {s : St} {k i : Nat} (h : BInv p ts fs x s) (hp : inP p ts) (hk : k < ts.length) (hi : i < s.1.length) (ha : s.1.getD i 0 = a) :
    BInv p ts fs x (bBack a k (ts.getD k default) (fs.getD k 0) s) ∧ Ext s (bBack a k (ts.getD k default) (fs.getD k 0) s) := by
  unfold bBack
  split
  · rename_i hc
    obtain ⟨c1, c2, c3⟩ := hc
    have ht := hp (ts.getD k default) (by simp [List.getD_eq_getElem?_getD, hk])
    refine ⟨h.add ht.1 ht.2.1 c3 ?_, ⟨[_], rfl⟩⟩
    have e1 : ((2 * (k : Int) + 1) / 2).toNat = k := by omega
    refine ⟨by omega, by rw [e1]; exact hk, fun e => by omega, fun _ => ?_⟩
    rw [e1]
    exact ⟨rfl, c2, i, hi, by rw [ha, c1]⟩
  · exact ⟨h, Ext.refl _⟩

/-- Through pipe k nothing leads out of the places found, from place a. -/
def shutK (ts : List T3) (fs : List Int) (a : Int) (k : Nat) (s : St) : Prop :=
  ((ts.getD k default).1 = a → fs.getD k 0 < (ts.getD k default).2.2 → (ts.getD k default).2.1 ∈ s.1) ∧ ((ts.getD k default).2.1 = a → 0 < fs.getD k 0 → (ts.getD k default).1 ∈ s.1)
theorem shutK.ext {ts : List T3} {fs : List Int} {a : Int} {k : Nat} {s s' : St} (h : shutK ts fs a k s) (e : Ext s s') : shutK ts fs a k s' :=
  ⟨fun h1 h2 => e.mem (h.1 h1 h2), fun h1 h2 => e.mem (h.2 h1 h2)⟩

theorem one_inv {p : Nat} {ts : List T3} {fs : List Int} {x a : Int} {s : St} {k i : Nat} (h : BInv p ts fs x s) (hp : inP p ts) (hk : k < ts.length) (hi : i < s.1.length) (ha : s.1.getD i 0 = a) :
    BInv p ts fs x (bOne a k (ts.getD k default) (fs.getD k 0) s) ∧ Ext s (bOne a k (ts.getD k default) (fs.getD k 0) s) ∧ shutK ts fs a k (bOne a k (ts.getD k default) (fs.getD k 0) s) := by
  obtain ⟨i1, e1⟩ := fwd_inv h hp hk hi ha
  obtain ⟨i2, e2⟩ := back_inv i1 hp hk (e1.get hi).1 ((e1.get hi).2.trans ha)
  rw [bOne_eq]
  refine ⟨i2, e1.trans e2, fun h1 h2 => e2.mem ?_, fun h1 h2 => ?_⟩
  · unfold bFwd
    by_cases hc : (ts.getD k default).2.1 ∈ s.1
    · rw [if_neg (fun q => q.2.2 hc)]; exact hc
    · rw [if_pos ⟨h1, h2, hc⟩]; simp
  · generalize bFwd a k (ts.getD k default) (fs.getD k 0) s = u at *
    unfold bBack
    by_cases hc : (ts.getD k default).1 ∈ u.1
    · rw [if_neg (fun q => q.2.2 hc)]; exact hc
    · rw [if_pos ⟨h1, h2, hc⟩]; simp

theorem bAll_step (a : Int) (ts : List T3) (fs : List Int) (k : Nat) (s : St) (h : k < ts.length) (h' : k < fs.length) :
    bAll a k (ts.drop k) (fs.drop k) s = bAll a (k + 1) (ts.drop (k + 1)) (fs.drop (k + 1)) (bOne a k (ts.getD k default) (fs.getD k 0) s) := by
  rw [List.drop_eq_getElem_cons h, List.drop_eq_getElem_cons h']
  simp [bAll, List.getD_eq_getElem?_getD, h, h']
theorem bAll_end (a : Int) (ts : List T3) (fs : List Int) (k : Nat) (s : St) (h : ts.length ≤ k) : bAll a k (ts.drop k) (fs.drop k) s = s := by
  rw [List.drop_of_length_le h]; simp [bAll]

theorem all_inv {p : Nat} {ts : List T3} {fs : List Int} {x a : Int} (hp : inP p ts) (hl : fs.length = ts.length) {i : Nat} : ∀ (n k : Nat) (s : St), ts.length - k = n → k ≤ ts.length → BInv p ts fs x s → i < s.1.length → s.1.getD i 0 = a → (∀ m, m < k → shutK ts fs a m s) →
    BInv p ts fs x (bAll a k (ts.drop k) (fs.drop k) s) ∧ Ext s (bAll a k (ts.drop k) (fs.drop k) s) ∧ ∀ m, m < ts.length → shutK ts fs a m (bAll a k (ts.drop k) (fs.drop k) s) := by
  intro n
  induction n with
  | zero =>
    intro k s hn hk h hi ha hs
    have : k = ts.length := by omega
    subst this
    rw [bAll_end _ _ _ _ _ (Nat.le_refl _)]
    exact ⟨h, Ext.refl _, hs⟩
  | succ n ih =>
    intro k s hn hk h hi ha hs
    rw [bAll_step a ts fs k s (by omega) (by omega)]
    obtain ⟨i1, e1, s1⟩ := one_inv h hp (k := k) (by omega) hi ha
    generalize bOne a k (ts.getD k default) (fs.getD k 0) s = u at *
    obtain ⟨i2, e2, s2⟩ := ih (k + 1) u (by omega) (by omega) i1 (e1.get hi).1 ((e1.get hi).2.trans ha) (fun m hm => by
      by_cases hmk : m = k
      · subst hmk; exact s1
      · exact (hs m (by omega)).ext e1)
    exact ⟨i2, e1.trans e2, s2⟩

theorem all_inv0 {p : Nat} {ts : List T3} {fs : List Int} {x : Int} (hp : inP p ts) (hl : fs.length = ts.length) {i : Nat} {s : St} (h : BInv p ts fs x s) (hi : i < s.1.length) :
    BInv p ts fs x (bAll (s.1.getD i 0) 0 ts fs s) ∧ Ext s (bAll (s.1.getD i 0) 0 ts fs s) ∧ ∀ m, m < ts.length → shutK ts fs (s.1.getD i 0) m (bAll (s.1.getD i 0) 0 ts fs s) := by
  have := all_inv hp hl ts.length 0 s (by omega) (by omega) h hi rfl (fun m hm => by omega)
  simpa using this

/-- Nothing leads out of the first i places. -/
def shutTo (ts : List T3) (fs : List Int) (i : Nat) (s : St) : Prop := ∀ j, j < i → ∀ m, m < ts.length → shutK ts fs (s.1.getD j 0) m s

theorem run_inv {p : Nat} {ts : List T3} {fs : List Int} {x : Int} (hp : inP p ts) (hl : fs.length = ts.length) : ∀ (n i : Nat) (s : St), BInv p ts fs x s → i ≤ s.1.length → shutTo ts fs i s → p ≤ n + i →
    BInv p ts fs x (bRun ts fs n i s) ∧ Ext s (bRun ts fs n i s) ∧ shutTo ts fs (bRun ts fs n i s).1.length (bRun ts fs n i s)
  | 0, i, s, h, hi, hs, hn => by
    have := nodup_len p s.1 h.nodup h.rng
    refine ⟨h, Ext.refl _, ?_⟩
    show shutTo ts fs s.1.length s
    rw [show s.1.length = i by omega]; exact hs
  | n + 1, i, s, h, hi, hs, hn => by
    unfold bRun
    split
    · rename_i hlt
      obtain ⟨i1, e1, s1⟩ := all_inv0 hp hl h hlt
      obtain ⟨i2, e2, s2⟩ := run_inv hp hl n (i + 1) _ i1 (e1.get hlt).1 (fun j hj m hm => by
        by_cases hji : j = i
        · subst hji; rw [(e1.get hlt).2]; exact s1 m hm
        · rw [(e1.get (show j < s.1.length by omega)).2]; exact (hs j (by omega) m hm).ext e1) (by omega)
      exact ⟨i2, e1.trans e2, s2⟩
    · rename_i hlt
      refine ⟨h, Ext.refl _, ?_⟩
      rw [show s.1.length = i by omega]; exact hs

theorem start_inv {p : Nat} (ts : List T3) (fs : List Int) {x : Int} (x0 : 0 ≤ x) (x1 : x < p) : BInv p ts fs x ([x], List.replicate p (-1)) :=
  ⟨by simp, fun z hz => by simp at hz; omega, by simp, by simp, by simp, fun j h1 h2 => by simp at h2; omega,
    fun z z0 z1 _ => by simp [List.getD_eq_getElem?_getD, List.getElem?_replicate, show z.toNat < p by omega], by simp [List.getD_eq_getElem?_getD, List.getElem?_replicate, show x.toNat < p by omega]⟩

theorem bfs_inv {p : Nat} {ts : List T3} {fs : List Int} {x : Int} (hp : inP p ts) (hl : fs.length = ts.length) (x0 : 0 ≤ x) (x1 : x < p) :
    BInv p ts fs x (bfs p ts fs x) ∧ shutTo ts fs (bfs p ts fs x).1.length (bfs p ts fs x) := by
  have := run_inv hp hl p 0 _ (start_inv ts fs x0 x1) (by simp) (fun j hj => by omega) (by omega)
  exact ⟨this.1, this.2.2⟩

/-- What the search found is shut: over each pipe out of it no room, over each pipe into it no water. -/
theorem bfs_shut {p : Nat} {ts : List T3} {fs : List Int} {x : Int} (hp : inP p ts) (hl : fs.length = ts.length) (x0 : 0 ≤ x) (x1 : x < p) (k : Nat) (hk : k < ts.length) :
    ((ts.getD k default).1 ∈ (bfs p ts fs x).1 → (ts.getD k default).2.1 ∉ (bfs p ts fs x).1 → (ts.getD k default).2.2 ≤ fs.getD k 0) ∧ ((ts.getD k default).2.1 ∈ (bfs p ts fs x).1 → (ts.getD k default).1 ∉ (bfs p ts fs x).1 → fs.getD k 0 ≤ 0) := by
  obtain ⟨_, hs⟩ := bfs_inv hp hl x0 x1
  constructor
  · intro h1 h2
    obtain ⟨j, hj, e⟩ := mem_getDI h1
    apply Int.not_lt.1
    intro hlt
    exact h2 ((hs j hj k hk).1 e.symm hlt)
  · intro h1 h2
    obtain ⟨j, hj, e⟩ := mem_getDI h1
    apply Int.not_lt.1
    intro hlt
    exact h2 ((hs j hj k hk).2 e.symm hlt)

/-! ### the way back, and what is laid along it -/
def prevOf (ts : List T3) (c : Int) : Int := if c % 2 = 0 then (ts.getD (c / 2).toNat default).1 else (ts.getD (c / 2).toNat default).2.1
def wayM (ts : List T3) (b : List Int) (x : Int) : Nat → Int → List Int
  | 0, _ => []
  | n + 1, a => if a = x then [] else b.getD a.toNat 0 :: wayM ts b x n (prevOf ts (b.getD a.toNat 0))
def roomOf (ts : List T3) (fs : List Int) (c : Int) : Int := if c % 2 = 0 then (ts.getD (c / 2).toNat default).2.2 - fs.getD (c / 2).toNat 0 else fs.getD (c / 2).toNat 0
def roomM (ts : List T3) (fs : List Int) : List Int → Int → Int
  | [], r => r
  | c :: l, r => roomM ts fs l (min r (roomOf ts fs c))
def augOne (r : Int) (fs : List Int) (c : Int) : List Int := fs.set (c / 2).toNat (if c % 2 = 0 then fs.getD (c / 2).toNat 0 + r else fs.getD (c / 2).toNat 0 - r)
def augM (r : Int) : List Int → List Int → List Int
  | [], fs => fs
  | c :: l, fs => augM r l (augOne r fs c)

theorem roomM_spec (ts : List T3) (fs : List Int) : ∀ (l : List Int) (r : Int), 1 ≤ r → r ≤ 1000 → (∀ c ∈ l, 1 ≤ roomOf ts fs c) → 1 ≤ roomM ts fs l r ∧ roomM ts fs l r ≤ r ∧ ∀ c ∈ l, roomM ts fs l r ≤ roomOf ts fs c
  | [], r, h1, h2, _ => ⟨h1, Int.le_refl _, by simp⟩
  | c :: l, r, h1, h2, hc => by
    have c1 := hc c (List.mem_cons_self ..)
    obtain ⟨a, b, d⟩ := roomM_spec ts fs l (min r (roomOf ts fs c)) (by omega) (by omega) (fun e he => hc e (List.mem_cons_of_mem _ he))
    refine ⟨a, by rw [roomM]; omega, fun e he => ?_⟩
    rcases List.mem_cons.1 he with rfl | he
    · rw [roomM]; omega
    · exact d e he

theorem head_only {p : Nat} {ts : List T3} {fs : List Int} {x : Int} {s : St} (h : BInv p ts fs x s) {j : Nat} (hj : j < s.1.length) : s.1.getD j 0 = x ↔ j = 0 := by
  constructor
  · intro e
    rw [← h.head] at e
    have h0 := h.pos
    simp only [List.getD_eq_getElem?_getD, List.getElem?_eq_getElem hj, List.getElem?_eq_getElem h0, Option.getD_some] at e
    exact (List.getElem_inj h.nodup).1 e
  · rintro rfl; exact h.head
theorem get_inj {p : Nat} {ts : List T3} {fs : List Int} {x : Int} {s : St} (h : BInv p ts fs x s) {i j : Nat} (hi : i < s.1.length) (hj : j < s.1.length) (e : s.1.getD i 0 = s.1.getD j 0) : i = j := by
  simp only [List.getD_eq_getElem?_getD, List.getElem?_eq_getElem hj, List.getElem?_eq_getElem hi, Option.getD_some] at e
  exact (List.getElem_inj h.nodup).1 e

/-- A code's step: where it ends. -/
def endOf (ts : List T3) (c : Int) : Int := if c % 2 = 0 then (ts.getD (c / 2).toNat default).2.1 else (ts.getD (c / 2).toNat default).1
theorem step_parts {ts : List T3} {fs : List Int} {q : List Int} {j : Nat} {z c : Int} (h : StepOk ts fs q j z c) : 0 ≤ c ∧ (c / 2).toNat < ts.length ∧ endOf ts c = z ∧ 1 ≤ roomOf ts fs c ∧ ∃ i, i < j ∧ q.getD i 0 = prevOf ts c := by
  obtain ⟨h1, h2, h3, h4⟩ := h
  by_cases e : c % 2 = 0
  · obtain ⟨a, b, i, hi, d⟩ := h3 e
    exact ⟨h1, h2, by rw [endOf, if_pos e]; exact a, by rw [roomOf, if_pos e]; omega, i, hi, by rw [prevOf, if_pos e]; exact d⟩
  · obtain ⟨a, b, i, hi, d⟩ := h4 e
    exact ⟨h1, h2, by rw [endOf, if_neg e]; exact a, by rw [roomOf, if_neg e]; omega, i, hi, by rw [prevOf, if_neg e]; exact d⟩

theorem wayM_step {p : Nat} {ts : List T3} {fs : List Int} {x : Int} {s : St} (h : BInv p ts fs x s) {n j : Nat} (hj : j < s.1.length) (hn : j ≤ n) (hne : s.1.getD j 0 ≠ x) :
    ∃ i, i < j ∧ i ≤ n - 1 ∧ s.1.getD i 0 = prevOf ts (s.2.getD (s.1.getD j 0).toNat 0) ∧ wayM ts s.2 x n (s.1.getD j 0) = s.2.getD (s.1.getD j 0).toNat 0 :: wayM ts s.2 x (n - 1) (s.1.getD i 0) := by
  have j0 : 0 < j := by
    rcases Nat.eq_zero_or_pos j with rfl | h0
    · exact absurd h.head hne
    · exact h0
  obtain ⟨_, _, _, _, i, hi, e⟩ := step_parts (h.step j j0 hj)
  refine ⟨i, hi, by omega, e, ?_⟩
  cases n with
  | zero => omega
  | succ n => rw [wayM, if_neg hne, ← e]; rfl

theorem wayM_spec {p : Nat} {ts : List T3} {fs : List Int} {x : Int} {s : St} (h : BInv p ts fs x s) : ∀ (j n : Nat), j < s.1.length → j ≤ n →
    (wayM ts s.2 x n (s.1.getD j 0)).Nodup ∧ ∀ c ∈ wayM ts s.2 x n (s.1.getD j 0), ∃ i, 0 < i ∧ i ≤ j ∧ c = s.2.getD (s.1.getD i 0).toNat 0 := by
  intro j
  induction j using Nat.strongRecOn with
  | ind j ih =>
    intro n hj hn
    by_cases hx : s.1.getD j 0 = x
    · have : wayM ts s.2 x n (s.1.getD j 0) = [] := by
        cases n with
        | zero => rfl
        | succ n => rw [wayM, if_pos hx]
      rw [this]
      exact ⟨List.nodup_nil, by simp⟩
    · obtain ⟨i, hi, hin, e, hw⟩ := wayM_step h hj hn hx
      rw [hw]
      obtain ⟨g1, g2⟩ := ih i hi (n - 1) (by omega) hin
      have j0 : 0 < j := by omega
      refine ⟨List.nodup_cons.2 ⟨fun hm => ?_, g1⟩, fun c hc => ?_⟩
      · obtain ⟨m, m0, m1, m2⟩ := g2 _ hm
        have e1 := (step_parts (h.step j j0 hj)).2.2.1
        have e2 := (step_parts (h.step m m0 (by omega))).2.2.1
        rw [← m2, e1] at e2
        have := get_inj h hj (show m < s.1.length by omega) e2
        omega
      · rcases List.mem_cons.1 hc with rfl | hc
        · exact ⟨j, j0, Nat.le_refl _, rfl⟩
        · obtain ⟨m, m0, m1, m2⟩ := g2 c hc
          exact ⟨m, m0, by omega, m2⟩

theorem way_codes {p : Nat} {ts : List T3} {fs : List Int} {x : Int} {s : St} (h : BInv p ts fs x s) {j n : Nat} (hj : j < s.1.length) (hn : j ≤ n) : ∀ c ∈ wayM ts s.2 x n (s.1.getD j 0), 0 ≤ c ∧ (c / 2).toNat < ts.length ∧ 1 ≤ roomOf ts fs c := fun c hc => by
  obtain ⟨i, i0, i1, rfl⟩ := (wayM_spec h j n hj hn).2 c hc
  obtain ⟨a, b, _, d, _⟩ := step_parts (h.step i i0 (by omega))
  exact ⟨a, b, d⟩

theorem gain_set (v : Int) : ∀ (ts : List T3) (fs : List Int) (k : Nat) (g : Int), k < ts.length → k < fs.length →
    gainL v ts (fs.set k g) = gainL v ts fs + ((if (ts.getD k default).1 = v then g - fs.getD k 0 else 0) - (if (ts.getD k default).2.1 = v then g - fs.getD k 0 else 0))
  | [], fs, k, g, h, _ => by simp at h
  | t :: r, [], k, g, _, h => by simp at h
  | t :: r, f :: fs, 0, g, _, _ => by
    simp [gainL]
    by_cases h1 : t.1 = v <;> by_cases h2 : t.2.1 = v <;> simp [h1, h2] <;> omega
  | t :: r, f :: fs, k + 1, g, h, h' => by
    have := gain_set v r fs k g (by simpa using h) (by simpa using h')
    simp only [List.set_cons_succ, gainL, List.getD_cons_succ] at *
    rw [this]; omega

theorem aug_length (r : Int) : ∀ (l fs : List Int), (augM r l fs).length = fs.length
  | [], fs => rfl
  | c :: l, fs => by rw [augM, aug_length r l]; simp [augOne]

theorem one_gain (v r : Int) {ts : List T3} {fs : List Int} {c : Int} (h : (c / 2).toNat < ts.length) (hl : fs.length = ts.length) :
    gainL v ts (augOne r fs c) = gainL v ts fs + ((if prevOf ts c = v then r else 0) - (if endOf ts c = v then r else 0)) := by
  unfold augOne
  rw [gain_set v ts fs _ _ h (by omega)]
  unfold prevOf endOf
  by_cases e : c % 2 = 0
  · simp only [if_pos e]
    by_cases h1 : (ts.getD (c / 2).toNat default).1 = v <;> by_cases h2 : (ts.getD (c / 2).toNat default).2.1 = v <;> simp only [h1, h2, if_true, if_false] <;> omega
  · simp only [if_neg e]
    by_cases h1 : (ts.getD (c / 2).toNat default).1 = v <;> by_cases h2 : (ts.getD (c / 2).toNat default).2.1 = v <;> simp only [h1, h2, if_true, if_false] <;> omega

theorem way_gain {p : Nat} {ts : List T3} {fs : List Int} {x : Int} {s : St} (h : BInv p ts fs x s) (v r : Int) : ∀ (j n : Nat) (gs : List Int), j < s.1.length → j ≤ n → gs.length = ts.length →
    gainL v ts (augM r (wayM ts s.2 x n (s.1.getD j 0)) gs) = gainL v ts gs + ((if x = v then r else 0) - (if s.1.getD j 0 = v then r else 0)) := by
  intro j
  induction j using Nat.strongRecOn with
  | ind j ih =>
    intro n gs hj hn hl
    by_cases hx : s.1.getD j 0 = x
    · have : wayM ts s.2 x n (s.1.getD j 0) = [] := by
        cases n with
        | zero => rfl
        | succ n => rw [wayM, if_pos hx]
      rw [this, hx, augM]; omega
    · obtain ⟨i, hi, hin, e, hw⟩ := wayM_step h hj hn hx
      obtain ⟨_, h2, h3, _, _⟩ := step_parts (h.step j (by omega) hj)
      rw [hw, augM, ih i hi (n - 1) _ (by omega) hin (by simp [augOne, hl]), one_gain v r h2 hl, ← e, h3]
      omega

theorem aug_getD (r : Int) (k : Nat) : ∀ (l fs : List Int), l.Nodup → (∀ c ∈ l, 0 ≤ c ∧ (c / 2).toNat < fs.length) →
    (augM r l fs).getD k 0 = fs.getD k 0 + (if 2 * (k : Int) ∈ l then r else 0) - (if 2 * (k : Int) + 1 ∈ l then r else 0)
  | [], fs, _, _ => by simp [augM]
  | c :: l, fs, hn, hc => by
    obtain ⟨n1, n2⟩ := List.nodup_cons.1 hn
    have c1 := hc c (List.mem_cons_self ..)
    rw [augM, aug_getD r k l _ n2 (fun d hd => by have := hc d (List.mem_cons_of_mem _ hd); simpa [augOne] using this)]
    unfold augOne
    rw [getD_setI _ _ _ _ c1.2]
    by_cases h1 : c = 2 * (k : Int)
    · subst h1
      rw [if_pos (show (2 * (k : Int) / 2).toNat = k by omega), if_pos (show 2 * (k : Int) % 2 = 0 by omega), show (2 * (k : Int) / 2).toNat = k by omega, if_neg n1, if_pos (List.mem_cons_self ..)]
      have e : (2 * (k : Int) + 1 ∈ 2 * (k : Int) :: l) ↔ 2 * (k : Int) + 1 ∈ l := by simp; intro h; omega
      simp only [e]; omega
    · by_cases h2 : c = 2 * (k : Int) + 1
      · subst h2
        rw [if_pos (show ((2 * (k : Int) + 1) / 2).toNat = k by omega), if_neg (show ¬ (2 * (k : Int) + 1) % 2 = 0 by omega), show ((2 * (k : Int) + 1) / 2).toNat = k by omega, if_neg n1, if_pos (List.mem_cons_self ..)]
        have e : (2 * (k : Int) ∈ (2 * (k : Int) + 1) :: l) ↔ 2 * (k : Int) ∈ l := by simp; intro h; omega
        simp only [e]; omega
      · rw [if_neg (show ¬ (c / 2).toNat = k by omega)]
        have e1 : (2 * (k : Int) ∈ c :: l) ↔ 2 * (k : Int) ∈ l := by simp; intro h; omega
        have e2 : (2 * (k : Int) + 1 ∈ c :: l) ↔ 2 * (k : Int) + 1 ∈ l := by simp; intro h; omega
        simp only [e1, e2]

/-- One more round: the way found takes r more. -/
theorem aug_flow {p : Nat} {ts : List T3} {fs : List Int} {x y : Int} {s : St} (hp : inP p ts) (hf : FlowP p ts fs x y) (h : BInv p ts fs x s) (hy : y ∈ s.1) (hxy : x ≠ y) :
    FlowP p ts (augM (roomM ts fs (wayM ts s.2 x p y) 1000) (wayM ts s.2 x p y) fs) x y ∧ 1 ≤ roomM ts fs (wayM ts s.2 x p y) 1000 ∧ roomM ts fs (wayM ts s.2 x p y) 1000 ≤ 1000 ∧
    gainL x ts (augM (roomM ts fs (wayM ts s.2 x p y) 1000) (wayM ts s.2 x p y) fs) = gainL x ts fs + roomM ts fs (wayM ts s.2 x p y) 1000 := by
  obtain ⟨j, hj, rfl⟩ := mem_getDI hy
  have hjp : j ≤ p := by have := nodup_len p s.1 h.nodup h.rng; omega
  have hc := way_codes h hj hjp
  have hnd := (wayM_spec h j p hj hjp).1
  have hg := fun v r => way_gain h v r j p fs hj hjp hf.fit.1
  generalize wayM ts s.2 x p (s.1.getD j 0) = l at *
  obtain ⟨r1, r2, r3⟩ := roomM_spec ts fs l 1000 (by omega) (by omega) (fun c hc' => (hc c hc').2.2)
  generalize roomM ts fs l 1000 = r at *
  have hgd := fun k => aug_getD r k l fs hnd (fun c hc' => ⟨(hc c hc').1, by have := (hc c hc').2.1; have := hf.fit.1; omega⟩)
  refine ⟨⟨⟨by rw [aug_length]; exact hf.fit.1, fun k hk => ?_⟩, fun i hi h1 h2 => ?_⟩, r1, r2, ?_⟩
  · rw [hgd k]
    have b := hf.fit.2 k hk
    have q1 : 2 * (k : Int) ∈ l → r ≤ (ts.getD k default).2.2 - fs.getD k 0 := fun hm => by
      have := r3 _ hm
      rw [roomOf, if_pos (by omega), show (2 * (k : Int) / 2).toNat = k by omega] at this
      exact this
    have q2 : 2 * (k : Int) + 1 ∈ l → r ≤ fs.getD k 0 := fun hm => by
      have := r3 _ hm
      rw [roomOf, if_neg (by omega), show ((2 * (k : Int) + 1) / 2).toNat = k by omega] at this
      exact this
    by_cases m1 : 2 * (k : Int) ∈ l
    · have := q1 m1
      by_cases m2 : 2 * (k : Int) + 1 ∈ l
      · simp only [if_pos m1, if_pos m2]; omega
      · simp only [if_pos m1, if_neg m2]; omega
    · by_cases m2 : 2 * (k : Int) + 1 ∈ l
      · have := q2 m2
        simp only [if_neg m1, if_pos m2]; omega
      · simp only [if_neg m1, if_neg m2]; omega
  · rw [hg, hf.kept i hi h1 h2, if_neg (fun e => h1 e.symm), if_neg (fun e => h2 e.symm)]; rfl
  · rw [hg, if_pos rfl, if_neg (fun e => hxy e.symm)]; omega

def augS (p : Nat) (ts : List T3) (fs : List Int) (x y : Int) : List Int :=
  augM (roomM ts fs (wayM ts (bfs p ts fs x).2 x p y) 1000) (wayM ts (bfs p ts fs x).2 x p y) fs
def ffN (p : Nat) (ts : List T3) (x y : Int) : Nat → List Int → List Int
  | 0, fs => fs
  | n + 1, fs => if y ∈ (bfs p ts fs x).1 then ffN p ts x y n (augS p ts fs x y) else fs
def findL (p : Nat) (ts : List T3) (x y : Int) : List Int := ffN p ts x y 20001 (List.replicate ts.length 0)

theorem cut_bd (S : Int → Bool) : ∀ ts : List T3, (∀ t ∈ ts, 0 ≤ t.2.2 ∧ t.2.2 ≤ 1000) → 0 ≤ cutS S ts ∧ cutS S ts ≤ 1000 * ts.length
  | [], _ => by simp [cutS]
  | t :: r, h => by
    have := cut_bd S r (fun u hu => h u (List.mem_cons_of_mem _ hu))
    have := h t (List.mem_cons_self ..)
    simp only [cutS, List.length_cons]
    split <;> omega

theorem zero_flow {p : Nat} {ts : List T3} {x y : Int} (hw : ∀ t ∈ ts, 0 ≤ t.2.2) : FlowP p ts (List.replicate ts.length 0) x y ∧ ∀ v, gainL v ts (List.replicate ts.length 0) = 0 := by
  have hg : ∀ (v : Int) (ts : List T3), gainL v ts (List.replicate ts.length 0) = 0 := by
    intro v ts
    induction ts with
    | nil => rfl
    | cons t r ih => simp only [List.length_cons, List.replicate_succ, gainL, ih]; simp
  refine ⟨⟨⟨by simp, fun k hk => ?_⟩, fun i _ _ _ => hg _ ts⟩, fun v => hg v ts⟩
  have := hw (ts.getD k default) (by simp [List.getD_eq_getElem?_getD, hk])
  simp [List.getD_eq_getElem?_getD, hk] at *
  exact this

/-- A net as it is read, with two places. -/
structure NetP (p : Nat) (ts : List T3) (x y : Int) : Prop where
  inn : inP p ts
  wid : ∀ t ∈ ts, 1 ≤ t.2.2 ∧ t.2.2 ≤ 1000
  cnt : ts.length ≤ 20
  x0 : 0 ≤ x
  x1 : x < p
  y0 : 0 ≤ y
  y1 : y < p
  ne : x ≠ y

theorem flow_bd {p : Nat} {ts : List T3} {fs : List Int} {x y : Int} (hn : NetP p ts x y) (hf : FlowP p ts fs x y) : gainL x ts fs ≤ 20000 := by
  have h1 := flow_le_cut (S := fun i => decide (i = x)) hn.inn hf (by simp) (by have := hn.ne; simp; omega) hn.x0 hn.x1
  have h2 := (cut_bd (fun i => decide (i = x)) ts (fun t ht => by have := hn.wid t ht; omega)).2
  have := hn.cnt
  omega

theorem ff_spec {p : Nat} {ts : List T3} {x y : Int} (hn : NetP p ts x y) : ∀ (n : Nat) (fs : List Int), FlowP p ts fs x y → 20000 < n + gainL x ts fs →
    FlowP p ts (ffN p ts x y n fs) x y ∧ y ∉ (bfs p ts (ffN p ts x y n fs) x).1 ∧ gainL x ts fs ≤ gainL x ts (ffN p ts x y n fs)
  | 0, fs, hf, hl => by have := flow_bd hn hf; omega
  | n + 1, fs, hf, hl => by
    unfold ffN
    split
    · rename_i hy
      obtain ⟨f1, r1, r2, g1⟩ := aug_flow hn.inn hf (bfs_inv hn.inn hf.fit.1 hn.x0 hn.x1).1 hy hn.ne
      obtain ⟨a, b, c⟩ := ff_spec hn n (augS p ts fs x y) f1 (by unfold augS; rw [g1]; omega)
      exact ⟨a, b, by unfold augS at c; rw [g1] at c; unfold augS; omega⟩
    · rename_i hy
      exact ⟨hf, hy, Int.le_refl _⟩

theorem find_spec {p : Nat} {ts : List T3} {x y : Int} (hn : NetP p ts x y) : FlowP p ts (findL p ts x y) x y ∧ y ∉ (bfs p ts (findL p ts x y) x).1 ∧ 0 ≤ gainL x ts (findL p ts x y) := by
  have hz := zero_flow (p := p) (x := x) (y := y) (fun t ht => by have := hn.wid t ht; omega)
  have := ff_spec hn 20001 _ hz.1 (by rw [hz.2]; omega)
  rw [hz.2] at this
  exact this

/-- A flow out of which no way is left is as wide as the cut that the search finds. -/
theorem stuck_cut {p : Nat} {ts : List T3} {fs : List Int} {x y : Int} (hn : NetP p ts x y) (hf : FlowP p ts fs x y) (hy : y ∉ (bfs p ts fs x).1) :
    cutS (fun z => decide (z ∈ (bfs p ts fs x).1)) ts = gainL x ts fs ∧ x ∈ (bfs p ts fs x).1 := by
  have hi := (bfs_inv hn.inn hf.fit.1 hn.x0 hn.x1).1
  have hx : x ∈ (bfs p ts fs x).1 := by have := getD_memI hi.pos; rw [hi.head] at this; exact this
  have hs := bfs_shut hn.inn hf.fit.1 hn.x0 hn.x1
  refine ⟨?_, hx⟩
  rw [← net_gain (S := fun z => decide (z ∈ (bfs p ts fs x).1)) hn.inn hf.kept (by simpa using hx) (by simpa using hy) hn.x0 hn.x1]
  symm
  apply net_eq
  · exact hf.fit.1
  · intro k hk h1 h2
    have := (hs k hk).1 (by simpa using h1) (by simpa using h2)
    have := hf.fit.2 k hk
    omega
  · intro k hk h1 h2
    have := (hs k hk).2 (by simpa using h2) (by simpa using h1)
    have := hf.fit.2 k hk
    omega

/-- g is how much water can go from x to y. -/
def IsMost (p : Nat) (ts : List T3) (x y g : Int) : Prop := (∃ fs, FlowP p ts fs x y ∧ gainL x ts fs = g) ∧ ∃ S : Int → Bool, S x = true ∧ S y = false ∧ cutS S ts = g
theorem most_one {p : Nat} {ts : List T3} {x y g g' : Int} (hn : NetP p ts x y) (h : IsMost p ts x y g) (h' : IsMost p ts x y g') : g = g' := by
  obtain ⟨⟨f, hf, e⟩, S, s1, s2, s3⟩ := h
  obtain ⟨⟨f', hf', e'⟩, S', s1', s2', s3'⟩ := h'
  have a := flow_le_cut hn.inn hf s1' s2' hn.x0 hn.x1
  have b := flow_le_cut hn.inn hf' s1 s2 hn.x0 hn.x1
  omega
theorem find_most {p : Nat} {ts : List T3} {x y : Int} (hn : NetP p ts x y) : IsMost p ts x y (gainL x ts (findL p ts x y)) := by
  obtain ⟨a, b, _⟩ := find_spec hn
  obtain ⟨c, d⟩ := stuck_cut hn a b
  exact ⟨⟨_, a, rfl⟩, _, by simpa using d, by simpa using b, c⟩
theorem turn_net {p : Nat} {ts : List T3} {x y : Int} (hn : NetP p ts x y) : NetP p (turnL ts) y x :=
  ⟨turn_inP hn.inn, fun t ht => by obtain ⟨u, hu, rfl⟩ := List.mem_map.1 ht; exact hn.wid u hu, by simpa [turnL] using hn.cnt, hn.y0, hn.y1, hn.x0, hn.x1, fun e => hn.ne e.symm⟩
theorem turn_most {p : Nat} {ts : List T3} {x y g : Int} (hn : NetP p ts x y) (h : IsMost p ts x y g) : IsMost p (turnL ts) y x g := by
  obtain ⟨⟨f, hf, e⟩, S, s1, s2, s3⟩ := h
  refine ⟨⟨f, flow_turn hf, ?_⟩, fun i => !S i, by simp [s2], by simp [s1], by rw [cut_turn]; exact s3⟩
  rw [gain_turn, gain_both hn.inn hf hn.x0 hn.x1 hn.y0 hn.y1 hn.ne]; omega
/-- A cut that some flow fills is a narrowest one; a cut's width is no less than what can go. -/
theorem most_le {p : Nat} {ts : List T3} {x y g : Int} (hn : NetP p ts x y) (h : IsMost p ts x y g) {S : Int → Bool} (hx : S x = true) (hy : S y = false) : g ≤ cutS S ts := by
  obtain ⟨⟨f, hf, rfl⟩, _⟩ := h
  exact flow_le_cut hn.inn hf hx hy hn.x0 hn.x1
theorem most_flow {p : Nat} {ts : List T3} {x y g : Int} (hn : NetP p ts x y) (h : IsMost p ts x y g) {fs : List Int} (hf : FlowP p ts fs x y) : gainL x ts fs ≤ g := by
  obtain ⟨_, S, s1, s2, rfl⟩ := h
  exact flow_le_cut hn.inn hf s1 s2 hn.x0 hn.x1
theorem wide_cut {S : Int → Bool} {d : Int} : ∀ ts : List T3, (∀ t ∈ ts, 0 ≤ t.2.2) → (∃ t ∈ ts, S t.1 = true ∧ S t.2.1 = false ∧ d ≤ t.2.2) → d ≤ cutS S ts
  | [], _, h => by obtain ⟨t, ht, _⟩ := h; simp at ht
  | t :: r, hw, h => by
    have h0 := hw t (List.mem_cons_self ..)
    have hr : ∀ l : List T3, (∀ t ∈ l, 0 ≤ t.2.2) → 0 ≤ cutS S l := by
      intro l
      induction l with
      | nil => intro _; simp [cutS]
      | cons a l ih => intro h; have := ih (fun t ht => h t (List.mem_cons_of_mem _ ht)); have := h a (List.mem_cons_self ..); simp only [cutS]; split <;> omega
    have hr := hr r (fun t ht => hw t (List.mem_cons_of_mem _ ht))
    obtain ⟨u, hu, u1, u2, u3⟩ := h
    simp only [cutS]
    rcases List.mem_cons.1 hu with rfl | hu
    · simp only [u1, u2]; simp; omega
    · have := wide_cut r (fun t ht => hw t (List.mem_cons_of_mem _ ht)) ⟨u, hu, u1, u2, u3⟩
      split <;> omega

end Go.Proofs.Yteimcbhnjhkkbaa
