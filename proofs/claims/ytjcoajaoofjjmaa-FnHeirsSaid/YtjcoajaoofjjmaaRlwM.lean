/- Rights whose bottoms divide one number, in plain Lean. -/
import Derived.Test.YtjcoajaoofjjmaaSpsM
import Derived.Test.YtjcoajaoofjjmaaRgt2
namespace Go.Proofs.Ytjcoajaoofjjmaa
set_option linter.unusedSimpArgs false
set_option linter.unusedVariables false
set_option linter.unnecessarySimpa false

theorem red_get {n m : Int} (hn : 0 ≤ n) (hn' : n ≤ 10000) (hm : 1 ≤ m) (hm' : m ≤ 10000) :
    ∃ t b g : Int, redM n m = some (t, b) ∧ frOk t b = true ∧ 1 ≤ g ∧ n = g * t ∧ m = g * b := by
  have hg := gcd_pos n m (by omega)
  have h1 : Int.gcd (n / (Int.gcd n m : Int)) (m / (Int.gcd n m : Int)) = 1 := Int.gcd_ediv_gcd_ediv_gcd (by omega)
  have hq : 1 ≤ m / (Int.gcd n m : Int) := by
    have := Int.ediv_pos_of_pos_of_dvd (show 0 < m by omega) (by omega) (Int.gcd_dvd_right (a := n) (b := m))
    omega
  have hq' : m / (Int.gcd n m : Int) ≤ m := Int.ediv_le_self _ (by omega)
  have ht : 0 ≤ n / (Int.gcd n m : Int) := Int.ediv_nonneg hn (by omega)
  have ht' : n / (Int.gcd n m : Int) ≤ n := Int.ediv_le_self _ hn
  have en : n = (Int.gcd n m : Int) * (n / (Int.gcd n m : Int)) := (Int.mul_ediv_cancel' (Int.gcd_dvd_left (a := n) (b := m))).symm
  have em : m = (Int.gcd n m : Int) * (m / (Int.gcd n m : Int)) := (Int.mul_ediv_cancel' (Int.gcd_dvd_right (a := n) (b := m))).symm
  have hok : frOk (n / (Int.gcd n m : Int)) (m / (Int.gcd n m : Int)) = true := by
    simp only [frOk, h1, Bool.and_eq_true]
    exact ⟨⟨inB_iff.2 (by omega), inB_iff.2 (by omega)⟩, by decide⟩
  exact ⟨_, _, _, by unfold redM; rw [if_pos hok], hok, by omega, en, em⟩

/-- The fraction p/q is worth x of D. -/
def isU (D p q x : Int) : Prop := frOk p q = true ∧ p * D = x * q
def unU (D : Int) (t : T3) : Int := D / t.2.2 * t.2.1
def okU (D : Int) (t : T3) : Prop := frOk t.2.1 t.2.2 = true ∧ t.2.2 ∣ D

theorem fr_cop {p q : Int} (h : frOk p q = true) : Int.gcd p q = 1 := by
  have := (frOk_iff.1 h).2.2.2.2; omega
theorem fr_dvd {p q y : Int} (h : frOk p q = true) (hd : q ∣ p * y) : q ∣ y := by
  have g := fr_cop h
  rw [← Int.natAbs_dvd_natAbs] at hd ⊢
  rw [Int.natAbs_mul] at hd
  have : Nat.Coprime q.natAbs p.natAbs := by
    unfold Nat.Coprime
    rw [Nat.gcd_comm]
    exact g
  exact Nat.Coprime.dvd_of_dvd_mul_left this hd

theorem isU.dvd {D p q x : Int} (h : isU D p q x) : q ∣ D := fr_dvd h.1 ⟨x, by rw [h.2, Int.mul_comm]⟩
theorem isU.nonneg {D p q x : Int} (h : isU D p q x) (hD : 0 < D) : 0 ≤ x := by
  have e := frOk_iff.1 h.1
  have e2 := h.2
  rcases Int.lt_or_le x 0 with hx | hx
  · have a := Int.mul_neg_of_neg_of_pos hx (show 0 < q by omega)
    have b := Int.mul_nonneg (show 0 ≤ p by omega) (Int.le_of_lt hD)
    omega
  · exact hx
theorem isU.pos {D p q x : Int} (h : isU D p q x) (hD : 0 < D) (hp : p ≠ 0) : 1 ≤ x := by
  have e := frOk_iff.1 h.1
  have e2 := h.2
  have hx := h.nonneg hD
  have b := Int.mul_pos (show 0 < p by omega) hD
  rcases Int.lt_or_le 0 x with hy | hy
  · omega
  · have : x = 0 := by omega
    subst this; simp at e2; omega
theorem isU.top {D p q x : Int} (h : isU D p q x) (hx : 1 ≤ x) : p ≠ 0 := by
  have e := frOk_iff.1 h.1
  have e2 := h.2
  have := Int.mul_pos (show 0 < x by omega) (show 0 < q by omega)
  rintro rfl
  simp at e2; omega
theorem isU.red {D p q x : Int} (h : isU D p q x) (hD : 0 < D) : redM x D = some (p, q) := by
  have e := frOk_iff.1 h.1
  rw [← redM_self h.1]
  exact redM_same (h.nonneg hD) hD e.2.2.1 (by omega) h.2.symm
theorem isU.uniq {D p q x p' q' : Int} (h : isU D p q x) (h' : isU D p' q' x) (hD : 0 < D) : p = p' ∧ q = q' := by
  have := (h.red hD).symm.trans (h'.red hD)
  injection this with e; injection e with e1 e2
  exact ⟨e1, e2⟩
theorem isU_un {D p q x o : Int} (h : isU D p q x) : okU D (o, p, q) ∧ unU D (o, p, q) = x := by
  have hd := h.dvd
  have e := frOk_iff.1 h.1
  refine ⟨⟨h.1, hd⟩, ?_⟩
  obtain ⟨k, rfl⟩ := hd
  have e2 := h.2
  show q * k / q * p = x
  rw [Int.mul_ediv_cancel_left _ (by omega)]
  apply Int.eq_of_mul_eq_mul_right (a := q) (by omega)
  rw [← e2, Int.mul_assoc, Int.mul_comm]
  grind
theorem okU_is {D : Int} {t : T3} (h : okU D t) : isU D t.2.1 t.2.2 (unU D t) := by
  refine ⟨h.1, ?_⟩
  have e := frOk_iff.1 h.1
  obtain ⟨k, hk⟩ := h.2
  unfold unU
  rw [hk, Int.mul_ediv_cancel_left _ (by omega)]
  grind
theorem okU_mul {D k : Int} {t : T3} (h : okU D t) : okU (k * D) t ∧ unU (k * D) t = k * unU D t := by
  have e := okU_is h
  obtain ⟨a, b, c⟩ := t
  refine isU_un (o := a) ⟨h.1, ?_⟩
  have := e.2
  simp only at this ⊢
  rw [Int.mul_left_comm, this, Int.mul_assoc]

theorem isU.add {D a b x c d y : Int} (h : isU D a b x) (h' : isU D c d y) (hD : 0 < D) : addM a b c d = redM (x + y) D := by
  have e := frOk_iff.1 h.1
  have e' := frOk_iff.1 h'.1
  have e2 := h.2
  have e3 := h'.2
  unfold addM
  rw [h.1, h'.1]
  simp only [Bool.and_self, if_true]
  refine redM_same ?_ (Int.mul_pos (by omega) (by omega)) (Int.add_nonneg (h.nonneg hD) (h'.nonneg hD)) hD (by grind)
  exact Int.add_nonneg (Int.mul_nonneg (by omega) (by omega)) (Int.mul_nonneg (by omega) (by omega))
theorem red_is {x D : Int} {s : Int × Int} (hD : 0 < D) (h : redM x D = some s) : isU D s.1 s.2 x := by
  obtain ⟨e, hf⟩ := redM_eq h hD
  exact ⟨hf, by rw [e, Int.mul_comm]⟩
theorem red_some {x D : Int} (hx : 0 ≤ x) (hx' : x ≤ 10000) (hD : 1 ≤ D) (hD' : D ≤ 10000) : ∃ s, redM x D = some s := by
  obtain ⟨t, b, g, h, _⟩ := red_get hx hx' hD hD'
  exact ⟨_, h⟩
theorem isU.times {D a b x p q k : Int} {m : Int × Int} (h : isU D a b x) (h2 : timesM a b p q = some m) (hk : q * k = 4) : isU (4 * D) m.1 m.2 (x * p * k) := by
  obtain ⟨h3, h4, h5, h6⟩ := timesM_ok h2
  refine ⟨h5, ?_⟩
  have e := frOk_iff.1 h.1
  have e2 := h.2
  apply Int.eq_of_mul_eq_mul_right (a := b) (by omega)
  rw [← hk]
  have a1 : m.1 * (q * k * D) * b = m.1 * (b * q) * (k * D) := by grind
  rw [a1, h6]
  have a2 : m.2 * (a * p) * (k * D) = m.2 * p * k * (a * D) := by grind
  rw [a2, e2]
  grind

/-! Sums. -/
def sumU (D : Int) (ts : List T3) : Int := (ts.map (unU D)).sum
theorem sumU_nonneg {D : Int} (hD : 0 < D) : ∀ {ts : List T3}, (∀ t ∈ ts, okU D t) → 0 ≤ sumU D ts
  | [], _ => by simp [sumU]
  | t :: r, h => by
    have := (okU_is (h t (by simp))).nonneg hD
    have ih := sumU_nonneg hD (ts := r) (fun u hu => h u (by simp [hu]))
    simp only [sumU, List.map_cons, List.sum_cons] at ih ⊢
    omega
theorem sumL_is {D : Int} (hD : 0 < D) : ∀ {ts : List T3} {p q x : Int} {s : Int × Int}, (∀ t ∈ ts, okU D t) → isU D p q x → sumL p q ts = some s → isU D s.1 s.2 (x + sumU D ts)
  | [], p, q, x, s, _, h, e => by
    injection e with e; subst e
    simpa [sumU] using h
  | t :: r, p, q, x, s, ho, h, e => by
    simp only [sumL] at e
    have ht := okU_is (ho t (by simp))
    split at e
    · cases e
    · rename_i v hv
      rw [h.add ht hD] at hv
      have := sumL_is hD (fun u hu => ho u (by simp [hu])) (red_is hD hv) e
      simpa [sumU, Int.add_assoc] using this
theorem sumL_go {D : Int} (hD : 0 < D) (hD' : D ≤ 10000) : ∀ {ts : List T3} {p q x : Int}, (∀ t ∈ ts, okU D t) → isU D p q x → x + sumU D ts ≤ 10000 → ∃ s, sumL p q ts = some s
  | [], p, q, x, _, h, _ => ⟨_, rfl⟩
  | t :: r, p, q, x, ho, h, hb => by
    have ht := okU_is (ho t (by simp))
    have hr := sumU_nonneg hD (ts := r) (fun u hu => ho u (by simp [hu]))
    have hx := h.nonneg hD
    have hy := ht.nonneg hD
    have hb' : x + (unU D t + sumU D r) ≤ 10000 := by simpa [sumU] using hb
    obtain ⟨s, hs⟩ := red_some (x := x + unU D t) (D := D) (by omega) (by omega) (by omega) hD'
    obtain ⟨z, hz⟩ := sumL_go hD hD' (ts := r) (fun u hu => ho u (by simp [hu])) (red_is hD hs) (by omega)
    refine ⟨z, ?_⟩
    simp only [sumL]
    rw [h.add ht hD, hs]
    exact hz

theorem isU_zero {D : Int} : isU D 0 1 0 := ⟨by decide, by simp⟩
theorem isU_one {D : Int} : isU D 1 1 D := ⟨by decide, by simp⟩

theorem sum_of_rights {D : Int} {ts : List T3} (hD : 0 < D) (h : rightsM ts = true) (ho : ∀ t ∈ ts, okU D t) : sumU D ts = D := by
  obtain ⟨_, h2, _, h4⟩ := rights_parts h
  unfold sumM at h4
  rw [if_pos h2] at h4
  have := (sumL_is hD ho isU_zero h4).2
  simp at this
  exact this.symm
theorem rights_of_sum {D : Int} {ts : List T3} (hD : 0 < D) (hD' : D ≤ 10000) (h1 : 1 ≤ ts.length) (h2 : ts.length ≤ 12) (h3 : rgA 0 ts = true) (ho : ∀ t ∈ ts, okU D t) (hs : sumU D ts = D) : rightsM ts = true := by
  obtain ⟨s, e⟩ := sumL_go hD hD' ho isU_zero (by omega)
  have hi := sumL_is hD ho isU_zero e
  rw [hs, Int.zero_add] at hi
  obtain ⟨e1, e2⟩ := hi.uniq isU_one hD
  have e3 : sumM ts = some (1, 1) := by unfold sumM; rw [if_pos h2, e]; exact congrArg some (Prod.ext e1 e2)
  unfold rightsM
  rw [h3, e3, inB_iff.2 (by omega)]
  rfl

theorem sumU_app (D : Int) (xs ys : List T3) : sumU D (xs ++ ys) = sumU D xs + sumU D ys := by simp [sumU]
theorem sumU_one (D : Int) (t : T3) : sumU D [t] = unU D t := by simp [sumU]
theorem sumU_set (D : Int) : ∀ (ts : List T3) (k : Nat) (x : T3), k < ts.length → sumU D (ts.set k x) = sumU D ts - unU D (ts.getD k default) + unU D x
  | [], k, x, h => by simp at h
  | t :: r, 0, x, h => by simp [sumU]; omega
  | t :: r, k + 1, x, h => by
    have := sumU_set D r k x (by simpa using h)
    simp [sumU] at this ⊢; omega
theorem sumU_erase (D : Int) : ∀ (ts : List T3) (k : Nat), k < ts.length → sumU D (ts.eraseIdx k) = sumU D ts - unU D (ts.getD k default)
  | [], k, h => by simp at h
  | t :: r, 0, h => by simp [sumU]; omega
  | t :: r, k + 1, h => by
    have := sumU_erase D r k (by simpa using h)
    simp [sumU] at this ⊢; omega
theorem sumU_mul {D k : Int} : ∀ {ts : List T3}, (∀ t ∈ ts, okU D t) → sumU (k * D) ts = k * sumU D ts
  | [], _ => by simp [sumU]
  | t :: r, h => by
    have e := (okU_mul (k := k) (h t (by simp))).2
    have ih := sumU_mul (k := k) (ts := r) (fun u hu => h u (by simp [hu]))
    simp only [sumU, List.map_cons, List.sum_cons] at ih ⊢
    rw [e, ih, Int.mul_add]

/-! Order. -/
theorem rgA_of_srt : ∀ {ts : List T3} {p : Int}, srt p ts → (∀ t ∈ ts, 1 ≤ t.1 ∧ t.1 ≤ 999 ∧ frOk t.2.1 t.2.2 = true ∧ t.2.1 ≠ 0) → rgA p ts = true
  | [], _, _, _ => rfl
  | t :: r, p, hs, h => by
    obtain ⟨h1, h2, h3, h4⟩ := h t (by simp)
    obtain ⟨x, y, z⟩ := t
    rw [rgA_yes (inB_iff.2 ⟨h1, h2⟩) hs.1 h3 h4]
    exact rgA_of_srt hs.2 (fun u hu => h u (by simp [hu]))
theorem atM_end {o : Int} : ∀ {ts : List T3}, (∀ t ∈ ts, t.1 < o) → atM o ts = ts.length
  | [], _ => rfl
  | t :: r, h => by
    simp only [atM]
    rw [if_pos (h t (by simp)), atM_end (fun u hu => h u (by simp [hu]))]
    rfl
theorem idxO_app {o : Int} {x : Int × Int} : ∀ {ts : List T3}, (∀ t ∈ ts, t.1 ≠ o) → idxO o (ts ++ [(o, x)]) = ts.length
  | [], _ => by simp [idxO]
  | t :: r, h => by
    have := idxO_app (o := o) (x := x) (ts := r) (fun u hu => h u (by simp [hu]))
    simp only [List.cons_append, idxO]
    rw [if_neg (h t (by simp)), this]
    rfl
theorem idxO_at {ts : List T3} {p : Int} {k : Nat} (hs : srt p ts) (h : k < ts.length) : idxO (ts.getD k default).1 ts = k := by
  rcases Nat.lt_trichotomy (idxO (ts.getD k default).1 ts) k with h1 | h1 | h1
  · exact absurd rfl (srt_past k hs h1 h)
  · exact h1
  · exact absurd rfl (idxO_ne k h1)
theorem addSh_end {us : List T3} {o p q : Int} (h : ∀ t ∈ us, t.1 < o) : addShM us o p q = some (us ++ [(o, p, q)]) := by
  unfold addShM
  rw [atM_end h, if_neg (by omega)]
  simp [insM]
theorem srt_app : ∀ {ts : List T3} {p : Int} {x : T3}, srt p ts → (∀ t ∈ ts, t.1 < x.1) → p < x.1 → srt p (ts ++ [x])
  | [], p, x, _, _, hp => ⟨hp, trivial⟩
  | t :: r, p, x, hs, h, hp => ⟨hs.1, srt_app hs.2 (fun u hu => h u (by simp [hu])) (h t (by simp))⟩

/-! What the draws make. -/
theorem addSh_mem {D o p q x : Int} {us vs : List T3} (hD : 0 < D) (h : addShM us o p q = some vs) (hu : ∀ t ∈ us, okU D t) (hx : isU D p q x) : (∀ t ∈ vs, okU D t ∧ (t ∈ us ∨ t.1 = o)) ∧ vs.length ≤ us.length + 1 := by
  unfold addShM at h
  split at h
  · rename_i hc
    cases ha : addM (us.getD (atM o us) default).2.1 (us.getD (atM o us) default).2.2 p q with
    | none => rw [ha] at h; cases h
    | some s =>
      rw [ha] at h
      injection h with h; subst h
      have hm : us.getD (atM o us) default ∈ us := getD_mem3' hc.1
      rw [(okU_is (hu _ hm)).add hx hD] at ha
      refine ⟨fun t ht => ?_, by simp⟩
      rcases List.mem_or_eq_of_mem_set ht with h | h
      · exact ⟨hu t h, .inl h⟩
      · subst h; exact ⟨(isU_un (red_is hD ha)).1, .inr rfl⟩
  · injection h with h; subst h
    have hl := atM_le o us
    refine ⟨fun t ht => ?_, by simp [insM]; omega⟩
    rcases List.mem_append.1 ht with h | h
    · have := List.mem_of_mem_take h; exact ⟨hu t this, .inl this⟩
    · rcases List.mem_cons.1 h with h | h
      · subst h; exact ⟨(isU_un hx).1, .inr rfl⟩
      · have := List.mem_of_mem_drop h; exact ⟨hu t this, .inl this⟩
theorem sellOut_mem {D : Int} {ts : List T3} {k : Nat} {r : Int × Int} {x : Int} (hr : isU D r.1 r.2 x) (hk : k < ts.length) (hu : ∀ t ∈ ts, okU D t) : (∀ t ∈ sellOut ts k r, okU D t ∧ (t ∈ ts ∨ t.1 = (ts.getD k default).1)) ∧ (sellOut ts k r).length ≤ ts.length := by
  unfold sellOut
  split
  · exact ⟨fun t ht => ⟨hu t (List.mem_of_mem_eraseIdx ht), .inl (List.mem_of_mem_eraseIdx ht)⟩, List.length_eraseIdx_le _ _⟩
  · refine ⟨fun t ht => ?_, by simp⟩
    rcases List.mem_or_eq_of_mem_set ht with h | h
    · exact ⟨hu t h, .inl h⟩
    · subst h; exact ⟨(isU_un hr).1, .inr rfl⟩

/-- Rights as drawn, after some sales. -/
structure Drawn (D : Int) (n : Nat) (ts : List T3) : Prop where
  ok : rightsM ts = true
  un : ∀ t ∈ ts, okU D t
  own : ∀ t ∈ ts, t.1 ≤ 12
  len : ts.length ≤ n

theorem Drawn.more {D : Int} {n : Nat} {ts : List T3} (h : Drawn D n ts) : Drawn (4 * D) (n + 1) ts :=
  ⟨h.ok, fun t ht => (okU_mul (h.un t ht)).1, h.own, by have := h.len; omega⟩
theorem drawn_sell {D f tw p q k : Int} {n : Nat} {ts us : List T3} (hD : 0 < D) (h : Drawn D n ts) (ht : tw ≤ 12) (hk : q * k = 4) (hs : sellM ts f tw p q = some us) : Drawn (4 * D) (n + 1) us := by
  unfold sellM at hs
  split at hs
  · rename_i hc
    have hm := getD_mem3' hc.2
    have ho := okU_is (h.un _ hm)
    split at hs
    · rename_i m r e1 e2
      have i1 := ho.times e1 hk
      have i2 := ho.times e2 hk
      have h4 : ∀ t ∈ ts, okU (4 * D) t := fun t ht => (okU_mul (h.un t ht)).1
      obtain ⟨o1, o2⟩ := sellOut_mem i2 hc.2 h4
      have key : ∀ vs, sellTo (sellOut ts (idxO f ts) r) tw m = some vs → (∀ t ∈ vs, okU (4 * D) t ∧ t.1 ≤ 12) ∧ vs.length ≤ n + 1 := by
        intro vs hv
        have hl := h.len
        have ow : ∀ t ∈ sellOut ts (idxO f ts) r, t.1 ≤ 12 := fun t ht => by
          rcases (o1 t ht).2 with h1 | h1
          · exact h.own t h1
          · rw [h1]; exact h.own _ hm
        unfold sellTo at hv
        split at hv
        · injection hv with hv; subst hv
          exact ⟨fun t ht => ⟨(o1 t ht).1, ow t ht⟩, by omega⟩
        · obtain ⟨a1, a2⟩ := addSh_mem (by omega) hv (fun t ht => (o1 t ht).1) i1
          refine ⟨fun t ht => ⟨(a1 t ht).1, ?_⟩, by omega⟩
          rcases (a1 t ht).2 with h1 | h1
          · exact ow t h1
          · omega
      cases hv : sellTo (sellOut ts (idxO f ts) r) tw m with
      | none => rw [hv] at hs; cases hs
      | some vs =>
        rw [hv] at hs
        obtain ⟨k1, k2⟩ := key vs hv
        unfold okM at hs
        simp only at hs
        split at hs
        · rename_i hr
          injection hs with hs; subst hs
          exact ⟨hr, fun t ht => (k1 t ht).1, fun t ht => (k1 t ht).2, k2⟩
        · cases hs
    · cases hs
  · cases hs

theorem drawn_one (o : Int) (h1 : 1 ≤ o) (h2 : o ≤ 12) : Drawn 1 1 [(o, 1, 1)] := by
  have hok : ∀ t ∈ [((o, 1, 1) : T3)], okU 1 t := by
    intro t ht
    simp at ht; subst ht
    exact ⟨(by decide : frOk 1 1 = true), by simp⟩
  refine ⟨rights_of_sum (D := 1) (by omega) (by omega) (by simp) (by simp) ?_ hok (by simp [sumU, unU]), hok, fun t ht => by simp at ht; subst ht; exact h2, by simp⟩
  exact rgA_of_srt ⟨by simp; omega, trivial⟩ (by intro t ht; simp at ht; subst ht; exact ⟨h1, by simp; omega, (by decide : frOk 1 1 = true), by simp⟩)

end Go.Proofs.Ytjcoajaoofjjmaa
