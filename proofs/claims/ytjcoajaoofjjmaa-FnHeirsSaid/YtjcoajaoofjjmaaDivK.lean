/- Division of water by rights: the order of the rests, in plain Lean. -/
import Derived.Test.YtjcoajaoofjjmaaDivM
import Derived.Test.YtjcoajaoofjjmaaPropM
import Derived.Test.YtjcoajaoofjjmaaRgtM
namespace Go.Proofs.Ytjcoajaoofjjmaa
set_option linter.unusedSimpArgs false
set_option linter.unusedVariables false
set_option linter.unnecessarySimpa false

/-! The sum of the shares as a quotient. -/
theorem redM_eq {t b : Int} {s : Int × Int} (h : redM t b = some s) (hb : 0 < b) : s.1 * b = s.2 * t ∧ frOk s.1 s.2 = true := by
  unfold redM at h
  split at h
  · rename_i h1
    injection h with h; subst h
    refine ⟨?_, h1⟩
    have g0 := gcd_pos t b hb
    obtain ⟨x, hx⟩ : (Int.gcd t b : Int) ∣ t := Int.gcd_dvd_left ..
    obtain ⟨y, hy⟩ : (Int.gcd t b : Int) ∣ b := Int.gcd_dvd_right ..
    generalize (Int.gcd t b : Int) = g at *
    subst hx
    rw [hy, Int.mul_ediv_cancel_left _ (by omega), Int.mul_ediv_cancel_left _ (by omega)]
    grind
  · cases h

theorem addM_eq {a b c d : Int} {s : Int × Int} (h : addM a b c d = some s) : s.1 * (b * d) = s.2 * (a * d + c * b) ∧ frOk s.1 s.2 = true := by
  obtain ⟨h1, h2⟩ := addM_ok h
  simp only [addM, h1, h2, Bool.and_self, if_true] at h
  have e1 := frOk_iff.1 h1
  have e2 := frOk_iff.1 h2
  exact redM_eq h (Int.mul_pos (by omega) (by omega))

theorem quo_step {p q x y D N t1 t2 s1 s2 : Int} (h : s1 * (y * t2) = s2 * (x * t2 + t1 * y)) (ih : p * (s2 * D) = q * (s1 * D + s2 * N)) (hs : s2 ≠ 0) : p * (y * (t2 * D)) = q * (x * (t2 * D) + y * (t1 * D + t2 * N)) := by
  apply Int.eq_of_mul_eq_mul_left hs
  have e1 : s2 * (p * (y * (t2 * D))) = (p * (s2 * D)) * (y * t2) := by grind
  have e2 : s2 * (q * (x * (t2 * D) + y * (t1 * D + t2 * N))) = q * (s2 * (x * t2 + t1 * y) * D + s2 * N * (y * t2)) := by grind
  rw [e1, e2, ih, ← h]
  grind

theorem sumL_eq : ∀ (ts : List T3) (x y : Int) (s : Int × Int), sumL x y ts = some s → s.1 * (y * denL ts) = s.2 * (x * denL ts + y * numL ts)
  | [], x, y, s, h => by
    injection h with h; subst h
    simp [denL, numL, Int.mul_comm]
  | t :: r, x, y, s, h => by
    simp only [sumL] at h
    split at h
    · cases h
    · rename_i q hq
      obtain ⟨e1, e2⟩ := addM_eq hq
      have ih := sumL_eq r _ _ _ h
      exact quo_step e1 ih (by have := frOk_iff.1 e2; omega)

theorem one_of_sum {ts : List T3} (h : sumM ts = some (1, 1)) : numL ts = denL ts := by
  simp only [sumM] at h
  split at h
  · have := sumL_eq ts _ _ _ h; simp at this; exact this.symm
  · cases h

theorem rgA_all {ts : List T3} : ∀ {p : Int}, rgA p ts = true → ∀ t ∈ ts, 1 ≤ t.1 ∧ t.1 ≤ 999 ∧ frOk t.2.1 t.2.2 = true ∧ 1 ≤ t.2.1 := by
  induction ts with
  | nil => intro p h t ht; cases ht
  | cons u r ih =>
    intro p h t ht
    simp only [rgA, Bool.and_eq_true, decide_eq_true_eq] at h
    rcases List.mem_cons.1 ht with rfl | ht
    · have h1 := inB_iff.1 h.1.1.1.1
      have h2 := frOk_iff.1 h.1.1.2
      exact ⟨by omega, by omega, h.1.1.2, by have := h.1.2; omega⟩
    · exact ih h.2 t ht

structure DivH (ts : List T3) : Prop where
  l1 : 1 ≤ ts.length
  l2 : ts.length ≤ 12
  mem : ∀ t ∈ ts, 1 ≤ t.2.1 ∧ t.2.1 ≤ 10000 ∧ 1 ≤ t.2.2 ∧ t.2.2 ≤ 10000 ∧ frOk t.2.1 t.2.2 = true
  one : numL ts = denL ts

theorem divH_of {ts : List T3} (h : rightsM ts = true) : DivH ts := by
  simp only [rightsM, Bool.and_eq_true] at h
  have h1 := inB_iff.1 h.1.1
  refine ⟨by omega, by omega, fun t ht => ?_, one_of_sum (by simpa using h.2)⟩
  obtain ⟨_, _, h4, h5⟩ := rgA_all h.1.2 t ht
  have := frOk_iff.1 h4
  exact ⟨by omega, by omega, by omega, by omega, h4⟩

/-! The order. -/
def btD (ts : List T3) (i : Int) : Int := (ts.getD i.toNat (0, 0, 1)).2.2
def gtD (ts : List T3) (W : Int) (a b : Int) : Bool := decide (keyM (rstL W ts) b * btD ts a < keyM (rstL W ts) a * btD ts b)

theorem btD_pos {ts : List T3} (h : DivH ts) (i : Int) : 1 ≤ btD ts i := by
  unfold btD
  by_cases hi : i.toNat < ts.length
  · simp only [List.getD_eq_getElem?_getD, List.getElem?_eq_getElem hi, Option.getD_some]
    exact (h.mem _ (List.getElem_mem hi)).2.2.1
  · simp [List.getD_eq_getElem?_getD, List.getElem?_eq_none (Nat.le_of_not_lt hi)]

theorem gtD_weak {ts : List T3} (h : DivH ts) (W : Int) : Weak (gtD ts W) := by
  refine ⟨fun a b h1 => ?_, fun a b c h1 h2 => ?_⟩
  · simp [gtD] at *; omega
  · simp only [gtD, decide_eq_false_iff_not, Int.not_lt] at *
    have pa := btD_pos h a
    have pb := btD_pos h b
    have pc := btD_pos h c
    generalize btD ts a = ba at *
    generalize btD ts b = bb at *
    generalize btD ts c = bc at *
    generalize keyM (rstL W ts) a = ra at *
    generalize keyM (rstL W ts) b = rb at *
    generalize keyM (rstL W ts) c = rc at *
    refine Int.le_of_mul_le_mul_left (a := bb) ?_ (by omega)
    have e1 : bb * (ra * bc) = ra * bb * bc := by grind
    have e2 : bb * (rc * ba) = rc * bb * ba := by grind
    have e3 : rb * bc * ba = rb * ba * bc := by grind
    have m1 := Int.mul_le_mul_of_nonneg_right h1 (show 0 ≤ bc by omega)
    have m2 := Int.mul_le_mul_of_nonneg_right h2 (show 0 ≤ ba by omega)
    omega

def divL (ts : List T3) (W : Int) : Int := W - (flsL W ts).sum
def divR (ts : List T3) (W : Int) : List Int := rankM (gtD ts W) ts.length
/-- The parts when t of the order have been given to. -/
def divAt (ts : List T3) (W : Int) (t : Nat) : List Int := setsM (· + 1) (flsL W ts) ((divR ts W).take t)
def divGo (ts : List T3) (W : Int) : List Int := divAt ts W (divL ts W).toNat
/-- The rests when t have been given to. -/
def rsAt (ts : List T3) (W : Int) (t : Nat) : List Int := setsM (fun _ => -1) (rstL W ts) ((divR ts W).take t)
def divM (ts : List T3) (W : Int) : List Int := if rightsM ts && inB W 0 1000000 then divGo ts W else []

theorem fls_length (W : Int) (ts : List T3) : (flsL W ts).length = ts.length := by simp [flsL]
theorem rst_length (W : Int) (ts : List T3) : (rstL W ts).length = ts.length := by simp [rstL]
theorem divAt_length (ts : List T3) (W : Int) (t : Nat) : (divAt ts W t).length = ts.length := by simp [divAt, setsM_length, flsL]
theorem rsAt_length (ts : List T3) (W : Int) (t : Nat) : (rsAt ts W t).length = ts.length := by simp [rsAt, setsM_length, rstL]
theorem divR_length (ts : List T3) (W : Int) : (divR ts W).length = ts.length := rank_length _ _
theorem divM_length (ts : List T3) (W : Int) (hn : ts.length ≤ 1048576) : (divM ts W).length ≤ 1048576 := by
  unfold divM; split
  · unfold divGo; rw [divAt_length]; exact hn
  · simp

theorem divL_bd {ts : List T3} (h : DivH ts) (W : Int) : 0 ≤ divL ts W ∧ (divL ts W).toNat ≤ ts.length := by
  have := left_bd (w := W) (fun t ht => (h.mem t ht).2.2.1) h.one
  unfold divL; omega

theorem fls_get (W : Int) (ts : List T3) (k : Nat) (h : k < ts.length) : (flsL W ts).getD k 0 = W * (ts.getD k default).2.1 / (ts.getD k default).2.2 := by
  simp [flsL, List.getD_eq_getElem?_getD, h]
theorem rst_get (W : Int) (ts : List T3) (k : Nat) (h : k < ts.length) : (rstL W ts).getD k 0 = W * (ts.getD k default).2.1 % (ts.getD k default).2.2 := by
  simp [rstL, List.getD_eq_getElem?_getD, h]
theorem bt_get (ts : List T3) (k : Nat) (h : k < ts.length) : btD ts (k : Int) = (ts.getD k default).2.2 := by
  simp [btD, List.getD_eq_getElem?_getD, h]
theorem fls_step (W : Int) (ts : List T3) (k : Nat) (h : k < ts.length) : (flsL W ts).take (k + 1) = (flsL W ts).take k ++ [W * (ts.getD k default).2.1 / (ts.getD k default).2.2] := by
  rw [List.take_add_one]; congr 1
  simp [flsL, List.getD_eq_getElem?_getD, h]
theorem rst_step (W : Int) (ts : List T3) (k : Nat) (h : k < ts.length) : (rstL W ts).take (k + 1) = (rstL W ts).take k ++ [W * (ts.getD k default).2.1 % (ts.getD k default).2.2] := by
  rw [List.take_add_one]; congr 1
  simp [rstL, List.getD_eq_getElem?_getD, h]

theorem div_go {ts : List T3} (h : DivH ts) (W : Int) {t : Nat} (g1 : t < ts.length) :
    ∃ i : Nat, (divR ts W).getD t 0 = (i : Int) ∧ i < ts.length ∧ (divAt ts W t).getD i 0 = (flsL W ts).getD i 0 ∧ divAt ts W (t + 1) = (divAt ts W t).set i ((flsL W ts).getD i 0 + 1) ∧ rsAt ts W (t + 1) = (rsAt ts W t).set i (-1) := by
  obtain ⟨i0, i1⟩ := rank_getD_in (gt := gtD ts W) g1
  have hnew := rank_new (gtD_weak h W) g1
  have hpl := divR_length ts W
  change 0 ≤ (divR ts W).getD t 0 at i0
  change (divR ts W).getD t 0 < _ at i1
  change ∀ i ∈ (divR ts W).take t, i.toNat ≠ ((divR ts W).getD t 0).toNat at hnew
  have hsn : (divR ts W).take (t + 1) = (divR ts W).take t ++ [(divR ts W).getD t 0] := by
    rw [List.take_add_one]; congr 1; simp [List.getD_eq_getElem?_getD, hpl, g1]
  obtain ⟨i, hi⟩ := Int.eq_ofNat_of_zero_le i0
  have hi' : ((divR ts W).getD t 0).toNat = i := by omega
  have e1 : (divAt ts W t).getD i 0 = (flsL W ts).getD i 0 := setsM_out _ i _ _ fun j hj => by rw [← hi']; exact hnew j hj
  refine ⟨i, hi, by omega, e1, ?_, ?_⟩
  · unfold divAt
    rw [hsn, setsM_snoc, hi']
    show _ = (setsM _ _ _).set i _
    rw [show (setsM (· + 1) (flsL W ts) ((divR ts W).take t)).getD i 0 = _ from e1]
  · unfold rsAt
    rw [hsn, setsM_snoc, hi']

def okD (ts : List T3) (W : Int) (t : Nat) (z : Int) : Bool := decide (0 ≤ (rsAt ts W t).getD z.toNat 0)
def bestD (ts : List T3) (W : Int) (t k : Nat) : Int := bestM (gtD ts W) (okD ts W t) k

theorem okD_rest {ts : List T3} {W : Int} {t : Nat} {z : Int} (h : okD ts W t z = true) (hz : z.toNat < ts.length) : (rsAt ts W t).getD z.toNat 0 = keyM (rstL W ts) z := by
  simp only [okD, decide_eq_true_eq] at h
  rcases setsM_or (-1) z.toNat ((divR ts W).take t) (rstL W ts) with e | e | e
  · exact e
  · unfold rsAt at h; rw [e] at h; omega
  · simp [rstL] at e; omega

theorem bestD_bd {ts : List T3} (h : DivH ts) (W : Int) (t k : Nat) (hk : k ≤ ts.length) : -1 ≤ bestD ts W t k ∧ bestD ts W t k < ts.length ∧ (0 ≤ bestD ts W t k → okD ts W t (bestD ts W t k) = true) := by
  have := bestM_spec (gtD_weak h W) (okD ts W t) k
  change (bestD ts W t k = -1 ∧ _) ∨ (0 ≤ bestD ts W t k ∧ bestD ts W t k < k ∧ okD ts W t (bestD ts W t k) = true ∧ _) at this
  rcases this with ⟨h, _⟩ | ⟨h1, h2, h3, _⟩
  · omega
  · exact ⟨by omega, by omega, fun _ => h3⟩

theorem bestD_step {ts : List T3} (h : DivH ts) {W : Int} {t k : Nat} (hk : k < ts.length) :
    bestD ts W t (k + 1) = if 0 ≤ (rsAt ts W t).getD k 0 ∧ (bestD ts W t k < 0 ∨ (rsAt ts W t).getD (bestD ts W t k).toNat 0 * btD ts k < (rsAt ts W t).getD k 0 * btD ts (bestD ts W t k)) then (k : Int) else bestD ts W t k := by
  have hb := bestD_bd h W t k (by omega)
  have hs : bestD ts W t (k + 1) = if okD ts W t k = true ∧ (bestD ts W t k < 0 ∨ gtD ts W k (bestD ts W t k) = true) then (k : Int) else bestD ts W t k := rfl
  rw [hs]
  have hok : okD ts W t (k : Int) = true ↔ 0 ≤ (rsAt ts W t).getD k 0 := by
    simp [okD, List.getD_eq_getElem?_getD]
  by_cases h1 : okD ts W t (k : Int) = true
  · have h2 := hok.1 h1
    have hr := okD_rest h1 (by simpa using hk)
    simp only [Int.toNat_natCast] at hr
    by_cases h4 : bestD ts W t k < 0
    · rw [if_pos ⟨h1, .inl h4⟩, if_pos ⟨h2, .inl h4⟩]
    · have h5 := okD_rest (hb.2.2 (by omega)) (by omega)
      by_cases h6 : gtD ts W k (bestD ts W t k) = true
      · rw [if_pos ⟨h1, .inr h6⟩, if_pos ⟨h2, .inr (by rw [h5, hr]; simpa [gtD] using h6)⟩]
      · rw [if_neg (by rintro ⟨_, h | h⟩ <;> contradiction), if_neg]
        rintro ⟨_, h | h⟩
        · exact h4 h
        · rw [h5, hr] at h; exact h6 (by simpa [gtD] using h)
  · rw [if_neg (fun h => h1 h.1), if_neg (fun h => h1 (hok.2 h.1))]

theorem rst_nonneg {ts : List T3} (h : DivH ts) (W : Int) (i : Nat) (hi : i < ts.length) : 0 ≤ (rstL W ts).getD i 0 := by
  rw [rst_get W ts i hi]
  have hm := h.mem (ts.getD i default) (by simp [List.getD_eq_getElem?_getD, hi])
  exact Int.emod_nonneg _ (by omega)

theorem bestD_end {ts : List T3} (h : DivH ts) (W : Int) {t i : Nat} (g1 : t < ts.length) (hi : (divR ts W).getD t 0 = (i : Int)) : bestD ts W t ts.length = (i : Int) := by
  have hnew := rank_new (gtD_weak h W) g1
  obtain ⟨i0, i1⟩ := rank_getD_in (gt := gtD ts W) g1
  change ∀ i ∈ (divR ts W).take t, i.toNat ≠ ((divR ts W).getD t 0).toNat at hnew
  change (divR ts W).getD t 0 < _ at i1
  have hi' : ((divR ts W).getD t 0).toNat = i := by omega
  have hin : i < ts.length := by omega
  have := best_rank (gtD_weak h W) (okD ts W t) ts.length t g1 (fun j hj => ?_) ?_
  · show bestM _ _ _ = _
    rw [this]; exact hi
  · obtain ⟨j0, j1⟩ := rank_mem.1 (List.mem_of_mem_take hj)
    have : (rsAt ts W t).getD j.toNat 0 = -1 := setsM_in (-1) j.toNat _ _ (by simp [rstL]; omega) ⟨j, hj, rfl⟩
    unfold okD
    rw [this]; rfl
  · show okD ts W t ((divR ts W).getD t 0) = true
    have hr : (rsAt ts W t).getD i 0 = (rstL W ts).getD i 0 :=
      setsM_out _ i _ _ fun j hj => by rw [← hi']; exact hnew j hj
    unfold okD
    rw [hi', hr]
    simp only [decide_eq_true_eq]
    exact rst_nonneg h W i hin

end Go.Proofs.Ytjcoajaoofjjmaa
