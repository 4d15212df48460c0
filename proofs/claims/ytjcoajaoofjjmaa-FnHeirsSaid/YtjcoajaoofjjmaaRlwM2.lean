/- What the laws on rights and heirs ask, in plain Lean. -/
import Derived.Test.YtjcoajaoofjjmaaRlwM
import Derived.Test.YtjcoajaoofjjmaaRgt3
import Derived.Test.YtjcoajaoofjjmaaRgt4
import Derived.Test.YtjcoajaoofjjmaaRgt5
namespace Go.Proofs.Ytjcoajaoofjjmaa
set_option linter.unusedSimpArgs false
set_option linter.unusedVariables false
set_option linter.unnecessarySimpa false

theorem Drawn.d1024 {D : Int} {n : Nat} {ts : List T3} (h : Drawn D n ts) (hD : D ∣ 1024) : ∀ t ∈ ts, okU 1024 t :=
  fun t ht => ⟨(h.un t ht).1, Int.dvd_trans (h.un t ht).2 hD⟩

theorem un_split {a b x : Int} {m : Int × Int} (h : isU 1024 a b x) (ha : a ≠ 0) (k : Int) (hk : 1 ≤ k) (hs : redM a (b * k) = some m) : isU (k * 1024) m.1 m.2 x ∧ m.1 ≠ 0 := by
  have e := frOk_iff.1 h.1
  obtain ⟨e1, hf⟩ := redM_eq hs (Int.mul_pos (by omega) (by omega))
  have e2 := h.2
  have hi : isU (k * 1024) m.1 m.2 x := by
    refine ⟨hf, ?_⟩
    apply Int.eq_of_mul_eq_mul_right (a := b) (by omega)
    have a1 : m.1 * (k * 1024) * b = m.1 * (b * k) * 1024 := by grind
    rw [a1, e1]
    have a2 : m.2 * a * 1024 = m.2 * (a * 1024) := by grind
    rw [a2, e2]; grind
  exact ⟨hi, hi.top (h.pos (by omega) ha)⟩
theorem un_some {a b x : Int} (h : isU 1024 a b x) (k : Int) (hk : 1 ≤ k) (hk' : k ≤ 3) (hx : x ≤ 1024) : ∃ m, redM a (b * k) = some m := by
  have e := frOk_iff.1 h.1
  obtain ⟨s, hs⟩ := red_some (x := x) (D := k * 1024) (h.nonneg (by omega)) (by omega) (by omega) (by omega)
  refine ⟨s, ?_⟩
  rw [← hs]
  refine redM_same e.2.2.1 (Int.mul_pos (by omega) (by omega)) (h.nonneg (by omega)) (by omega) ?_
  have e2 := h.2
  have a1 : a * (k * 1024) = (a * 1024) * k := by grind
  rw [a1, e2, Int.mul_assoc]

theorem mem_of_set {ts : List T3} {k : Nat} {x t : T3} (h : t ∈ ts.set k x) : t ∈ ts ∨ t = x := List.mem_or_eq_of_mem_set h
theorem getD_set_self {ts : List T3} {k : Nat} {x : T3} (h : k < ts.length) : (ts.set k x).getD k default = x := by
  simp [List.getD_eq_getElem?_getD, h]
theorem set_back {ts : List T3} {k : Nat} (x : T3) (h : k < ts.length) : (ts.set k x).set k (ts.getD k default) = ts := by
  rw [List.set_set]
  apply List.ext_getElem?
  intro i
  rw [List.getElem?_set]
  split
  · rename_i e; subst e
    simp [List.getD_eq_getElem?_getD, h]
  · rfl
theorem sum_part {D : Int} (hD : 0 < D) : ∀ {ts : List T3}, (∀ t ∈ ts, okU D t) → ∀ t ∈ ts, unU D t ≤ sumU D ts
  | [], _, t, ht => by cases ht
  | u :: r, h, t, ht => by
    have h1 := (okU_is (h u (by simp))).nonneg hD
    have h2 := sumU_nonneg hD (ts := r) (fun v hv => h v (by simp [hv]))
    have e : sumU D (u :: r) = unU D u + sumU D r := by simp [sumU]
    rcases List.mem_cons.1 ht with rfl | ht
    · omega
    · have := sum_part hD (ts := r) (fun v hv => h v (by simp [hv])) t ht; omega

def soldL (ts : List T3) (k : Nat) (m : Int × Int) : List T3 := ts.set k ((ts.getD k default).1, m.1, m.2) ++ [(500, m.1, m.2)]

structure HalfOk (ts : List T3) (k : Nat) (m : Int × Int) : Prop where
  sell : sellM ts (ts.getD k default).1 500 1 2 = some (soldL ts k m)
  ok : rightsM (soldL ts k m) = true
  back : sellM (soldL ts k m) 500 (ts.getD k default).1 1 1 = some ts

theorem half_ok {ts : List T3} {k : Nat} (hR : rightsM ts = true) (ho : ∀ t ∈ ts, okU 1024 t) (hw : ∀ t ∈ ts, t.1 ≤ 12) (hl : ts.length ≤ 6) (hk : k < ts.length) : ∃ m, HalfOk ts k m := by
  have hsum := sum_of_rights (D := 1024) (by omega) hR ho
  have hmem := rights_mem hR
  have hs0 := srt_of_rgA (rights_parts hR).2.2.1
  have hkm : ts.getD k default ∈ ts := getD_mem3' hk
  have hid : idxO (ts.getD k default).1 ts = k := idxO_at hs0 hk
  have hx := okU_is (ho _ hkm)
  have hxb := sum_part (by omega) ho _ hkm
  rw [hsum] at hxb
  obtain ⟨q1, q2, q3, q4⟩ := hmem _ hkm
  have hown := hw _ hkm
  obtain ⟨m, hm⟩ := un_some hx 2 (by omega) (by omega) hxb
  obtain ⟨hmi, hm0⟩ := un_split hx (by omega) 2 (by omega) hm
  generalize hun : unU 1024 (ts.getD k default) = x at *
  have hun2 : unU 2048 (ts.getD k default) = 2 * x := by
    have := (okU_mul (k := 2) (ho _ hkm)).2
    rw [hun] at this; exact this
  have hsum2 : sumU 2048 ts = 2048 := by
    have := sumU_mul (k := 2) ho
    rw [hsum] at this; exact this
  have ho2 : ∀ t ∈ ts, okU 2048 t := fun t ht => (okU_mul (k := 2) (ho t ht)).1
  have hmi' : isU 2048 m.1 m.2 x := hmi
  generalize hto : ts.getD k default = t at *
  obtain ⟨o, a, b⟩ := t
  simp only at q1 q2 q3 q4 hown hm hid hx
  obtain ⟨m0, m1⟩ := m
  simp only at hm0 hmi' hmi
  have hus : ∀ t ∈ ts.set k (o, m0, m1), t.1 ≤ 12 ∧ 1 ≤ t.1 ∧ t.1 ≤ 999 ∧ frOk t.2.1 t.2.2 = true ∧ t.2.1 ≠ 0 ∧ okU 2048 t := by
    intro t ht
    rcases mem_of_set ht with h | h
    · obtain ⟨p1, p2, p3, p4⟩ := hmem t h
      exact ⟨hw t h, p1, p2, p3, by omega, ho2 t h⟩
    · subst h
      exact ⟨hown, q1, q2, hmi.1, hm0, (isU_un hmi').1⟩
  have hsr : srt 0 (ts.set k (o, m0, m1)) := srt_set k _ hs0 hk (by rw [hto])
  have hsL : soldL ts k (m0, m1) = ts.set k (o, m0, m1) ++ [(500, m0, m1)] := by unfold soldL; rw [hto]
  have hok : rightsM (soldL ts k (m0, m1)) = true := by
    rw [hsL]
    have hall : ∀ t ∈ ts.set k (o, m0, m1) ++ [((500, m0, m1) : T3)], 1 ≤ t.1 ∧ t.1 ≤ 999 ∧ frOk t.2.1 t.2.2 = true ∧ t.2.1 ≠ 0 ∧ okU 2048 t := by
      intro t ht
      rcases List.mem_append.1 ht with h | h
      · exact (hus t h).2
      · simp at h; subst h
        exact ⟨by simp, by simp, hmi.1, hm0, (isU_un hmi').1⟩
    refine rights_of_sum (D := 2048) (by omega) (by omega) (by simp) (by simp; omega) ?_ (fun t ht => (hall t ht).2.2.2.2) ?_
    · exact rgA_of_srt (srt_app hsr (fun t ht => by have := (hus t ht).1; simp only; omega) (by simp)) (fun t ht => ⟨(hall t ht).1, (hall t ht).2.1, (hall t ht).2.2.1, (hall t ht).2.2.2.1⟩)
    · rw [sumU_app, sumU_one, sumU_set _ _ _ _ hk, hto, hsum2, hun2, (isU_un (o := o) hmi').2, (isU_un (o := 500) hmi').2]
      omega
  have ht1 : timesM a b 1 2 = some (m0, m1) := by
    unfold timesM
    rw [q3, show frOk 1 2 = true by decide, Int.mul_one]
    exact hm
  have htf : timesM m0 m1 1 1 = some (m0, m1) := by
    unfold timesM
    rw [hmi.1, show frOk 1 1 = true by decide, Int.mul_one, Int.mul_one]
    exact redM_self hmi.1
  have htz : timesM m0 m1 0 1 = some (0, 1) := by
    have e := frOk_iff.1 hmi.1
    unfold timesM
    rw [hmi.1, show frOk 0 1 = true by decide, Int.mul_zero, Int.mul_one]
    simp only [Bool.and_self, if_true]
    rw [← redM_self (show frOk 0 1 = true by decide)]
    exact redM_same (by omega) (by omega) (by omega) (by omega) (by simp)
  refine ⟨(m0, m1), ?_, hok, ?_⟩
  · rw [hto]
    have hso : sellOk ts o 500 1 2 = true := by
      unfold sellOk
      rw [hR, show decide (o ≠ 500) = true by simp; omega]
      decide
    unfold sellM
    rw [if_pos ⟨hso, by rw [hid]; exact hk⟩, hid, hto]
    simp only
    rw [ht1, show (2 : Int) - 1 = 1 from rfl, ht1]
    simp only
    have e1 : sellOut ts k (m0, m1) = ts.set k (o, m0, m1) := by unfold sellOut; rw [if_neg hm0, hto]
    rw [e1]
    unfold sellTo
    rw [if_neg hm0, addSh_end (fun t ht => by have := (hus t ht).1; omega), ← hsL]
    unfold okM
    simp only
    rw [if_pos hok]
  · rw [hto]
    have hne : ∀ t ∈ ts.set k (o, m0, m1), t.1 ≠ 500 := fun t ht => by have := (hus t ht).1; omega
    have hi5 : idxO 500 (soldL ts k (m0, m1)) = (ts.set k (o, m0, m1)).length := by rw [hsL]; exact idxO_app hne
    have hg5 : (soldL ts k (m0, m1)).getD (ts.set k (o, m0, m1)).length default = (500, m0, m1) := by
      rw [hsL, List.getD_eq_getElem?_getD, List.getElem?_append_right (Nat.le_refl _)]; simp
    have hso : sellOk (soldL ts k (m0, m1)) 500 o 1 1 = true := by
      unfold sellOk
      rw [hok, show decide ((500 : Int) ≠ o) = true by simp; omega, inB_iff.2 ⟨q1, q2⟩]
      decide
    have hlen : (soldL ts k (m0, m1)).length = (ts.set k (o, m0, m1)).length + 1 := by rw [hsL]; simp
    unfold sellM
    rw [if_pos ⟨hso, by rw [hi5, hlen]; omega⟩, hi5, hg5]
    simp only
    rw [htf, show (1 : Int) - 1 = 0 from rfl, htz]
    simp only
    have e1 : sellOut (soldL ts k (m0, m1)) (ts.set k (o, m0, m1)).length (0, 1) = ts.set k (o, m0, m1) := by
      rw [hsL, sellOut_here _ _ _ _ rfl, if_pos rfl]
    rw [e1]
    unfold sellTo
    rw [if_neg hm0]
    have hks : k < (ts.set k (o, m0, m1)).length := by simpa using hk
    have hio : idxO o (ts.set k (o, m0, m1)) = k := by
      have := idxO_at hsr hks
      rwa [getD_set_self hk] at this
    have hat : atM o (ts.set k (o, m0, m1)) = k := (srt_idx hsr (by rw [hio]; exact hks)).trans hio
    have hx3 : a * 2048 = (x + x) * b := by
      have h1 := hx.2
      have e : a * 2048 = 2 * (a * 1024) := by omega
      rw [e, h1]; grind
    have hx2 : isU 2048 a b (x + x) := ⟨hx.1, hx3⟩
    have hadd : addM m0 m1 m0 m1 = some (a, b) := by rw [hmi'.add hmi' (by omega), hx2.red (by omega)]
    unfold addShM
    rw [hat, getD_set_self hk, if_pos ⟨hks, rfl⟩]
    simp only
    rw [hadd]
    simp only [Option.map_some]
    have e2 : (ts.set k (o, m0, m1)).set k (o, a, b) = ts := by rw [← hto]; exact set_back _ hk
    rw [e2]
    unfold okM
    simp only
    rw [if_pos hR]

/-! Heirs. -/
def heirsL (ts : List T3) (k : Nat) (s : Int × Int) : List T3 := ts.eraseIdx k ++ [(301, s.1, s.2), (302, s.1, s.2), (303, s.1, s.2)]

structure HeirOk (ts : List T3) (k : Nat) (s : Int × Int) : Prop where
  inh : inhM ts (ts.getD k default).1 [301, 302, 303] = some (heirsL ts k s)
  part : splitM (ts.getD k default).2.1 (ts.getD k default).2.2 3 = some s
  ok : rightsM (heirsL ts k s) = true
  own : ∀ t ∈ ts.eraseIdx k, 1 ≤ t.1 ∧ t.1 ≤ 12 ∧ t.1 ≠ (ts.getD k default).1

theorem mem_erase_at : ∀ {ts : List T3} {k : Nat} {t : T3}, t ∈ ts.eraseIdx k → ∃ j, j < ts.length ∧ j ≠ k ∧ t = ts.getD j default
  | [], k, t, h => by simp at h
  | u :: r, 0, t, h => by
    have h' : t ∈ r := by simpa using h
    obtain ⟨i, hi, e⟩ := List.getElem_of_mem h'
    exact ⟨i + 1, by simpa using hi, by omega, by simp [List.getD_eq_getElem?_getD, hi, e]⟩
  | u :: r, k + 1, t, h => by
    have h' : t = u ∨ t ∈ r.eraseIdx k := by simpa using h
    rcases h' with h' | h'
    · exact ⟨0, by simp, by omega, by simp [h']⟩
    · obtain ⟨j, h1, h2, h3⟩ := mem_erase_at h'
      exact ⟨j + 1, by simpa using h1, by omega, by simpa using h3⟩

theorem inh_self (ts : List T3) (o : Int) : inhM ts o [o] = none := by
  unfold inhM
  split
  · split
    · simp [heirL, okM]
    · rfl
  · rfl

theorem heir_ok {ts : List T3} {k : Nat} (hR : rightsM ts = true) (ho : ∀ t ∈ ts, okU 1024 t) (hw : ∀ t ∈ ts, t.1 ≤ 12) (hl : ts.length ≤ 6) (hk : k < ts.length) : ∃ s, HeirOk ts k s := by
  have hsum := sum_of_rights (D := 1024) (by omega) hR ho
  have hmem := rights_mem hR
  have hs0 := srt_of_rgA (rights_parts hR).2.2.1
  have hkm : ts.getD k default ∈ ts := getD_mem3' hk
  have hid : idxO (ts.getD k default).1 ts = k := idxO_at hs0 hk
  have hx := okU_is (ho _ hkm)
  have hxb := sum_part (by omega) ho _ hkm
  rw [hsum] at hxb
  obtain ⟨q1, q2, q3, q4⟩ := hmem _ hkm
  have hown := hw _ hkm
  obtain ⟨m, hm⟩ := un_some hx 3 (by omega) (by omega) hxb
  obtain ⟨hmi, hm0⟩ := un_split hx (by omega) 3 (by omega) hm
  generalize hun : unU 1024 (ts.getD k default) = x at *
  have hun2 : unU 3072 (ts.getD k default) = 3 * x := by
    have := (okU_mul (k := 3) (ho _ hkm)).2
    rw [hun] at this; exact this
  have hsum2 : sumU 3072 ts = 3072 := by
    have := sumU_mul (k := 3) ho
    rw [hsum] at this; exact this
  have ho2 : ∀ t ∈ ts, okU 3072 t := fun t ht => (okU_mul (k := 3) (ho t ht)).1
  have hmi' : isU 3072 m.1 m.2 x := hmi
  have hE : ∀ t ∈ ts.eraseIdx k, 1 ≤ t.1 ∧ t.1 ≤ 12 ∧ t.1 ≠ (ts.getD k default).1 := by
    intro t ht
    obtain ⟨j, h1, h2, rfl⟩ := mem_erase_at ht
    refine ⟨(hmem _ (getD_mem3' h1)).1, hw _ (getD_mem3' h1), ?_⟩
    rcases Nat.lt_or_ge j k with h | h
    · exact idxO_ne j (by rw [hid]; exact h)
    · exact srt_past j hs0 (by rw [hid]; omega) h1
  have hsplit : splitM (ts.getD k default).2.1 (ts.getD k default).2.2 3 = some m := by
    unfold splitM
    rw [q3]; exact hm
  have hElen : (ts.eraseIdx k).length = ts.length - 1 := List.length_eraseIdx_of_lt hk
  have hall : ∀ t ∈ heirsL ts k m, 1 ≤ t.1 ∧ t.1 ≤ 999 ∧ frOk t.2.1 t.2.2 = true ∧ t.2.1 ≠ 0 ∧ okU 3072 t := by
    intro t ht
    rcases List.mem_append.1 ht with h | h
    · have h' := List.mem_of_mem_eraseIdx h
      obtain ⟨p1, p2, p3, p4⟩ := hmem t h'
      exact ⟨p1, p2, p3, by omega, ho2 t h'⟩
    · simp at h
      rcases h with h | h | h <;> subst h <;> exact ⟨by simp, by simp, hmi.1, hm0, (isU_un hmi').1⟩
  have happ : heirsL ts k m = ((ts.eraseIdx k ++ [(301, m.1, m.2)]) ++ [(302, m.1, m.2)]) ++ [(303, m.1, m.2)] := by simp [heirsL]
  have l1 : ∀ t ∈ ts.eraseIdx k, t.1 < 301 := fun t ht => by have := (hE t ht).2.1; omega
  have l2 : ∀ t ∈ ts.eraseIdx k ++ [((301, m.1, m.2) : T3)], t.1 < 302 := fun t ht => by
    rcases List.mem_append.1 ht with h | h
    · have := l1 t h; omega
    · simp at h; subst h; simp
  have l3 : ∀ t ∈ (ts.eraseIdx k ++ [((301, m.1, m.2) : T3)]) ++ [((302, m.1, m.2) : T3)], t.1 < 303 := fun t ht => by
    rcases List.mem_append.1 ht with h | h
    · have := l2 t h; omega
    · simp at h; subst h; simp
  have hok : rightsM (heirsL ts k m) = true := by
    refine rights_of_sum (D := 3072) (by omega) (by omega) (by simp [heirsL]) (by simp [heirsL, hElen]; omega) ?_ (fun t ht => (hall t ht).2.2.2.2) ?_
    · refine rgA_of_srt ?_ (fun t ht => ⟨(hall t ht).1, (hall t ht).2.1, (hall t ht).2.2.1, (hall t ht).2.2.2.1⟩)
      rw [happ]
      exact srt_app (srt_app (srt_app (srt_erase k hs0) l1 (by simp)) l2 (by simp)) l3 (by simp)
    · rw [happ, sumU_app, sumU_app, sumU_app, sumU_one, sumU_one, sumU_one, sumU_erase _ _ _ hk, hsum2, hun2, (isU_un (o := 301) hmi').2, (isU_un (o := 302) hmi').2, (isU_un (o := 303) hmi').2]
      omega
  refine ⟨m, ?_, hsplit, hok, hE⟩
  unfold inhM
  rw [hR]
  rw [if_pos ⟨by decide, by rw [hid]; exact hk⟩, hid, show (([301, 302, 303] : List Int).length : Int) = 3 from rfl, hsplit]
  simp only
  generalize (ts.getD k default).1 = o at *
  have n1 : decide ((301 : Int) ≠ o) = true := by simp; omega
  have n2 : decide ((302 : Int) ≠ o) = true := by simp; omega
  have n3 : decide ((303 : Int) ≠ o) = true := by simp; omega
  have b1 : inB 301 1 999 = true := by decide
  have b2 : inB 302 1 999 = true := by decide
  have b3 : inB 303 1 999 = true := by decide
  have c1 : decide ((0 : Int) < 301) = true := by decide
  have c2 : decide ((301 : Int) < 302) = true := by decide
  have c3 : decide ((302 : Int) < 303) = true := by decide
  simp only [heirL]
  rw [n1, n2, n3, b1, b2, b3, c1, c2, c3]
  simp only [Bool.and_self, if_true]
  rw [addSh_end l1]
  simp only
  rw [addSh_end l2]
  simp only
  rw [addSh_end l3]
  simp only
  rw [← happ]
  unfold okM
  simp only
  rw [if_pos hok]

/-! The common bottom. -/
theorem gcd_mul_dvd {n b D : Int} (hn : 1 ≤ n) (hb : 1 ≤ b) (h1 : n ∣ D) (h2 : b ∣ D) : n / (Int.gcd n b : Int) * b ∣ D ∧ n ∣ n / (Int.gcd n b : Int) * b ∧ b ∣ n / (Int.gcd n b : Int) * b := by
  have e : n / (Int.gcd n b : Int) * b = (Int.lcm n b : Int) := by
    have g0 := gcd_pos n b (by omega)
    have h := Int.gcd_mul_lcm n b
    have h' : (Int.gcd n b : Int) * (Int.lcm n b : Int) = n * b := by
      have := congrArg (fun x : Nat => (x : Int)) h
      simp only [Int.natCast_mul] at this
      rw [this, Int.natAbs_of_nonneg (by omega), Int.natAbs_of_nonneg (by omega)]
    obtain ⟨c, hc⟩ : (Int.gcd n b : Int) ∣ n := Int.gcd_dvd_left ..
    apply Int.eq_of_mul_eq_mul_left (a := (Int.gcd n b : Int)) (by omega)
    rw [h', ← Int.mul_assoc, Int.mul_ediv_cancel' ⟨c, hc⟩]
  rw [e]
  exact ⟨Int.coe_lcm_dvd h1 h2, Int.dvd_lcm_left .., Int.dvd_lcm_right ..⟩

theorem cbL_dvd : ∀ {ts : List T3} {n : Int}, 1 ≤ n → n ∣ 1024 → (∀ t ∈ ts, okU 1024 t) → 1 ≤ cbL n ts ∧ cbL n ts ∣ 1024 ∧ n ∣ cbL n ts ∧ ∀ t ∈ ts, t.2.2 ∣ cbL n ts
  | [], n, h1, h2, _ => ⟨h1, h2, Int.dvd_refl _, fun t ht => by cases ht⟩
  | t :: r, n, h1, h2, h => by
    have ht := h t (by simp)
    have e := frOk_iff.1 ht.1
    have hn := Int.le_of_dvd (by omega) h2
    obtain ⟨d1, d2, d3⟩ := gcd_mul_dvd h1 e.1 h2 ht.2
    have hb := cb_bd h1 (by omega) e.1 e.2.1
    have hle := Int.le_of_dvd (by omega) d1
    obtain ⟨i1, i2, i3, i4⟩ := cbL_dvd (ts := r) hb.1 d1 (fun u hu => h u (by simp [hu]))
    simp only [cbL]
    rw [if_neg (by omega)]
    refine ⟨i1, i2, Int.dvd_trans d2 i3, fun u hu => ?_⟩
    rcases List.mem_cons.1 hu with rfl | hu
    · exact Int.dvd_trans d3 i3
    · exact i4 u hu

structure BotOk (ts : List T3) (N : Int) : Prop where
  eq : bottomM ts = N
  pos : 1 ≤ N
  le : N ≤ 1024
  parts : partsM ts = ts.map (unU N)
  sum : sumU N ts = N
  each : ∀ t ∈ ts, unU N t * t.2.2 = N * t.2.1 ∧ 0 ≤ unU N t ∧ unU N t ≤ 1024

theorem bot_ok {ts : List T3} (hR : rightsM ts = true) (ho : ∀ t ∈ ts, okU 1024 t) : ∃ N, BotOk ts N := by
  obtain ⟨b1, b2, _, b4⟩ := cbL_dvd (n := 1) (ts := ts) (by omega) (by decide) ho
  have e : bottomM ts = cbL 1 ts := by unfold bottomM; rw [if_pos hR]
  have hu : ∀ t ∈ ts, okU (cbL 1 ts) t := fun t ht => ⟨(ho t ht).1, b4 t ht⟩
  have hle := Int.le_of_dvd (by omega) b2
  have hs := sum_of_rights (by omega) hR hu
  refine ⟨cbL 1 ts, e, b1, hle, ?_, hs, fun t ht => ?_⟩
  · unfold partsM
    rw [e, if_neg (by omega)]
    rfl
  · have h := okU_is (hu t ht)
    have h2 := sum_part (by omega) hu t ht
    exact ⟨by rw [← h.2, Int.mul_comm], h.nonneg (by omega), by omega⟩

/-! The smallest share, the largest owner. -/
theorem isU.cmp {D a b x c d y : Int} (h : isU D a b x) (h' : isU D c d y) (hD : 0 < D) : cmpM a b c d = if x < y then -1 else if y < x then 1 else 0 := by
  have e := frOk_iff.1 h.1
  have e' := frOk_iff.1 h'.1
  have e2 := h.2
  have e3 := h'.2
  have hbd : 0 < b * d := Int.mul_pos (by omega) (by omega)
  have k1 : a * d * D = x * (b * d) := by grind
  have k2 : c * b * D = y * (b * d) := by grind
  have lt_iff : ∀ u v p q : Int, u * D = p * (b * d) → v * D = q * (b * d) → (u < v ↔ p < q) := by
    intro u v p q h1 h2
    constructor
    · intro h
      have := Int.mul_lt_mul_of_pos_right h hD
      rw [h1, h2] at this
      exact Int.lt_of_mul_lt_mul_right this (Int.le_of_lt hbd)
    · intro h
      have := Int.mul_lt_mul_of_pos_right h hbd
      rw [← h1, ← h2] at this
      exact Int.lt_of_mul_lt_mul_right this (Int.le_of_lt hD)
  unfold cmpM
  rw [h.1, h'.1]
  simp only [Bool.and_self, if_true]
  simp only [lt_iff _ _ _ _ k1 k2, lt_iff _ _ _ _ k2 k1]

theorem smL_le {D : Int} (hD : 0 < D) : ∀ {ts : List T3} {p q x : Int}, isU D p q x → (∀ t ∈ ts, okU D t) → ∃ z, isU D (smL p q ts).1 (smL p q ts).2 z ∧ z ≤ x ∧ ∀ t ∈ ts, z ≤ unU D t
  | [], p, q, x, h, _ => ⟨x, h, Int.le_refl _, fun t ht => by cases ht⟩
  | t :: r, p, q, x, h, ho => by
    have ht := okU_is (ho t (by simp))
    have hr : ∀ u ∈ r, okU D u := fun u hu => ho u (by simp [hu])
    simp only [smL]
    rw [ht.cmp h hD]
    by_cases hlt : unU D t < x
    · rw [if_pos hlt, if_pos (by omega)]
      obtain ⟨z, z1, z2, z3⟩ := smL_le hD ht hr
      refine ⟨z, z1, by omega, fun u hu => ?_⟩
      rcases List.mem_cons.1 hu with rfl | hu
      · exact z2
      · exact z3 u hu
    · rw [if_neg hlt, if_neg (by split <;> omega)]
      obtain ⟨z, z1, z2, z3⟩ := smL_le hD h hr
      refine ⟨z, z1, z2, fun u hu => ?_⟩
      rcases List.mem_cons.1 hu with rfl | hu
      · omega
      · exact z3 u hu

theorem small_ok {ts : List T3} (hR : rightsM ts = true) (ho : ∀ t ∈ ts, okU 1024 t) : ∃ p q, smallM ts = some (p, q) ∧ ∀ t ∈ ts, cmpM p q t.2.1 t.2.2 ≤ 0 := by
  have hl := (rights_parts hR).1
  have h0 := okU_is (ho _ (getD_mem3' (by omega : 0 < ts.length)))
  obtain ⟨z, z1, _, z3⟩ := smL_le (by omega) h0 ho
  refine ⟨_, _, by unfold smallM; rw [if_pos hR], fun t ht => ?_⟩
  rw [z1.cmp (okU_is (ho t ht)) (by omega)]
  have := z3 t ht
  split
  · omega
  · rw [if_neg (by omega)]; omega

theorem lgL_lt (ts : List T3) : ∀ (m k b : Nat), k + m ≤ ts.length → b < ts.length → lgL ts m k b < ts.length
  | 0, k, b, _, h => h
  | m + 1, k, b, h, hb => by
    simp only [lgL]
    exact lgL_lt ts m (k + 1) _ (by omega) (by split <;> omega)
theorem largest_in {ts : List T3} (hR : rightsM ts = true) : ∃ j, j < ts.length ∧ largestM ts = (ts.getD j default).1 := by
  have hl := (rights_parts hR).1
  exact ⟨_, lgL_lt ts ts.length 0 0 (by omega) (by omega), by unfold largestM; rw [if_pos hR]⟩

/-! Water divided. -/
theorem div_all {ts : List T3} (h : DivH ts) (W : Int) : ∀ t, t ≤ (divL ts W).toNat →
    (divAt ts W t).sum = (flsL W ts).sum + t ∧ (∀ k, k < ts.length → (divAt ts W t).getD k 0 = (flsL W ts).getD k 0 ∨ (divAt ts W t).getD k 0 = (flsL W ts).getD k 0 + 1)
  | 0, _ => by
    have e : divAt ts W 0 = flsL W ts := rfl
    rw [e]
    exact ⟨by simp, fun k hk => .inl rfl⟩
  | t + 1, ht => by
    obtain ⟨g1, g2⟩ := div_all h W t (by omega)
    have hb := (divL_bd h W).2
    obtain ⟨i, e0, hi, e1, e4, _⟩ := div_go h W (t := t) (by omega)
    have hl := divAt_length ts W t
    have sum_set : ∀ (l : List Int) (i : Nat) (v : Int), i < l.length → (l.set i v).sum = l.sum - l.getD i 0 + v := by
      intro l
      induction l with
      | nil => intro i v h; simp at h
      | cons x l ih =>
        intro i v h
        cases i with
        | zero => simp [List.getD_eq_getElem?_getD]; omega
        | succ i =>
          have := ih i v (by simpa using h)
          simp only [List.set_cons_succ, List.sum_cons, List.getD_cons_succ]
          omega
    refine ⟨?_, fun k hk => ?_⟩
    · rw [e4, sum_set _ _ _ (by omega), g1, e1]; simp; omega
    · rw [e4]
      by_cases hik : i = k
      · subst hik
        right
        simp [List.getD_eq_getElem?_getD, hl, hi]
      · have : ((divAt ts W t).set i ((flsL W ts).getD i 0 + 1)).getD k 0 = (divAt ts W t).getD k 0 := by
          simp [List.getD_eq_getElem?_getD, List.getElem?_set, hik]
        rw [this]
        exact g2 k hk

structure DivOk (ts : List T3) (W : Int) (d : List Int) : Prop where
  eq : divM ts W = d
  len : d.length = ts.length
  sum : d.sum = W
  each : ∀ k, k < ts.length → 0 ≤ d.getD k 0 ∧ d.getD k 0 ≤ 1000001 ∧ partM (ts.getD k default).2.1 (ts.getD k default).2.2 W ≤ d.getD k 0 ∧ d.getD k 0 ≤ partM (ts.getD k default).2.1 (ts.getD k default).2.2 W + 1 ∧ partM (ts.getD k default).2.1 (ts.getD k default).2.2 W ≤ 1000000

theorem div_ok {ts : List T3} {W : Int} (hR : rightsM ts = true) (ho : ∀ t ∈ ts, okU 1024 t) (h0 : 0 ≤ W) (h1 : W ≤ 1275) : ∃ d, DivOk ts W d := by
  have DH := divH_of hR
  obtain ⟨g1, g2⟩ := div_all DH W _ (Nat.le_refl _)
  have hL := (divL_bd DH W).1
  have e : divAt ts W (divL ts W).toNat = divGo ts W := rfl
  rw [e] at g1 g2
  have hsum := sum_of_rights (D := 1024) (by omega) hR ho
  refine ⟨divGo ts W, ?_, divAt_length ts W _, ?_, fun k hk => ?_⟩
  · unfold divM
    rw [hR, inB_iff.2 (by omega)]
    rfl
  · rw [g1, Int.toNat_of_nonneg hL]; unfold divL; omega
  · have hm := getD_mem3' hk
    have hi := okU_is (ho _ hm)
    have hf := hi.1
    have hp := sum_part (by omega) ho _ hm
    have hx := hi.nonneg (by omega)
    have ef : (flsL W ts).getD k 0 = W * (ts.getD k default).2.1 / (ts.getD k default).2.2 := fls_get W ts k hk
    have ep : partM (ts.getD k default).2.1 (ts.getD k default).2.2 W = W * (ts.getD k default).2.1 / (ts.getD k default).2.2 := by
      unfold partM
      rw [hf, inB_iff.2 (by omega)]
      rfl
    have hq := frOk_iff.1 hf
    have hmb := mul_bound h0 h1 hq.2.2.1 (show (ts.getD k default).2.1 ≤ 10000 by omega)
    have q0 := Int.ediv_nonneg hmb.1 (show 0 ≤ (ts.getD k default).2.2 by omega)
    have le : (ts.getD k default).2.1 ≤ (ts.getD k default).2.2 := by
      have h2 := hi.2
      apply Int.le_of_mul_le_mul_right (a := 1024) ?_ (by omega)
      rw [h2, Int.mul_comm _ 1024]
      exact Int.mul_le_mul_of_nonneg_right (by omega) (by omega)
    have q1 : W * (ts.getD k default).2.1 / (ts.getD k default).2.2 ≤ W := by
      have h2 : W * (ts.getD k default).2.1 ≤ W * (ts.getD k default).2.2 := Int.mul_le_mul_of_nonneg_left le h0
      have h3 := Int.ediv_le_ediv (show 0 < (ts.getD k default).2.2 by omega) h2
      rwa [Int.mul_ediv_cancel _ (by omega)] at h3
    rw [ep]
    rcases g2 k hk with h | h <;> rw [h, ef] <;> omega

end Go.Proofs.Ytjcoajaoofjjmaa
