/- Cuts as proofs: what the law asks, in plain Lean. -/
import Derived.Test.YteimcbhnjhkkbaaCutO
import Derived.Test.YteimcbhnjhkkbaaGreat
import Derived.Test.YteimcbhnjhkkbaaNeed
namespace Go.Proofs.Yteimcbhnjhkkbaa
set_option linter.unusedSimpArgs false
set_option linter.unusedVariables false
open Go.RowKit

theorem cutL_S (s : Int) : ∀ ts : List T3, cutL s ts = cutS (fun z => memB s z) ts
  | [] => rfl
  | t :: r => by rw [cutL, cutS, cutL_S s r]
theorem cutS_congr {S S' : Int → Bool} : ∀ ts : List T3, (∀ t ∈ ts, S t.1 = S' t.1 ∧ S t.2.1 = S' t.2.1) → cutS S ts = cutS S' ts
  | [], _ => rfl
  | t :: r, h => by
    have ht := h t (List.mem_cons_self ..)
    rw [cutS, cutS, ht.1, ht.2, cutS_congr r (fun u hu => h u (List.mem_cons_of_mem _ hu))]

theorem MaskOk.lt {M : Int} {q : List Int} {n : Nat} (h : MaskOk M q) (hq : ∀ z ∈ q, z < n) : M < 2 ^ n := by
  obtain ⟨m, rfl, h1, h2⟩ := h
  have : m < 2 ^ n := by
    apply Nat.lt_pow_two_of_testBit
    intro i hi
    by_cases h8 : i < 8
    · rw [h2 i h8]
      apply decide_eq_false
      intro hm
      have := hq _ hm
      omega
    · have p : 256 ≤ 2 ^ i := by
        have : 2 ^ 8 ≤ 2 ^ i := Nat.pow_le_pow_right (by omega) (by omega)
        exact this
      rw [Nat.testBit_lt_two_pow (by omega)]
  exact_mod_cast this

theorem isCut_parts {p : Int} {ts : List T3} {s x y : Int} (h : isCutM p ts s x y = true) : netOk p ts = true ∧ 0 ≤ s ∧ s ≤ 2 ^ p.toNat - 1 ∧ memB s x = true ∧ memB s y = false ∧ cutM p ts s = cutL s ts := by
  simp only [isCutM, Bool.and_eq_true, decide_eq_true_eq, Bool.not_eq_true'] at h
  obtain ⟨⟨⟨⟨h1, h2⟩, h3⟩, h4⟩, h5⟩ := h
  unfold cutM at h1 ⊢
  split at h1
  · rename_i hc
    rw [if_pos hc]
    simp only [Bool.and_eq_true] at hc
    have := inB_iff.1 hc.2
    exact ⟨hc.1, this.1, this.2, h4, h5, rfl⟩
  · omega

/-- No cut is narrower than what can go. -/
theorem great_le_cut {p : Int} {ts : List T3} {x y s : Int} (h : twoM p ts x y = true) (hc : isCutM p ts s x y = true) : greatM p ts x y ≤ cutM p ts s := by
  obtain ⟨_, _, _, h4, h5, e⟩ := isCut_parts hc
  obtain ⟨hN, hp⟩ := netP_two h
  have hm := find_most hN
  have hgm : greatM p ts x y = gainL x ts (findL p.toNat ts x y) := by simp only [greatM, h, if_true, findM]
  rw [e, cutL_S, hgm]
  exact most_le hN hm h4 h5

theorem nc_spec {p : Int} {ts : List T3} {x y : Int} : ∀ (m : Nat) (s b : Int), (b < 0 ∨ isCutM p ts b x y = true) →
    (ncL p ts x y m s b < 0 ∨ isCutM p ts (ncL p ts x y m s b) x y = true) ∧ (0 ≤ b → 0 ≤ ncL p ts x y m s b ∧ cutM p ts (ncL p ts x y m s b) ≤ cutM p ts b) ∧
    ∀ z, s ≤ z → z < s + m → isCutM p ts z x y = true → 0 ≤ ncL p ts x y m s b ∧ cutM p ts (ncL p ts x y m s b) ≤ cutM p ts z
  | 0, s, b, hb => ⟨hb, fun h => ⟨h, Int.le_refl _⟩, fun z h1 h2 => by simp at h2; omega⟩
  | m + 1, s, b, hb => by
    unfold ncL
    by_cases hc : (isCutM p ts s x y && (decide (b < 0) || decide (cutM p ts s < cutM p ts b))) = true
    · rw [if_pos hc]
      simp only [Bool.and_eq_true, Bool.or_eq_true, decide_eq_true_eq] at hc
      have hs0 := (isCut_parts hc.1).2.1
      obtain ⟨a, e, f⟩ := nc_spec (p := p) (ts := ts) (x := x) (y := y) m (s + 1) s (.inr hc.1)
      refine ⟨a, fun h => ?_, fun z h1 h2 h3 => ?_⟩
      · have := e hs0
        rcases hc.2 with h4 | h4
        · omega
        · exact ⟨this.1, by omega⟩
      · by_cases hz : z = s
        · subst hz; exact e hs0
        · exact f z (by omega) (by simp at h2; omega) h3
    · rw [if_neg hc]
      obtain ⟨a, e, f⟩ := nc_spec (p := p) (ts := ts) (x := x) (y := y) m (s + 1) b hb
      refine ⟨a, e, fun z h1 h2 h3 => ?_⟩
      by_cases hz : z = s
      · subst hz
        have hb0 : 0 ≤ b ∧ cutM p ts b ≤ cutM p ts z := by
          constructor
          · apply Int.not_lt.1; intro hlt; exact hc (by simp [h3, hlt])
          · apply Int.not_lt.1; intro hlt; exact hc (by simp [h3, hlt])
        have := e hb0.1
        exact ⟨this.1, by omega⟩
      · exact f z (by omega) (by simp at h2; omega) h3

/-- What the law asks. -/
structure CutP (p : Int) (ts : List T3) (x y : Int) : Prop where
  s0 : 0 ≤ narrowM p ts x y
  sw : cutM p ts (narrowM p ts x y) = greatM p ts x y
  sc : isCutM p ts (narrowM p ts x y) x y = true
  c0 : 0 ≤ cutOfM p ts (findM p ts x y) x y
  cw : cutM p ts (cutOfM p ts (findM p ts x y) x y) = greatM p ts x y
  cc : isCutM p ts (cutOfM p ts (findM p ts x y) x y) x y = true
  pc : provesM p ts (findM p ts x y) (cutOfM p ts (findM p ts x y) x y) x y = true
  ps : provesM p ts (findM p ts x y) (narrowM p ts x y) x y = true
  all : ∀ z, isCutM p ts z x y = true → ¬ cutM p ts z < greatM p ts x y
  nil_ : cutM p ts 0 = 0
  len : (findM p ts x y).length = ts.length

theorem cut_zero : ∀ ts : List T3, cutL 0 ts = 0
  | [] => rfl
  | t :: r => by
    have e : memB 0 t.1 = false := by simp [memB, bits1]
    simp [cutL, e, cut_zero r]

theorem cut_ok {p : Int} {ts : List T3} {x y : Int} (h : twoM p ts x y = true) : CutP p ts x y := by
  obtain ⟨hN, hp⟩ := netP_two h
  obtain ⟨⟨p1, p2⟩, _⟩ := twoM_parts h
  have hnet : netOk p ts = true := by simp only [twoM, Bool.and_eq_true] at h; exact h.1.1.1
  have hfm : findM p ts x y = findL p.toNat ts x y := by simp [findM, h]
  have hgm : greatM p ts x y = gainL x ts (findL p.toNat ts x y) := by simp only [greatM, h, if_true, findM]
  obtain ⟨f1, f2, f3⟩ := find_spec hN
  obtain ⟨k1, k2⟩ := stuck_cut hN f1 f2
  have hfo : flowOkM p ts (findM p ts x y) x y = true := by rw [hfm]; exact (flowOk_iff h).2 f1
  have hI := (bfs_inv hN.inn f1.fit.1 hN.x0 hN.x1).1
  have hpl : ∀ z : Int, 0 ≤ z → z < p.toNat → placeM p ts z = true := fun z z0 z1 => by
    simp only [placeM, Bool.and_eq_true]; exact ⟨hnet, inB_iff.2 (by omega)⟩
  have hco : cutOfM p ts (findM p ts x y) x y = maskL (bfs p.toNat ts (findL p.toNat ts x y) x).1 := by unfold cutOfM; rw [if_pos hfo, hfm]
  have hmk := maskL_ok (q := (bfs p.toNat ts (findL p.toNat ts x y) x).1) (fun z hz => by have := hI.rng z hz; omega)
  rw [← hco] at hmk
  obtain ⟨c, hc⟩ : ∃ c, c = cutOfM p ts (findM p ts x y) x y := ⟨_, rfl⟩
  rw [← hc] at hmk
  have hcl : c < 2 ^ p.toNat := hmk.lt (fun z hz => (hI.rng z hz).2)
  have hcut : cutM p ts c = greatM p ts x y := by
    unfold cutM
    have e1 : inB c 0 (2 ^ p.toNat - 1) = true := inB_iff.2 ⟨hmk.bd.1, by omega⟩
    simp only [hnet, e1, Bool.and_self, if_true]
    rw [cutL_S, hgm, ← k1]
    apply cutS_congr
    intro t ht
    have hin := hN.inn t ht
    exact ⟨hmk.mem hin.1 (by omega), hmk.mem hin.2.2.1 (by omega)⟩
  have hg0 : 0 ≤ greatM p ts x y := by rw [hgm]; exact f3
  have hcc : isCutM p ts c x y = true := by
    have mx := hmk.mem hN.x0 (show x ≤ 7 by have := hN.x1; omega)
    have my := hmk.mem hN.y0 (show y ≤ 7 by have := hN.y1; omega)
    rw [decide_eq_true k2] at mx
    rw [decide_eq_false f2] at my
    simp only [isCutM, hpl x hN.x0 hN.x1, hpl y hN.y0 hN.y1, mx, my, hcut, decide_eq_true hg0]; rfl
  have hsz : sizeM p ts (findM p ts x y) x y = greatM p ts x y := by
    unfold sizeM; rw [if_pos hfo, hfm, ← hgm]; omega
  have hnm : narrowM p ts x y = ncL p ts x y ((2 : Int) ^ p.toNat).toNat 0 (-1) := by simp [narrowM, h]
  obtain ⟨n1, _, n3⟩ := nc_spec (p := p) (ts := ts) (x := x) (y := y) ((2 : Int) ^ p.toNat).toNat 0 (-1) (.inl (by omega))
  rw [← hnm] at n1 n3
  have n4 := n3 c hmk.bd.1 (by omega) hcc
  have hsc : isCutM p ts (narrowM p ts x y) x y = true := by
    rcases n1 with n1 | n1
    · omega
    · exact n1
  have hsw : cutM p ts (narrowM p ts x y) = greatM p ts x y := by
    have := great_le_cut h hsc
    omega
  refine ⟨n4.1, hsw, hsc, by rw [← hc]; exact hmk.bd.1, by rw [← hc]; exact hcut, by rw [← hc]; exact hcc, ?_, ?_, fun z hz => by have := great_le_cut h hz; omega, ?_, by rw [hfm]; exact f1.fit.1⟩
  · rw [← hc]; simp [provesM, hfo, hcc, hsz, hcut]
  · simp [provesM, hfo, hsc, hsz, hsw]
  · unfold cutM
    have e1 : inB 0 0 (2 ^ p.toNat - 1) = true := inB_iff.2 ⟨Int.le_refl _, by have := (pow_bd (show 0 ≤ p by omega) p2).1; omega⟩
    simp only [hnet, e1, Bool.and_self, if_true]
    exact cut_zero ts

theorem need_mem (p : Int) (ts : List T3) (x y most : Int) : ∀ (m k : Nat) (z : Nat), (z : Int) ∈ needGo p ts x y most m k ↔ (k ≤ z ∧ z < k + m ∧ greatM p (woutM p ts z) x y < most)
  | 0, k, z => by simp [needGo]; intro h1 h2; omega
  | m + 1, k, z => by
    unfold needGo
    have ih := need_mem p ts x y most m (k + 1) z
    split
    · rename_i hc
      rw [List.mem_cons, ih]
      constructor
      · rintro (h1 | ⟨h1, h2, h3⟩)
        · have : z = k := by omega
          subst this; exact ⟨Nat.le_refl _, by omega, hc⟩
        · exact ⟨by omega, by omega, h3⟩
      · rintro ⟨h1, h2, h3⟩
        by_cases e : z = k
        · left; rw [e]
        · right; exact ⟨by omega, by omega, h3⟩
    · rename_i hc
      rw [ih]
      constructor
      · rintro ⟨h1, h2, h3⟩; exact ⟨by omega, by omega, h3⟩
      · rintro ⟨h1, h2, h3⟩
        refine ⟨?_, by omega, h3⟩
        by_cases e : z = k
        · subst e; exact absurd h3 hc
        · omega
theorem need_iff {p : Int} {ts : List T3} {x y : Int} (hg : 0 ≤ greatM p ts x y) (k : Nat) (hk : k < ts.length) : decide ((k : Int) ∈ needM p ts x y) = decide (greatM p (woutM p ts k) x y < greatM p ts x y) := by
  apply decide_eq_decide.2
  unfold needM
  rw [if_neg (by omega), need_mem]
  constructor
  · rintro ⟨_, _, h⟩; exact h
  · intro h; exact ⟨Nat.zero_le _, by omega, h⟩

end Go.Proofs.Yteimcbhnjhkkbaa
