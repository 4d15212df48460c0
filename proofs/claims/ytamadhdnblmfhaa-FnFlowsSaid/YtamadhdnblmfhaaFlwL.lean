/- Flows: what the law asks of the greatest flow, in plain Lean. -/
import Derived.Test.YtamadhdnblmfhaaFfl3
import Derived.Test.YtamadhdnblmfhaaWide
import Derived.Test.YtamadhdnblmfhaaTurnN
namespace Go.Proofs.Ytamadhdnblmfhaa
set_option linter.unusedSimpArgs false
set_option linter.unusedVariables false
open Go.RowKit

/-- What is reached along pipes of width d, as a list. -/
def rlL (d : Int) (q : List Int) : List T3 → List Int
  | [] => q
  | t :: r => rlL d (if d ≤ t.2.2 ∧ t.1 ∈ q ∧ t.2.1 ∉ q then q ++ [t.2.1] else q) r
def rlN (d : Int) (ts : List T3) : Nat → List Int → List Int
  | 0, q => q
  | n + 1, q => rlN d ts n (rlL d q ts)

theorem rl_inv (p : Nat) (d : Int) : ∀ (ts : List T3) (q : List Int), inP p ts → q.Nodup → (∀ z ∈ q, 0 ≤ z ∧ z < p) → (rlL d q ts).Nodup ∧ (∀ z ∈ rlL d q ts, 0 ≤ z ∧ z < p) ∧ q.length ≤ (rlL d q ts).length ∧ ∀ z ∈ q, z ∈ rlL d q ts
  | [], q, _, hn, hr => ⟨hn, hr, Nat.le_refl _, fun z hz => hz⟩
  | t :: r, q, hp, hn, hr => by
    have ht := hp t (List.mem_cons_self ..)
    have hp' : inP p r := fun u hu => hp u (List.mem_cons_of_mem _ hu)
    unfold rlL
    split
    · rename_i hc
      have h1 : (q ++ [t.2.1]).Nodup := by
        rw [List.nodup_append]
        exact ⟨hn, by simp, fun a ha b hb e => by simp at hb; exact hc.2.2 (by rw [← hb, ← e]; exact ha)⟩
      obtain ⟨a, b, c, e⟩ := rl_inv p d r (q ++ [t.2.1]) hp' h1 (fun z hz => by
        rcases List.mem_append.1 hz with hz | hz
        · exact hr z hz
        · simp at hz; omega)
      exact ⟨a, b, by simp at c; omega, fun z hz => e z (List.mem_append_left _ hz)⟩
    · exact rl_inv p d r q hp' hn hr

theorem rl_sound {S : Int → Bool} {d : Int} : ∀ (ts : List T3) (q : List Int), (∀ t ∈ ts, d ≤ t.2.2 → S t.1 = true → S t.2.1 = true) → (∀ z ∈ q, S z = true) → ∀ z ∈ rlL d q ts, S z = true
  | [], q, _, hq => hq
  | t :: r, q, hs, hq => by
    unfold rlL
    refine rl_sound r _ (fun u hu => hs u (List.mem_cons_of_mem _ hu)) ?_
    split
    · rename_i hc
      intro z hz
      rcases List.mem_append.1 hz with hz | hz
      · exact hq z hz
      · simp at hz; subst hz; exact hs t (List.mem_cons_self ..) hc.1 (hq _ hc.2.1)
    · exact hq
theorem rlN_sound {S : Int → Bool} {d : Int} {ts : List T3} (hs : ∀ t ∈ ts, d ≤ t.2.2 → S t.1 = true → S t.2.1 = true) : ∀ (n : Nat) (q : List Int), (∀ z ∈ q, S z = true) → ∀ z ∈ rlN d ts n q, S z = true
  | 0, q, hq => hq
  | n + 1, q, hq => rlN_sound hs n _ (rl_sound ts q hs hq)

theorem rl_closed (p : Nat) {d : Int} : ∀ (ts : List T3) (q : List Int), inP p ts → q.Nodup → (∀ z ∈ q, 0 ≤ z ∧ z < p) → (rlL d q ts).length = q.length → rlL d q ts = q ∧ ∀ t ∈ ts, d ≤ t.2.2 → t.1 ∈ q → t.2.1 ∈ q
  | [], q, _, _, _, _ => ⟨rfl, by simp⟩
  | t :: r, q, hp, hn, hr, hl => by
    have ht := hp t (List.mem_cons_self ..)
    have hp' : inP p r := fun u hu => hp u (List.mem_cons_of_mem _ hu)
    unfold rlL at hl ⊢
    by_cases hc : d ≤ t.2.2 ∧ t.1 ∈ q ∧ t.2.1 ∉ q
    · exfalso
      rw [if_pos hc] at hl
      have h1 : (q ++ [t.2.1]).Nodup := by
        rw [List.nodup_append]
        exact ⟨hn, by simp, fun a ha b hb e => by simp at hb; exact hc.2.2 (by rw [← hb, ← e]; exact ha)⟩
      obtain ⟨_, _, c, _⟩ := rl_inv p d r (q ++ [t.2.1]) hp' h1 (fun z hz => by
        rcases List.mem_append.1 hz with hz | hz
        · exact hr z hz
        · simp at hz; omega)
      simp at c; omega
    · rw [if_neg hc] at hl ⊢
      obtain ⟨a, b⟩ := rl_closed p r q hp' hn hr hl
      refine ⟨a, fun u hu h1 h2 => ?_⟩
      rcases List.mem_cons.1 hu with rfl | hu
      · exact Classical.byContradiction fun h3 => hc ⟨h1, h2, h3⟩
      · exact b u hu h1 h2
theorem rlN_same {d : Int} {ts : List T3} {q : List Int} (h : rlL d q ts = q) : ∀ n, rlN d ts n q = q
  | 0 => rfl
  | n + 1 => by rw [rlN, h]; exact rlN_same h n
/-- Enough rounds: nothing leads out any more. -/
theorem rlN_closed (p : Nat) {d : Int} {ts : List T3} (hp : inP p ts) : ∀ (n : Nat) (q : List Int), q.Nodup → (∀ z ∈ q, 0 ≤ z ∧ z < p) → p ≤ n + q.length → ∀ t ∈ ts, d ≤ t.2.2 → t.1 ∈ rlN d ts n q → t.2.1 ∈ rlN d ts n q
  | 0, q, hn, hr, hl => by
    obtain ⟨a, b, c, _⟩ := rl_inv p d ts q hp hn hr
    have := nodup_len p _ a b
    exact (rl_closed p ts q hp hn hr (by omega)).2
  | n + 1, q, hn, hr, hl => by
    obtain ⟨a, b, c, _⟩ := rl_inv p d ts q hp hn hr
    by_cases e : (rlL d q ts).length = q.length
    · obtain ⟨h1, h2⟩ := rl_closed p ts q hp hn hr e
      rw [rlN, h1, rlN_same h1]; exact h2
    · rw [rlN]
      exact rlN_closed p hp n _ a b (by omega)
theorem rlN_mem {p : Nat} {d : Int} {ts : List T3} (hp : inP p ts) : ∀ (n : Nat) (q : List Int), q.Nodup → (∀ z ∈ q, 0 ≤ z ∧ z < p) → ∀ z ∈ q, z ∈ rlN d ts n q
  | 0, q, _, _, z, hz => hz
  | n + 1, q, hn, hr, z, hz => by
    obtain ⟨a, b, c, e⟩ := rl_inv p d ts q hp hn hr
    exact rlN_mem hp n _ a b z (e z hz)

theorem rc_mask {n : Nat} {d : Int} : ∀ (ts : List T3) (s : Int) (q : List Int), inP n ts → n ≤ 8 → MaskOk s q → MaskOk (rcL d s ts) (rlL d q ts)
  | [], s, q, _, _, h => h
  | t :: r, s, q, hp, hn, h => by
    have ht := hp t (List.mem_cons_self ..)
    have hp' : inP n r := fun u hu => hp u (List.mem_cons_of_mem _ hu)
    unfold rcL rlL
    refine rc_mask r _ _ hp' hn ?_
    rw [h.mem ht.1 (by omega)]
    by_cases h1 : d ≤ t.2.2
    · by_cases h2 : t.1 ∈ q
      · rw [if_pos ⟨h1, by simpa using h2⟩]
        have hm := h.add ht.2.2.1 (show t.2.1 ≤ 7 by omega)
        by_cases h3 : t.2.1 ∈ q
        · rw [if_neg (fun e => e.2.2 h3)]
          exact hm.same fun z => by
            constructor
            · intro hz
              rcases List.mem_append.1 hz with hz | hz
              · exact hz
              · simp at hz; subst hz; exact h3
            · intro hz; exact List.mem_append_left _ hz
        · rw [if_pos ⟨h1, h2, h3⟩]; exact hm
      · rw [if_neg (fun e => h2 (by simpa using e.2)), if_neg (fun e => h2 e.2.1)]; exact h
    · rw [if_neg (fun e => h1 e.1), if_neg (fun e => h1 e.1)]; exact h
theorem rcN_mask {m : Nat} {d : Int} {ts : List T3} (hp : inP m ts) (hm : m ≤ 8) : ∀ (n : Nat) (s : Int) (q : List Int), MaskOk s q → MaskOk (rcN d ts n s) (rlN d ts n q)
  | 0, s, q, h => h
  | n + 1, s, q, h => rcN_mask hp hm n _ _ (rc_mask ts s q hp hm h)

theorem reach_mem {p : Int} {ts : List T3} {x y d : Int} (h : twoM p ts x y = true) : memB (reachM p ts x d) y = decide (y ∈ rlN d ts p.toNat [x]) := by
  obtain ⟨hN, hp⟩ := netP_two h
  obtain ⟨⟨p1, p2⟩, _⟩ := twoM_parts h
  have hx7 : x ≤ 7 := by have := hN.x1; omega
  have := rcN_mask (d := d) hN.inn (by omega) p.toNat _ _ (MaskOk.start hN.x0 hx7)
  exact this.mem hN.y0 (by have := hN.y1; omega)

/-- Whatever is reached along pipes of width d has a cut of width d at least between. -/
theorem reach_cut {p : Int} {ts : List T3} {x y d : Int} (h : twoM p ts x y = true) (hr : memB (reachM p ts x d) y = true) {S : Int → Bool} (hx : S x = true) (hy : S y = false) : d ≤ cutS S ts := by
  obtain ⟨hN, hp⟩ := netP_two h
  rw [reach_mem h] at hr
  have hm : y ∈ rlN d ts p.toNat [x] := by simpa using hr
  apply Classical.byContradiction
  intro hc
  have hs : ∀ t ∈ ts, d ≤ t.2.2 → S t.1 = true → S t.2.1 = true := fun t ht h1 h2 => by
    cases e : S t.2.1 with
    | true => rfl
    | false => exact absurd (wide_cut ts (fun u hu => by have := hN.wid u hu; omega) ⟨t, ht, h2, e, h1⟩) hc
  have := rlN_sound hs p.toNat [x] (by simpa using hx) y hm
  rw [hy] at this; cases this

theorem ww_le {p : Int} {ts : List T3} {x y G : Int} : ∀ (l : List T3) (b : Int), (∀ t ∈ l, memB (reachM p ts x t.2.2) y = true → t.2.2 ≤ G) → b ≤ G → wwL p ts x y b l ≤ G
  | [], b, _, h => h
  | t :: r, b, hl, h => by
    unfold wwL
    refine ww_le r _ (fun u hu => hl u (List.mem_cons_of_mem _ hu)) ?_
    split
    · rename_i hc; exact hl t (List.mem_cons_self ..) hc.2
    · exact h
theorem ww_ge {p : Int} {ts : List T3} {x y : Int} : ∀ (l : List T3) (b : Int), b ≤ wwL p ts x y b l ∧ ∀ t ∈ l, memB (reachM p ts x t.2.2) y = true → t.2.2 ≤ wwL p ts x y b l
  | [], b => ⟨Int.le_refl _, by simp⟩
  | t :: r, b => by
    unfold wwL
    split
    · rename_i hc
      obtain ⟨a, e⟩ := ww_ge (p := p) (ts := ts) (x := x) (y := y) r t.2.2
      refine ⟨by omega, fun u hu h => ?_⟩
      rcases List.mem_cons.1 hu with rfl | hu
      · exact a
      · exact e u hu h
    · rename_i hc
      obtain ⟨a, e⟩ := ww_ge (p := p) (ts := ts) (x := x) (y := y) r b
      refine ⟨a, fun u hu h => ?_⟩
      rcases List.mem_cons.1 hu with rfl | hu
      · apply Int.not_lt.1
        intro hlt
        exact hc ⟨by omega, h⟩
      · exact e u hu h

def outM (p : Int) (ts : List T3) (x : Int) : Int := if placeM p ts x then outL x ts else -1
where outL (x : Int) : List T3 → Int
  | [] => 0
  | t :: r => (if t.1 = x then t.2.2 else 0) + outL x r

theorem out_cut (x : Int) : ∀ ts : List T3, (∀ t ∈ ts, t.1 ≠ t.2.1) → outM.outL x ts = cutS (fun z => decide (z = x)) ts
  | [], _ => rfl
  | t :: r, h => by
    have ih := out_cut x r (fun u hu => h u (List.mem_cons_of_mem _ hu))
    have ht := h t (List.mem_cons_self ..)
    simp only [outM.outL, cutS, ih]
    by_cases e : t.1 = x
    · have : ¬ t.2.1 = x := fun e2 => ht (e.trans e2.symm)
      simp [e, this]
    · simp [e]

/-- What the law asks. -/
structure FlwOk (p : Int) (ts : List T3) (x y : Int) : Prop where
  ok : flowOkM p ts (findM p ts x y) x y = true
  len : (findM p ts x y).length = ts.length
  size : sizeM p ts (findM p ts x y) x y = greatM p ts x y
  nneg : 0 ≤ greatM p ts x y
  out : greatM p ts x y ≤ outM p ts x
  wide : widestM p ts x y ≤ greatM p ts x y
  some_ : decide (0 < greatM p ts x y) = decide (0 < widestM p ts x y)
  fit : ∀ k, k < ts.length → 0 ≤ (findM p ts x y).getD k 0 ∧ (findM p ts x y).getD k 0 ≤ (ts.getD k default).2.2
  turn : greatM p (turnM p ts) y x = greatM p ts x y
  zero : sizeM p ts (List.replicate ts.length 0) x y = 0

theorem turnL_eq (ts : List T3) : ts.map swp = turnL ts := rfl

theorem flw_ok {p : Int} {ts : List T3} {x y : Int} (h : twoM p ts x y = true) : FlwOk p ts x y := by
  obtain ⟨hN, hp⟩ := netP_two h
  have hnet : netOk p ts = true := by simp only [twoM, Bool.and_eq_true] at h; exact h.1.1.1
  have hfm : findM p ts x y = findL p.toNat ts x y := by simp [findM, h]
  have hgm : greatM p ts x y = gainL x ts (findL p.toNat ts x y) := by simp only [greatM, h, if_true]; rw [hfm]
  obtain ⟨f1, f2, f3⟩ := find_spec hN
  have hmost := find_most hN
  rw [← hgm] at hmost
  have hok : flowOkM p ts (findM p ts x y) x y = true := by rw [hfm]; exact (flowOk_iff h).2 f1
  have hz := zero_flow (p := p.toNat) (x := x) (y := y) (ts := ts) (fun t ht => by have := hN.wid t ht; omega)
  have hpl : placeM p ts x = true := by
    simp only [placeM, Bool.and_eq_true]
    exact ⟨hnet, inB_iff.2 ⟨hN.x0, by have := hN.x1; omega⟩⟩
  have hwl : widestM p ts x y = wwL p ts x y 0 ts := by simp [widestM, h]
  have hwle : widestM p ts x y ≤ greatM p ts x y := by
    rw [hwl]
    refine ww_le ts 0 (fun t ht hr => ?_) (by rw [hgm]; exact f3)
    obtain ⟨_, S, s1, s2, s3⟩ := hmost
    rw [← s3]
    exact reach_cut h hr s1 s2
  refine ⟨hok, by rw [hfm]; exact f1.fit.1, ?_, by rw [hgm]; exact f3, ?_, hwle, ?_, fun k hk => by rw [hfm]; exact f1.fit.2 k hk, ?_, ?_⟩
  · unfold sizeM; rw [if_pos hok, hfm, hgm]; omega
  · rw [hgm]
    unfold outM; rw [if_pos hpl, out_cut x ts (fun t ht => by
      have := pipeOk_iff.1 ((netOk_parts hnet).2.2.2 t ht); exact this.2.2.2.2.1)]
    exact flow_le_cut hN.inn f1 (by simp) (by have := hN.ne; simp; omega) hN.x0 hN.x1
  · apply decide_eq_decide.2
    constructor
    · intro hg
      apply Classical.byContradiction
      intro hw
      -- no pipe's width leads to y: what the least width reaches is shut
      have hnone : ∀ t ∈ ts, memB (reachM p ts x t.2.2) y = false := fun t ht => by
        cases e : memB (reachM p ts x t.2.2) y with
        | false => rfl
        | true =>
          have := (ww_ge (p := p) (ts := ts) (x := x) (y := y) ts 0).2 t ht e
          have := hN.wid t ht
          omega
      have hmin : ∃ d : Int, (∀ t ∈ ts, d ≤ t.2.2) ∧ y ∉ rlN d ts p.toNat [x] := by
        have key : ∀ l : List T3, l ≠ [] → ∃ t ∈ l, ∀ u ∈ l, t.2.2 ≤ u.2.2 := by
          intro l
          induction l with
          | nil => intro h; exact absurd rfl h
          | cons a r ih =>
            intro _
            by_cases hr : r = []
            · subst hr; exact ⟨a, List.mem_cons_self .., by simp⟩
            · obtain ⟨t, ht, hm⟩ := ih hr
              by_cases hle : a.2.2 ≤ t.2.2
              · refine ⟨a, List.mem_cons_self .., fun u hu => ?_⟩
                rcases List.mem_cons.1 hu with rfl | hu
                · exact Int.le_refl _
                · have := hm u hu; omega
              · refine ⟨t, List.mem_cons_of_mem _ ht, fun u hu => ?_⟩
                rcases List.mem_cons.1 hu with rfl | hu
                · omega
                · exact hm u hu
        by_cases he : ts = []
        · refine ⟨0, by rw [he]; simp, fun hy => ?_⟩
          have : ∀ n : Nat, rlN 0 ts n [x] = [x] := by
            intro n; rw [he]; exact rlN_same rfl n
          rw [this] at hy; simp at hy; exact hN.ne hy.symm
        · obtain ⟨t, ht, hm⟩ := key ts he
          refine ⟨t.2.2, hm, fun hy => ?_⟩
          have := hnone t ht
          rw [reach_mem h] at this
          simp at this; exact this hy
      obtain ⟨d, hd, hy⟩ := hmin
      have hcl := rlN_closed p.toNat (d := d) hN.inn p.toNat [x] (by simp) (fun z hz => by simp only [List.mem_singleton] at hz; subst hz; exact ⟨hN.x0, hN.x1⟩) (by simp)
      have hxm := rlN_mem (d := d) hN.inn p.toNat [x] (by simp) (fun z hz => by simp only [List.mem_singleton] at hz; subst hz; exact ⟨hN.x0, hN.x1⟩) x (by simp)
      have hcz : cutS (fun z => decide (z ∈ rlN d ts p.toNat [x])) ts = 0 := by
        have : ∀ l : List T3, (∀ t ∈ l, t ∈ ts) → cutS (fun z => decide (z ∈ rlN d ts p.toNat [x])) l = 0 := by
          intro l
          induction l with
          | nil => intro _; rfl
          | cons t r ih =>
            intro hl
            have ht := hl t (List.mem_cons_self ..)
            simp only [cutS, ih (fun u hu => hl u (List.mem_cons_of_mem _ hu))]
            by_cases e1 : t.1 ∈ rlN d ts p.toNat [x]
            · have := hcl t ht (hd t ht) e1
              simp [e1, this]
            · simp [e1]
        exact this ts (fun t ht => ht)
      have := most_le hN hmost (S := fun z => decide (z ∈ rlN d ts p.toNat [x])) (by simpa using hxm) (by simpa using hy)
      omega
    · intro hw; omega
  · have ht : twoM p (turnM p ts) y x = true := by
      obtain ⟨⟨p1, p2⟩, ⟨hl, hall⟩, ⟨x0, x1⟩, ⟨y0, y1⟩, hxy⟩ := twoM_parts h
      have e0 : turnM p ts = ts.map swp := by unfold turnM; rw [if_pos hnet]
      rw [e0]
      simp only [twoM, netOk, Bool.and_eq_true, List.all_eq_true, decide_eq_true_eq, bne_iff_ne]
      refine ⟨⟨⟨⟨⟨inB_iff.2 ⟨p1, p2⟩, by simpa using hl⟩, fun t ht => ?_⟩, inB_iff.2 ⟨y0, y1⟩⟩, inB_iff.2 ⟨x0, x1⟩⟩, fun e => hxy e.symm⟩
      obtain ⟨u, hu, rfl⟩ := List.mem_map.1 ht
      have := pipeOk_iff.1 (hall u hu)
      exact pipeOk_iff.2 ⟨this.2.2.1, this.2.2.2.1, this.1, this.2.1, fun e => this.2.2.2.2.1 e.symm, this.2.2.2.2.2⟩
    have hN2 := (netP_two ht).1
    have h1 := find_most hN2
    have hgm2 : greatM p (turnM p ts) y x = gainL y (turnM p ts) (findL p.toNat (turnM p ts) y x) := by
      simp only [greatM, ht, if_true, findM]
    rw [← hgm2] at h1
    have h2 := turn_most hN hmost
    have e : turnM p ts = turnL ts := by simp only [turnM, hnet, if_true]; rfl
    rw [← e] at h2
    exact most_one hN2 h1 h2
  · unfold sizeM
    rw [if_pos ((flowOk_iff h).2 hz.1), hz.2]; rfl

theorem great_bd2 (p : Int) (ts : List T3) (x y : Int) : greatM p ts x y ≤ 20000 := by
  unfold greatM
  split
  · rename_i h
    have hN := (netP_two h).1
    have hfm : findM p ts x y = findL p.toNat ts x y := by simp [findM, h]
    rw [hfm]
    exact flow_bd hN (find_spec hN).1
  · omega

/-- The law's own little net. -/
theorem little : greatM 3 [(0, 1, 5), (1, 2, 3)] 0 2 = 3 := by
  have h : twoM 3 [(0, 1, 5), (1, 2, 3)] 0 2 = true := by decide
  have hN := (netP_two h).1
  have hm := find_most hN
  have hgm : greatM 3 [(0, 1, 5), (1, 2, 3)] 0 2 = gainL 0 [(0, 1, 5), (1, 2, 3)] (findL (3 : Int).toNat [(0, 1, 5), (1, 2, 3)] 0 2) := by simp only [greatM, h, if_true, findM]
  rw [← hgm] at hm
  refine most_one hN hm ⟨⟨[3, 3], (flowOk_iff h).1 (by decide), by decide⟩, fun z => decide (z ≤ 1), by decide, by decide, by decide⟩

end Go.Proofs.Ytamadhdnblmfhaa
