/- FindFlow and GreatestFlow: both sides, whatever the net. -/
import Derived.Test.YteimcbhnjhkkbaaFfl2
import Derived.Test.YteimcbhnjhkkbaaFlow2
namespace Go.Proofs.Yteimcbhnjhkkbaa
set_option linter.unusedSimpArgs false
set_option linter.unusedVariables false
open Go.RowKit

theorem fits_of : ∀ (ts : List T3) (fs : List Int), fitsP ts fs → fits ts fs = true
  | [], fs, _ => by cases fs <;> rfl
  | t :: r, [], h => by have := h.1; simp at this
  | t :: r, f :: g, h => by
    obtain ⟨h0, h1, h2⟩ := fitsP_cons h
    simp only [fits, Bool.and_eq_true]
    exact ⟨inB_iff.2 ⟨h0, h1⟩, fits_of r g h2⟩
theorem of_fits : ∀ (ts : List T3) (fs : List Int), fs.length = ts.length → fits ts fs = true → fitsP ts fs
  | [], [], _, _ => ⟨rfl, fun k hk => by simp at hk⟩
  | [], _ :: _, h, _ => by simp at h
  | _ :: _, [], h, _ => by simp at h
  | t :: r, f :: g, h, hf => by
    simp only [fits, Bool.and_eq_true] at hf
    have ih := of_fits r g (by simpa using h) hf.2
    refine ⟨h, fun k hk => ?_⟩
    cases k with
    | zero => have := inB_iff.1 hf.1; simpa using this
    | succ k => have := ih.2 k (by simpa using hk); simpa using this
theorem keeps_iff (ts : List T3) (fs : List Int) (x y : Int) : ∀ (m k : Nat), keeps ts fs x y m k = true ↔ ∀ i : Nat, k ≤ i → i < k + m → (i : Int) ≠ x → (i : Int) ≠ y → gainL i ts fs = 0
  | 0, k => by simp [keeps]; intro i h1 h2; omega
  | m + 1, k => by
    simp only [keeps, Bool.and_eq_true, keeps_iff ts fs x y m (k + 1)]
    constructor
    · rintro ⟨h1, h2⟩ i h3 h4 h5 h6
      by_cases e : i = k
      · subst e
        simp only [Bool.or_eq_true, beq_iff_eq] at h1
        rcases h1 with (h1 | h1) | h1
        · exact absurd h1 h5
        · exact absurd h1 h6
        · exact h1
      · exact h2 i (by omega) (by omega) h5 h6
    · intro h
      refine ⟨?_, fun i h3 h4 h5 h6 => h i (by omega) (by omega) h5 h6⟩
      simp only [Bool.or_eq_true, beq_iff_eq]
      by_cases e1 : (k : Int) = x
      · exact .inl (.inl e1)
      · by_cases e2 : (k : Int) = y
        · exact .inl (.inr e2)
        · exact .inr (h k (Nat.le_refl _) (by omega) e1 e2)

theorem netP_two {p : Int} {ts : List T3} {x y : Int} (h : twoM p ts x y = true) : NetP p.toNat ts x y ∧ ((p.toNat : Nat) : Int) = p := by
  obtain ⟨⟨p1, p2⟩, _, ⟨x0, x1⟩, ⟨y0, y1⟩, hxy⟩ := twoM_parts h
  have e : ((p.toNat : Nat) : Int) = p := by omega
  have hnet : netOk ((p.toNat : Nat) : Int) ts = true := by rw [e]; simp only [twoM, Bool.and_eq_true] at h; exact h.1.1.1
  exact ⟨netP_of hnet x0 (by omega) y0 (by omega) hxy, e⟩
theorem flowOk_iff {p : Int} {ts : List T3} {fs : List Int} {x y : Int} (h : twoM p ts x y = true) : flowOkM p ts fs x y = true ↔ FlowP p.toNat ts fs x y := by
  unfold flowOkM
  simp only [Bool.and_eq_true, beq_iff_eq]
  constructor
  · rintro ⟨⟨⟨_, h2⟩, h3⟩, h4⟩
    exact ⟨of_fits ts fs h2 h3, fun i hi h5 h6 => (keeps_iff ts fs x y _ 0).1 h4 i (Nat.zero_le _) (by omega) h5 h6⟩
  · intro hf
    exact ⟨⟨⟨h, hf.fit.1⟩, fits_of ts fs hf.fit⟩, (keeps_iff ts fs x y _ 0).2 fun i _ hi h5 h6 => hf.kept i (by omega) h5 h6⟩

def greatM (p : Int) (ts : List T3) (x y : Int) : Int := if twoM p ts x y then gainL x ts (findM p ts x y) else -1

theorem findM_length (p : Int) (ts : List T3) (x y : Int) (hn : ts.length ≤ 1048576) : (findM p ts x y).length ≤ 1048576 := by
  unfold findM
  split
  · rename_i h
    rw [(find_spec (netP_two h).1).1.fit.1]; exact hn
  · simp

set_option maxHeartbeats 2000000 in
theorem implFindFlow_any (p x y : Int) (a : Option Addr) (cap : Nat) (ts : List T3) (w : World) (hc : Rd3 w a ts) (hn : ts.length ≤ 1048576) :
    Calls Try.prog 27 #[.agg #[.int .i64 p, .slice a ts.length cap], .int .i64 x, .int .i64 y] w fun e w' => GivesIB (findM p ts x y) (twoM p ts x y) w e w' := by
  cases hk : twoM p ts x y with
  | true =>
    obtain ⟨⟨p1, p2⟩, _, ⟨x0, x1⟩, ⟨y0, y1⟩, _⟩ := twoM_parts hk
    obtain ⟨n, rfl⟩ := Int.eq_ofNat_of_zero_le (show 0 ≤ p by omega)
    obtain ⟨x, rfl⟩ := Int.eq_ofNat_of_zero_le x0
    obtain ⟨y, rfl⟩ := Int.eq_ofNat_of_zero_le y0
    have e : findM (n : Int) ts (x : Int) (y : Int) = findL n ts (x : Int) (y : Int) := by simp [findM, hk]
    rw [e]
    exact implFindFlow_ok n x y a cap ts w hc hk
  | false =>
    have HT := hide (fun W (hb : Below w.heap.size w W) => (show Calls Try.prog 39 #[.agg #[.int .i64 p, .slice a ts.length cap], .int .i64 x, .int .i64 y] W fun e w' => Rets W (.bool false) e w' by
      have := twoPlaces_any p a cap ts x y W (hc.below hb) hn; rw [hk] at this; exact this))
    have HM := hide (show findM p ts x y = [] by simp [findM, hk])
    clear hk
    go_enter Try.func27, Try.ntmps27
    go_wp2_with fail
    (with_reducible refine (HT.out _ (belA (Below.refl _ _))).mono ?_)
    rintro e w2 ⟨rfl, hb⟩
    have b0 := belT (belA (Below.refl w.heap.size w)) hb
    go_wp2
    go_ret2
    exact ⟨_, rfl, by rw [HM.out]; exact OwnsI.nil _ _, b0⟩

set_option maxHeartbeats 2000000 in
theorem specFindFlow_any (p x y : Int) (a : Option Addr) (cap : Nat) (ts : List T3) (w : World) (hc : Rd3 w a ts) (hn : ts.length ≤ 1048576) :
    Calls Try.prog 11 #[.agg #[.int .i64 p, .slice a ts.length cap], .int .i64 x, .int .i64 y] w fun e w' => GivesIB (findM p ts x y) (twoM p ts x y) w e w' := by
  cases hk : twoM p ts x y with
  | true =>
    obtain ⟨⟨p1, p2⟩, _, ⟨x0, x1⟩, ⟨y0, y1⟩, _⟩ := twoM_parts hk
    obtain ⟨n, rfl⟩ := Int.eq_ofNat_of_zero_le (show 0 ≤ p by omega)
    obtain ⟨x, rfl⟩ := Int.eq_ofNat_of_zero_le x0
    obtain ⟨y, rfl⟩ := Int.eq_ofNat_of_zero_le y0
    have e : findM (n : Int) ts (x : Int) (y : Int) = findL n ts (x : Int) (y : Int) := by simp [findM, hk]
    rw [e]
    exact specFindFlow_ok n x y a cap ts w hc hk
  | false =>
    have HT := hide (fun W (hb : Below w.heap.size w W) => (show Calls Try.prog 37 #[.agg #[.int .i64 p, .slice a ts.length cap], .int .i64 x, .int .i64 y] W fun e w' => Rets W (.bool false) e w' by
      have := l08Two_any p a cap ts x y W (hc.below hb) hn; rw [hk] at this; exact this))
    have HM := hide (show findM p ts x y = [] by simp [findM, hk])
    clear hk
    go_enter Try.func11, Try.ntmps11
    go_wp2_with fail
    (with_reducible refine (HT.out _ (belA (Below.refl _ _))).mono ?_)
    rintro e w2 ⟨rfl, hb⟩
    have b0 := belT (belA (Below.refl w.heap.size w)) hb
    go_wp2
    go_ret2
    exact ⟨_, rfl, by rw [HM.out]; exact OwnsI.empty _ _ b0.size, belA b0⟩

set_option maxHeartbeats 2000000 in
theorem implGreatest_any (p x y : Int) (a : Option Addr) (cap : Nat) (ts : List T3) (w : World) (hc : Rd3 w a ts) (hn : ts.length ≤ 1048576) :
    Calls Try.prog 31 #[.agg #[.int .i64 p, .slice a ts.length cap], .int .i64 x, .int .i64 y] w fun e w' => Rets w (.int .i64 (greatM p ts x y)) e w' := by
  have HF := hide (fun W (hb : Below w.heap.size w W) => implFindFlow_any p x y a cap ts W (hc.below hb) hn)
  cases hk : twoM p ts x y with
  | false =>
    have HM := hide (show greatM p ts x y = -1 by simp [greatM, hk])
    rw [hk] at HF
    clear hk
    go_enter Try.func31, Try.ntmps31
    go_wp2_with fail
    (with_reducible refine (HF.out _ (belA (Below.refl _ _))).mono ?_)
    rintro e w2 ⟨v, rfl, hown, hb⟩
    have b0 := belT (belA (Below.refl w.heap.size w)) hb
    go_wp2
    go_ret
    exact ⟨ret_int HM.out.symm, b0⟩
  | true =>
    have HM := hide (show greatM p ts x y = gainL x ts (findM p ts x y) by simp [greatM, hk])
    obtain ⟨hN, hp⟩ := netP_two hk
    have hfm : findM p ts x y = findL p.toNat ts x y := by simp [findM, hk]
    have hfl := (find_spec hN).1
    rw [← hfm] at hfl
    have hfb : ∀ f ∈ findM p ts x y, 0 ≤ f ∧ f ≤ 1000 := by
      intro f hf
      obtain ⟨k, hk', rfl⟩ := mem_getDI hf
      have := hfl.fit.2 k (by have := hfl.fit.1; omega)
      have := hN.wid _ (getD_mem3 (show k < ts.length by have := hfl.fit.1; omega))
      omega
    have hl20 := hN.cnt
    rw [hk] at HF
    have HL := hide hfl.fit.1
    have HB := hide hfb
    clear hk hfl hfb hfm hN hp
    generalize findM p ts x y = fs at *
    go_enter Try.func31, Try.ntmps31
    go_wp2_with fail
    (with_reducible refine (HF.out _ (belA (Below.refl _ _))).mono ?_)
    rintro e w2 ⟨v, rfl, hown, hb⟩
    obtain ⟨af, capf, rfl, hrf⟩ := hown.slice
    have b0 := belT (belA (Below.refl w.heap.size w)) hb
    have hbk := heap_grow (blk_new w #[.int .i64 p, .slice a ts.length cap] 26) hb
    have c0 := cell_of_block hbk 0
    have c1 := cell_of_block hbk 1
    simp at c0 c1
    have hg := gain_any p x a af cap capf ts fs w2 (hc.below b0) hrf hl20 HL.out HB.out
    go_wp2_with fail
    (with_reducible refine hg.mono ?_)
    rintro e w3 ⟨rfl, hb3⟩
    have b3 := belT b0 hb3
    go_wp2
    go_ret
    exact ⟨ret_int HM.out.symm, b3⟩

set_option maxHeartbeats 2000000 in
theorem specGreatest_any (p x y : Int) (a : Option Addr) (cap : Nat) (ts : List T3) (w : World) (hc : Rd3 w a ts) (hn : ts.length ≤ 1048576) :
    Calls Try.prog 10 #[.agg #[.int .i64 p, .slice a ts.length cap], .int .i64 x, .int .i64 y] w fun e w' => Rets w (.int .i64 (greatM p ts x y)) e w' := by
  have HF := hide (fun W (hb : Below w.heap.size w W) => specFindFlow_any p x y a cap ts W (hc.below hb) hn)
  cases hk : twoM p ts x y with
  | false =>
    have HM := hide (show greatM p ts x y = -1 by simp [greatM, hk])
    rw [hk] at HF
    clear hk
    go_enter Try.func10, Try.ntmps10
    go_wp2_with fail
    (with_reducible refine (HF.out _ (belA (Below.refl _ _))).mono ?_)
    rintro e w2 ⟨v, rfl, hown, hb⟩
    have b0 := belT (belA (Below.refl w.heap.size w)) hb
    go_wp2
    go_ret
    exact ⟨ret_int HM.out.symm, b0⟩
  | true =>
    obtain ⟨hN, hp⟩ := netP_two hk
    have hfm : findM p ts x y = findL p.toNat ts x y := by simp [findM, hk]
    obtain ⟨hfl, _, hg0⟩ := find_spec hN
    rw [← hfm] at hfl hg0
    have HM := hide (show greatM p ts x y = sizeM p ts (findM p ts x y) x y by
      unfold sizeM
      rw [if_pos ((flowOk_iff hk).2 hfl)]
      simp only [greatM, hk, if_true]; omega)
    have HLN := hide (findM_length p ts x y hn)
    rw [hk] at HF
    clear hk hfl hfm hN hp hg0
    generalize findM p ts x y = fs at *
    go_enter Try.func10, Try.ntmps10
    go_wp2_with fail
    (with_reducible refine (HF.out _ (belA (Below.refl _ _))).mono ?_)
    rintro e w2 ⟨v, rfl, hown, hb⟩
    obtain ⟨af, capf, rfl, hrf⟩ := hown.slice
    have b0 := belT (belA (Below.refl w.heap.size w)) hb
    have hbk := heap_grow (blk_new w #[.int .i64 p, .slice a ts.length cap] 26) hb
    have c0 := cell_of_block hbk 0
    have c1 := cell_of_block hbk 1
    simp at c0 c1
    have hg := specFlowSize_any p x y a af cap capf ts fs w2 (hc.below b0) hrf hn HLN.out
    go_wp2_with fail
    (with_reducible refine hg.mono ?_)
    rintro e w3 ⟨rfl, hb3⟩
    have b3 := belT b0 hb3
    go_wp2
    go_ret
    exact ⟨ret_int HM.out.symm, b3⟩

end Go.Proofs.Yteimcbhnjhkkbaa
