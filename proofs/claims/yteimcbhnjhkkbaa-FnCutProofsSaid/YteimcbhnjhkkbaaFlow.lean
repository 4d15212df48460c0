/- A flow that fits the pipes and keeps the water: tested. -/
import Derived.Test.YteimcbhnjhkkbaaGain
import Derived.Test.YteimcbhnjhkkbaaCut3
import Derived.StillTailTactics
namespace Go.Proofs.Yteimcbhnjhkkbaa
set_option linter.unusedSimpArgs false
set_option linter.unusedVariables false
open Go.RowKit

/-- A drawn region: n operations that only read, then the others in their order. -/
theorem region_tail {P : Program} {id : Nat} {Q : Exit → Act → World → Prop} {a : Act} {w : World} {l : List Oper} (n : Nat) (hm : P.follows .mixedOrders = true) (hB : Region.lexTailB .any l.toArray n = true)
    (h : ∀ w1, w1.heap = w.heap → (∀ b o, w1.cell? ⟨b, o, none⟩ = w.cell? ⟨b, o, none⟩) → (∀ b o, w1.frozen? ⟨b, o, none⟩ = w.frozen? ⟨b, o, none⟩) → Below w.heap.size w w1 → wpStill P l.toArray w1 (fun a' => wpList P l.toArray Q (l.drop n) a' w1) (l.take n) a) : (Code.region id l.toArray true).wp P Q a w :=
  wp_region_still_tail n hm hB (h _ rfl (fun _ _ => rfl) (fun _ _ => rfl) ⟨rfl, rfl, rfl, Nat.le_refl _, fun _ _ => rfl⟩)

def fits : List T3 → List Int → Bool
  | t :: r, f :: g => inB f 0 t.2.2 && fits r g
  | _, _ => true

/-- At the n places from k on the water is kept. -/
def keeps (ts : List T3) (fs : List Int) (x y : Int) : Nat → Nat → Bool
  | 0, _ => true
  | n + 1, k => ((k : Int) == x || (k : Int) == y || gainL k ts fs == 0) && keeps ts fs x y n (k + 1)

def flowOkM (p : Int) (ts : List T3) (fs : List Int) (x y : Int) : Bool :=
  twoM p ts x y && (fs.length == ts.length) && fits ts fs && keeps ts fs x y p.toNat 0

def sizeM (p : Int) (ts : List T3) (fs : List Int) (x y : Int) : Int := if flowOkM p ts fs x y then max (-1) (gainL x ts fs) else -1

theorem fits_drop (ts : List T3) (fs : List Int) (k : Nat) (h : k < ts.length) (h' : k < fs.length) :
    fits (ts.drop k) (fs.drop k) = (inB (fs.getD k 0) 0 (ts.getD k default).2.2 && fits (ts.drop (k + 1)) (fs.drop (k + 1))) := by
  rw [drop_getD3 ts k h, drop_getD fs k h']; rfl

theorem fits_bd : ∀ (ts : List T3) (fs : List Int), fits ts fs = true → fs.length = ts.length → (∀ t ∈ ts, t.2.2 ≤ 1000) → ∀ f ∈ fs, 0 ≤ f ∧ f ≤ 1000
  | [], [], _, _, _, f, hf => by simp at hf
  | [], _ :: _, _, hl, _, _, _ => by simp at hl
  | _ :: _, [], _, _, _, f, hf => by simp at hf
  | t :: r, g :: gs, h, hl, hw, f, hf => by
    simp only [fits, Bool.and_eq_true] at h
    have h1 := inB_iff.1 h.1
    have h2 := hw t (by simp)
    rcases List.mem_cons.1 hf with rfl | hf
    · omega
    · exact fits_bd r gs h.2 (by simpa using hl) (fun u hu => hw u (by simp [hu])) f hf

set_option maxHeartbeats 2000000 in
theorem implFlowOk_any (p x y : Int) (a af : Option Addr) (cap capf : Nat) (ts : List T3) (fs : List Int) (w : World) (hc : Rd3 w a ts) (hf : Rd w af fs) (hn : ts.length ≤ 1048576) (hnf : fs.length ≤ 1048576) :
    Calls Try.prog 40 #[.agg #[.int .i64 p, .slice a ts.length cap], .slice af fs.length capf, .int .i64 x, .int .i64 y] w fun e w' => Rets w (.bool (flowOkM p ts fs x y)) e w' := by
  have HT := hide (fun W (hb : Below w.heap.size w W) => twoPlaces_any p a cap ts x y W (hc.below hb) hn)
  cases hk : twoM p ts x y with
  | false =>
    have HM := hide (show flowOkM p ts fs x y = false by simp [flowOkM, hk])
    rw [hk] at HT
    clear hk
    go_enter Try.func40, Try.ntmps40
    go_wp2_with fail
    (with_reducible refine (HT.out _ (belA (Below.refl _ _))).mono ?_)
    rintro e w2 ⟨rfl, hb⟩
    have b0 := belT (belA (Below.refl w.heap.size w)) hb
    have hbk := heap_grow (blk_new w #[.int .i64 p, .slice a ts.length cap] 26) hb
    have c0 := cell_of_block hbk 0
    have c1 := cell_of_block hbk 1
    simp at c0 c1
    go_wp2
    go_ret
    exact ⟨ret_bool HM.out.symm, b0⟩
  | true =>
    obtain ⟨⟨p1, p2⟩, ⟨hl, hall⟩, ⟨x0, x1⟩, ⟨y0, y1⟩, _⟩ := twoM_parts hk
    by_cases hlf : fs.length = ts.length
    case neg =>
      have HM := hide (show flowOkM p ts fs x y = false by simp [flowOkM, hlf])
      have hlb : ((fs.length : Int) != (ts.length : Int)) = true := by simp; omega
      rw [hk] at HT
      clear hk hlf hall
      go_enter Try.func40, Try.ntmps40
      go_wp2_with fail
      (with_reducible refine (HT.out _ (belA (Below.refl _ _))).mono ?_)
      rintro e w2 ⟨rfl, hb⟩
      have b0 := belT (belA (Below.refl w.heap.size w)) hb
      have hbk := heap_grow (blk_new w #[.int .i64 p, .slice a ts.length cap] 26) hb
      have c0 := cell_of_block hbk 0
      have c1 := cell_of_block hbk 1
      simp at c0 c1
      go_wp2
      go_ret
      exact ⟨ret_bool HM.out.symm, b0⟩
    have HM := hide (show flowOkM p ts fs x y = (fits ts fs && keeps ts fs x y p.toNat 0) by simp [flowOkM, hk, hlf])
    have hlb : ((fs.length : Int) != (ts.length : Int)) = false := by simp [hlf]
    have HA := hide hall
    have HLF := hide hlf
    rw [hk] at HT
    clear hk hall hlf
    go_enter Try.func40, Try.ntmps40
    go_wp2_with fail
    (with_reducible refine (HT.out _ (belA (Below.refl _ _))).mono ?_)
    rintro e w2 ⟨rfl, hb⟩
    have b0 := belT (belA (Below.refl w.heap.size w)) hb
    have hbk := heap_grow (blk_new w #[.int .i64 p, .slice a ts.length cap] 26) hb
    have c0 := cell_of_block hbk 0
    have c1 := cell_of_block hbk 1
    simp at c0 c1
    go_wp2
    clear c0 c1 hlb
    go_loopw [9, 28] (fun _ i wr => ∃ (k : Nat), k ≤ ts.length ∧ i = .int .i64 k ∧ wr.heap[w.heap.size]? = some (.cells #[.int .i64 p, .slice a ts.length cap] 26 (0, 0)) ∧ fits ts fs = fits (ts.drop k) (fs.drop k) ∧ Below w.heap.size w wr) (fun _ i _ => ts.length - (intOf i).toNat)
    case atStart => exact ⟨0, Nat.zero_le _, rfl, hbk, rfl, b0⟩
    case round =>
      obtain ⟨k, hk, rfl, hbk', hr, hbel⟩ := hrel
      have HR := hide hr
      clear hr hbk
      have c0 := cell_of_block hbk' 0
      have c1 := cell_of_block hbk' 1
      simp at c0 c1
      have hbl := (Array.getElem?_eq_some_iff.1 hbk').1
      by_cases hlt : k < ts.length
      · have hltf : k < fs.length := by rw [HLF.out]; exact hlt
        obtain ⟨b, off, rfl, hcell, hcell1, hcell2⟩ := hc.below hbel k hlt
        obtain ⟨b', off', rfl, hcf⟩ := hf.below hbel k hltf
        have HD := hide (fits_drop ts fs k hlt hltf)
        generalize ts.getD k default = u at *
        generalize fs.getD k 0 = f at *
        obtain ⟨u0, u1, z⟩ := u
        simp only at hcell hcell1 hcell2
        have bl := World.block_lt_of_cell? wr _ hcell
        have bl' := World.block_lt_of_cell? wr _ hcf
        simp at bl bl'
        have hbq1 := blk_alloc (o := .cells #[.int .i64 u0, .int .i64 u1, .int .i64 z] 60) hbk'
        have j1 : (0 : Int) ≤ (k : Int) := by omega
        have j2 : (k : Int) < (fs.length : Int) := by omega
        go_wp2
        go_quiet ((go_at_call 43; exact Calls.quiet_of_same ((within_any _ _ _ _).mono fun _ _ ⟨he, hw⟩ => ⟨he, hw.symm⟩)))
        go_wp2
        · go_ret
          exact ⟨ret_bool (by rw [HM.out, HR.out, HD.out]; simp_all), (by repeat first | exact Below.refl _ _ | assumption | (refine belA ?_) | (refine belD ?_) | (refine belN ?_) | (refine belS ?_ (by simp <;> omega)) | (refine belT ?_ (by assumption)))⟩
        · go_roundw
          case rel => exact ⟨k + 1, by omega, by go_num, hbq1, by rw [HR.out, HD.out]; simp_all, (by repeat first | exact Below.refl _ _ | assumption | (refine belA ?_) | (refine belD ?_) | (refine belN ?_) | (refine belS ?_ (by simp <;> omega)) | (refine belT ?_ (by assumption)))⟩
          case measure => simp [intOf]; omega
      · have hfit : fits ts fs = true := by rw [HR.out, List.drop_of_length_le (by omega)]; rfl
        have hbd := fits_bd ts fs hfit HLF.out (fun t ht => by have := pipeOk_iff.1 (HA.out t ht); omega)
        have HM2 := hide (show flowOkM p ts fs x y = keeps ts fs x y p.toNat 0 by rw [HM.out, hfit]; rfl)
        have HG := hide (fun (k : Int) (W : World) (hb : Below w.heap.size w W) => gain_any p k a af cap capf ts fs W (hc.below hb) (hf.below hb) hl HLF.out hbd)
        clear HM HR hfit hbd
        go_wp2
        clear c0 c1
        go_loopw [11] (fun i wr => ∃ (k : Nat), (k : Int) ≤ p ∧ i = .int .i64 k ∧ wr.heap[w.heap.size]? = some (.cells #[.int .i64 p, .slice a ts.length cap] 26 (0, 0)) ∧ keeps ts fs x y p.toNat 0 = keeps ts fs x y (p.toNat - k) k ∧ Below w.heap.size w wr) (fun i _ => 8 - (intOf i).toNat)
        case atStart => exact ⟨0, by simp; omega, rfl, hbk', rfl, hbel⟩
        case round =>
          obtain ⟨k2, hk2, rfl, hbk2, hr2, hbel2⟩ := hrel
          have HR2 := hide hr2
          clear hr2 hbk' hbel hlt
          have c0 := cell_of_block hbk2 0
          have c1 := cell_of_block hbk2 1
          simp at c0 c1
          by_cases hlt : (k2 : Int) < p
          case neg =>
            go_wp2
            go_ret
            exact ⟨ret_bool (by rw [HM2.out, HR2.out, show p.toNat - k2 = 0 by omega]; rfl), hbel2⟩
          have HS := hide (show keeps ts fs x y (p.toNat - k2) k2 = (((k2 : Int) == x || (k2 : Int) == y || gainL k2 ts fs == 0) && keeps ts fs x y (p.toNat - (k2 + 1)) (k2 + 1)) by
            rw [show p.toNat - k2 = (p.toNat - (k2 + 1)) + 1 by omega]; rfl)
          by_cases hx : (k2 : Int) = x
          · have hxb : ((k2 : Int) != x) = false := by simpa using hx
            have HS2 := hide (show keeps ts fs x y (p.toNat - k2) k2 = keeps ts fs x y (p.toNat - (k2 + 1)) (k2 + 1) by rw [HS.out]; simp [hx])
            clear HS hx
            go_wp2
            go_roundw
            case rel => exact ⟨k2 + 1, by omega, by go_num, hbk2, by rw [HR2.out, HS2.out], hbel2⟩
            case measure => simp [intOf]; omega
          have hxb : ((k2 : Int) != x) = true := by simpa using hx
          by_cases hy : (k2 : Int) = y
          · have hyb : ((k2 : Int) != y) = false := by simpa using hy
            have HS2 := hide (show keeps ts fs x y (p.toNat - k2) k2 = keeps ts fs x y (p.toNat - (k2 + 1)) (k2 + 1) by rw [HS.out]; simp [hy])
            clear HS hx hy
            go_wp2
            go_roundw
            case rel => exact ⟨k2 + 1, by omega, by go_num, hbk2, by rw [HR2.out, HS2.out], hbel2⟩
            case measure => simp [intOf]; omega
          have hyb : ((k2 : Int) != y) = true := by simpa using hy
          have HS2 := hide (show keeps ts fs x y (p.toNat - k2) k2 = ((gainL k2 ts fs == 0) && keeps ts fs x y (p.toNat - (k2 + 1)) (k2 + 1)) by rw [HS.out, show ((k2 : Int) == x) = false by simpa using hx, show ((k2 : Int) == y) = false by simpa using hy]; rfl)
          clear HS hx hy
          have HGk := hide (HG.out (k2 : Int))
          generalize gainL (k2 : Int) ts fs = q at *
          go_wp2_with fail
          (with_reducible refine (HGk.out _ hbel2).mono ?_)
          rintro e w3 ⟨rfl, hb3⟩
          have hbk3 := heap_grow hbk2 hb3
          have hbel3 := belT hbel2 hb3
          by_cases hq : q = 0
          · have hqb : (q != 0) = false := by simpa using hq
            have HS3 := hide (show keeps ts fs x y (p.toNat - k2) k2 = keeps ts fs x y (p.toNat - (k2 + 1)) (k2 + 1) by rw [HS2.out]; simp [hq])
            clear hq HS2
            go_wp2
            go_roundw
            case rel => exact ⟨k2 + 1, by omega, by go_num, hbk3, by rw [HR2.out, HS3.out], hbel3⟩
            case measure => simp [intOf]; omega
          · have hqb : (q != 0) = true := by simpa using hq
            have HS3 := hide (show keeps ts fs x y (p.toNat - k2) k2 = false by rw [HS2.out]; simp [hq])
            clear hq HS2
            go_wp2
            go_ret
            exact ⟨ret_bool (by rw [HM2.out, HR2.out, HS3.out]), hbel3⟩

/-- What came into each place out of the first k pipes, minus what went out. -/
def sumsM (ts : List T3) (fs : List Int) (n k : Nat) : List Int := (List.range n).map fun (i : Nat) => gainL i (ts.drop k) (fs.drop k) - gainL i ts fs
theorem sums_length (ts : List T3) (fs : List Int) (n k : Nat) : (sumsM ts fs n k).length = n := by simp [sumsM]
theorem sums_getD (ts : List T3) (fs : List Int) (n k i : Nat) (h : i < n) : (sumsM ts fs n k).getD i 0 = gainL i (ts.drop k) (fs.drop k) - gainL i ts fs := by
  simp [sumsM, List.getD_eq_getElem?_getD, h]
theorem sums_zero (ts : List T3) (fs : List Int) (n : Nat) : sumsM ts fs n 0 = List.replicate n 0 := by
  apply List.ext_getElem
  · simp [sumsM]
  · intro i h1 h2; simp [sumsM]
theorem sums_step (ts : List T3) (fs : List Int) (n k a b : Nat) (h : k < ts.length) (h' : k < fs.length) (ha : (ts.getD k default).1 = a) (hb : (ts.getD k default).2.1 = b) (hab : a ≠ b) (han : a < n) (hbn : b < n) :
    ((sumsM ts fs n k).set a ((sumsM ts fs n k).getD a 0 - fs.getD k 0)).set b ((sumsM ts fs n k).getD b 0 + fs.getD k 0) = sumsM ts fs n (k + 1) := by
  rw [sums_getD _ _ _ _ _ han, sums_getD _ _ _ _ _ hbn]
  apply List.ext_getElem
  · simp [sumsM]
  · intro i h1 h2
    have hi : i < n := by simpa [sumsM] using h2
    have hg := gain_drop (i : Int) ts fs k h h'
    rw [ha, hb] at hg
    rw [List.getElem_set, List.getElem_set]
    by_cases hbi : b = i
    · subst hbi
      have : ¬ (a : Int) = (b : Int) := by omega
      simp only [if_true, this, if_false] at hg ⊢
      simp only [sumsM, List.getElem_map, List.getElem_range]
      omega
    · by_cases hai : a = i
      · subst hai
        have : ¬ (b : Int) = (a : Int) := by omega
        simp only [if_true, this, if_false, hbi] at hg ⊢
        simp only [sumsM, List.getElem_map, List.getElem_range]
        omega
      · have e1 : ¬ (a : Int) = (i : Int) := by omega
        have e2 : ¬ (b : Int) = (i : Int) := by omega
        simp only [e1, e2, if_false, hbi, hai] at hg ⊢
        simp only [sumsM, List.getElem_map, List.getElem_range]
        omega

theorem getD_set_ne' {xs : List Int} {a b : Nat} (h : a ≠ b) (v : Int) : (xs.set a v).getD b 0 = xs.getD b 0 := by
  rw [List.getD_eq_getElem?_getD, List.getElem?_set_ne h, ← List.getD_eq_getElem?_getD]
theorem withinA_getD {xs : List Int} {m : Int} (h : ∀ j, j < xs.length → -m ≤ xs.getD j 0 ∧ xs.getD j 0 ≤ m) (j : Nat) (hj : j < xs.length) : -m ≤ xs.getD j 0 ∧ xs.getD j 0 ≤ m := h j hj

/-- Each number lies within m. -/
def withinA (xs : List Int) (m : Int) : Prop := ∀ j, j < xs.length → -m ≤ xs.getD j 0 ∧ xs.getD j 0 ≤ m
theorem withinA_set {xs : List Int} {m m' v : Int} (h : withinA xs m) (j : Nat) (hm : m ≤ m') (hv : -m' ≤ v ∧ v ≤ m') : withinA (xs.set j v) m' := by
  intro i hi
  rw [List.length_set] at hi
  by_cases e : j = i
  · subst e; simpa [List.getD_eq_getElem?_getD, hi] using hv
  · rw [List.getD_eq_getElem?_getD, List.getElem?_set_ne e, ← List.getD_eq_getElem?_getD]
    have := h i hi
    omega

set_option maxHeartbeats 2000000 in
theorem specFlowOk_any (p x y : Int) (a af : Option Addr) (cap capf : Nat) (ts : List T3) (fs : List Int) (w : World) (hc : Rd3 w a ts) (hf : Rd w af fs) (hn : ts.length ≤ 1048576) (hnf : fs.length ≤ 1048576) :
    Calls Try.prog 51 #[.agg #[.int .i64 p, .slice a ts.length cap], .slice af fs.length capf, .int .i64 x, .int .i64 y] w fun e w' => Rets w (.bool (flowOkM p ts fs x y)) e w' := by
  have HT := hide (fun W (hb : Below w.heap.size w W) => l08Two_any p a cap ts x y W (hc.below hb) hn)
  cases hk : twoM p ts x y with
  | false =>
    have HM := hide (show flowOkM p ts fs x y = false by simp [flowOkM, hk])
    rw [hk] at HT
    clear hk
    go_enter Try.func51, Try.ntmps51
    go_wp2_with fail
    (with_reducible refine (HT.out _ (belA (Below.refl _ _))).mono ?_)
    rintro e w2 ⟨rfl, hb⟩
    have b0 := belT (belA (Below.refl w.heap.size w)) hb
    have hbk := heap_grow (blk_new w #[.int .i64 p, .slice a ts.length cap] 26) hb
    have c0 := cell_of_block hbk 0
    have c1 := cell_of_block hbk 1
    simp at c0 c1
    go_wp2
    go_ret
    exact ⟨ret_bool HM.out.symm, b0⟩
  | true =>
    obtain ⟨⟨p1, p2⟩, ⟨hl, hall⟩, ⟨x0, x1⟩, ⟨y0, y1⟩, _⟩ := twoM_parts hk
    by_cases hlf : fs.length = ts.length
    case neg =>
      have HM := hide (show flowOkM p ts fs x y = false by simp [flowOkM, hlf])
      have hlb : ((fs.length : Int) != (ts.length : Int)) = true := by simp; omega
      rw [hk] at HT
      clear hk hlf hall
      go_enter Try.func51, Try.ntmps51
      go_wp2_with fail
      (with_reducible refine (HT.out _ (belA (Below.refl _ _))).mono ?_)
      rintro e w2 ⟨rfl, hb⟩
      have b0 := belT (belA (Below.refl w.heap.size w)) hb
      have hbk := heap_grow (blk_new w #[.int .i64 p, .slice a ts.length cap] 26) hb
      have c0 := cell_of_block hbk 0
      have c1 := cell_of_block hbk 1
      simp at c0 c1
      go_wp2
      go_ret
      exact ⟨ret_bool HM.out.symm, b0⟩
    have HM := hide (show flowOkM p ts fs x y = (fits ts fs && keeps ts fs x y p.toNat 0) by simp [flowOkM, hk, hlf])
    have hlb : ((fs.length : Int) != (ts.length : Int)) = false := by simp [hlf]
    have HA := hide hall
    have HLF := hide hlf
    rw [hk] at HT
    clear hk hall hlf
    obtain ⟨pn, rfl⟩ := Int.eq_ofNat_of_zero_le (show 0 ≤ p by omega)
    have hmk := fun W => make_ints 30 Try.underlying30 pn (by omega) W
    go_enter Try.func51, Try.ntmps51
    go_wp2_with fail
    (with_reducible refine (HT.out _ (belA (Below.refl _ _))).mono ?_)
    rintro e w2 ⟨rfl, hb⟩
    have b0 := belT (belA (Below.refl w.heap.size w)) hb
    have hbk := heap_grow (blk_new w #[.int .i64 pn, .slice a ts.length cap] 26) hb
    have c0 := cell_of_block hbk 0
    have c1 := cell_of_block hbk 1
    simp at c0 c1
    have hk0 := hide hbk
    go_wp2
    clear hmk c0 c1 hlb
    have hg0 := hb.size
    have hw2 : w.heap.size < w2.heap.size := by simp at hg0; omega
    go_loopw [10] (fun i wr => ∃ (k : Nat), k ≤ ts.length ∧ i = .int .i64 k ∧ wr.heap[w.heap.size]? = some (.cells #[.int .i64 pn, .slice a ts.length cap] 26 (0, 0)) ∧ OwnI wr w2.heap.size 3 (sumsM ts fs pn k) ∧ withinA (sumsM ts fs pn k) (k * 1000) ∧ fits ts fs = fits (ts.drop k) (fs.drop k) ∧ Below w.heap.size w wr) (fun i _ => ts.length - (intOf i).toNat)
    case atStart =>
      refine ⟨0, Nat.zero_le _, rfl, blk_alloc hk0.out, by rw [sums_zero]; exact own_zero w2 _ _, ?_, rfl, belA b0⟩
      rw [sums_zero]; intro j hj; simp [List.getD_eq_getElem?_getD] at hj ⊢; simp [hj]
    case round =>
      obtain ⟨k, hk, rfl, hbk', hown, hwi, hr, hbel⟩ := hrel
      have HR := hide hr
      clear hr hbk hk0
      have c0 := cell_of_block hbk' 0
      have c1 := cell_of_block hbk' 1
      simp at c0 c1
      have hbl := (Array.getElem?_eq_some_iff.1 hbk').1
      by_cases hlt : k < ts.length
      · have hltf : k < fs.length := by rw [HLF.out]; exact hlt
        obtain ⟨b, off, rfl, hcell, hcell1, hcell2⟩ := hc.below hbel k hlt
        obtain ⟨b', off', rfl, hcf⟩ := hf.below hbel k hltf
        have HD := hide (fits_drop ts fs k hlt hltf)
        obtain ⟨m1, m2, m3, m4, m5, m6, m7⟩ := pipeOk_iff.1 (HA.out _ (getD_mem3 hlt))
        have HSt := hide (fun A B => sums_step ts fs pn k A B hlt hltf)
        generalize ts.getD k default = u at *
        generalize fs.getD k 0 = f at *
        obtain ⟨u0, u1, z⟩ := u
        simp only at hcell hcell1 hcell2 m1 m2 m3 m4 m5 m6 m7
        obtain ⟨A, rfl⟩ := Int.eq_ofNat_of_zero_le m1
        obtain ⟨B, rfl⟩ := Int.eq_ofNat_of_zero_le m3
        have hAn : A < pn := by omega
        have hBn : B < pn := by omega
        have hAB : A ≠ B := by omega
        have HSt2 := hide (HSt.out A B rfl rfl hAB hAn hBn)
        have hqA := hwi A (by rw [sums_length]; exact hAn)
        have hqB := hwi B (by rw [sums_length]; exact hBn)
        have HqA := hide (hown.cell A (by rw [sums_length]; exact hAn))
        have HW := hide hwi
        clear hwi HSt
        have HGB := hide (getD_set_ne' (xs := sumsM ts fs pn k) hAB ((sumsM ts fs pn k).getD A 0 - f))
        generalize hqa : (sumsM ts fs pn k).getD A 0 = qa at *
        generalize hqb : (sumsM ts fs pn k).getD B 0 = qb at *
        have bl := World.block_lt_of_cell? wr _ hcell
        have bl' := World.block_lt_of_cell? wr _ hcf
        simp at bl bl'
        have hbq1 := blk_alloc (o := .cells #[.int .i64 A, .int .i64 B, .int .i64 z] 60) hbk'
        have j1 : (0 : Int) ≤ (k : Int) := by omega
        have j2 : (k : Int) < (fs.length : Int) := by omega
        have HO := hide hown
        clear hqa hqb hown
        go_wp2
        go_quiet ((go_at_call 48; exact Calls.quiet_of_same ((l01In_any _ _ _ _).mono fun _ _ ⟨he, hw⟩ => ⟨he, hw.symm⟩)))
        go_wp2
        · go_ret
          exact ⟨ret_bool (by rw [HM.out, HR.out, HD.out]; simp_all), (by repeat first | exact Below.refl _ _ | assumption | (refine belA ?_) | (refine belD ?_) | (refine belN ?_) | (refine belS ?_ (by simp <;> omega)) | (refine belT ?_ (by assumption)))⟩
        · have hfz : 0 ≤ f ∧ f ≤ z := by
            have : inB f 0 z = true := by simp_all
            exact inB_iff.1 this
          have f0 := hfz.1
          have f1 : f ≤ 1000 := by omega
          have qa1 : -20000 ≤ qa := by omega
          have qa2 : qa ≤ 20000 := by omega
          have qb1 : -20000 ≤ qb := by omega
          have qb2 : qb ≤ 20000 := by omega
          have hqa' := HqA.out
          have ha0 := frozen_of_block HO.out A
          have b2r : w2.heap.size < wr.heap.size := HO.out.lt
          have a0 : (0 : Int) ≤ (A : Int) := by omega
          have a1 : (A : Int) < (pn : Int) := by omega
          have W1 : IntKind.i64.wrap (qa - f) = qa - f := IntWalk.i64_in _ (by omega)
          have hP1 := blk_new wr #[.int .i64 A, .int .i64 B, .int .i64 z] 60
          refine region_tail 14 (by kernel_rfl) (by kernel_rfl) (fun w1 hh1 hc1 hf1 hb1 => ?_)
          simp only [List.take_succ_cons, List.take_zero, List.drop_succ_cons, List.drop_zero]
          iterate 14 still_step
          refine wpStill_nil ?_
          go_wp2
          have bw' : b' < w.heap.size := by
            obtain ⟨b2, off2, e2, h2⟩ := hf k hltf
            cases e2
            have := World.block_lt_of_cell? w _ h2
            simpa using this
          have O1 : OwnI w1 w2.heap.size 3 (sumsM ts fs pn k) := by
            unfold OwnI; rw [hh1]; exact blk_alloc HO.out
          have P1 : w1.heap[wr.heap.size]? = some (.cells #[.int .i64 A, .int .i64 B, .int .i64 z] 60 (0, 0)) := by rw [hh1]; exact hP1
          have N1 : w1.heap[w.heap.size]? = some (.cells #[.int .i64 pn, .slice (some ⟨b, off, none⟩) ts.length cap] 26 (0, 0)) := by rw [hh1]; exact hbq1
          have F1 : w1.cell? ⟨b', off' + k, none⟩ = some (.int .i64 f) := by rw [hc1]; exact cellB (below_drewN ((Below.refl _ _).alloc (Nat.le_refl _) _) nq) hcf
          have B1 : Below w.heap.size w w1 := belT (belA hbel) ⟨hb1.os, hb1.tape, hb1.output, hb1.size, hb1.block⟩
          have O2 := O1.set A (qa - f)
          have P2 := blk_other (i := A) (v := .int .i64 (qa - f)) P1 (show wr.heap.size ≠ w2.heap.size by omega)
          have N2 := blk_other (i := A) (v := .int .i64 (qa - f)) N1 (show w.heap.size ≠ w2.heap.size by omega)
          have F2 := ((below_set w1 w2.heap.size A (.int .i64 (qa - f))).cell (p := ⟨b', off' + k, none⟩) (show b' < w2.heap.size by omega)).trans F1
          have B2 := belS (p := ⟨w2.heap.size, A, none⟩) (u := .int .i64 (qa - f)) B1 (by simp only; omega)
          generalize w1.setCell ⟨w2.heap.size, A, none⟩ (.int .i64 (qa - f)) = W2 at *
          have qB2 := O2.cell B (by rw [List.length_set, sums_length]; exact hBn)
          rw [HGB.out] at qB2
          have hb0 := frozen_of_block O2 B
          have hPl := (Array.getElem?_eq_some_iff.1 P2).1
          have d0 := cell_of_block P2 0
          have d1 := cell_of_block P2 1
          have d2 := cell_of_block P2 2
          simp at d0 d1 d2
          have e0 := cell_of_block N2 0
          have e1 := cell_of_block N2 1
          simp at e0 e1
          have HO2 := hide O2
          have HP2 := hide P2
          have HN2 := hide N2
          have g0 : (0 : Int) ≤ (B : Int) := by omega
          have g1 : (B : Int) < (pn : Int) := by omega
          have hW2 : IntKind.i64.wrap (qb + f) = qb + f := IntWalk.i64_in _ (by omega)
          clear O1 O2 P1 P2 N1 N2 F1 hh1 hc1 hf1 hb1 B1 W1 hqa' ha0 hP1 hcell hcell1 hcell2 hcf c0 c1 hbk' hbq1 HT
          refine region_tail 14 (by kernel_rfl) (by kernel_rfl) (fun w3 hh3 hc3 hf3 hb3 => ?_)
          simp only [List.take_succ_cons, List.take_zero, List.drop_succ_cons, List.drop_zero]
          iterate 14 still_step
          refine wpStill_nil ?_
          go_wp2
          have O3 : OwnI w3 w2.heap.size 3 ((sumsM ts fs pn k).set A (qa - f)) := by
            unfold OwnI; rw [hh3]; exact HO2.out
          have N3 : w3.heap[w.heap.size]? = some (.cells #[.int .i64 pn, .slice (some ⟨b, off, none⟩) ts.length cap] 26 (0, 0)) := by rw [hh3]; exact HN2.out
          have O4 := O3.set B (qb + f)
          rw [HSt2.out] at O4
          have N4 := blk_other (i := B) (v := .int .i64 (qb + f)) N3 (show w.heap.size ≠ w2.heap.size by omega)
          have B4 := belS (p := ⟨w2.heap.size, B, none⟩) (u := .int .i64 (qb + f)) (belT B2 hb3) (by simp only; omega)
          have HW4 := hide (withinA_set (withinA_set HW.out A (m' := (k : Int) * 1000 + 1000) (v := qa - f) (by omega) (by omega)) B (m' := ((k + 1 : Nat) : Int) * 1000) (v := qb + f) (by omega) (by omega))
          rw [HSt2.out] at HW4
          clear O3 N3 hh3 hc3 hf3 hb3 B2 hW2 qB2 hb0 d0 d1 d2 e0 e1 HO2 HP2 HN2 F2
          go_roundw
          case rel => exact ⟨k + 1, by omega, by go_num, N4, O4, HW4.out, by rw [HR.out, HD.out]; simp_all, B4⟩
          case measure => simp [intOf]; omega
      · have hkl : k = ts.length := by omega
        subst hkl
        have HM2 := hide (show flowOkM pn ts fs x y = keeps ts fs x y pn 0 by
          rw [HM.out, HR.out, List.drop_of_length_le (Nat.le_refl _), Int.toNat_natCast]; rfl)
        have HV := hide (fun (i : Nat) (hi : i < pn) => (show (sumsM ts fs pn ts.length).getD i 0 = - gainL i ts fs by
          rw [sums_getD _ _ _ _ _ hi, List.drop_of_length_le (Nat.le_refl _)]; simp [gainL]))
        have HL := hide (sums_length ts fs pn ts.length)
        clear HM HR hwi
        generalize sumsM ts fs pn ts.length = S at *
        have HO := hide hown
        have hnl : decide (ts.length < fs.length) = false := by have := HLF.out; simp; omega
        clear hown
        go_wp2
        clear c0 c1 hnl
        go_loopw [12] (fun i wq => ∃ (k : Nat), k ≤ pn ∧ i = .int .i64 k ∧ wq.heap[w.heap.size]? = some (.cells #[.int .i64 pn, .slice a ts.length cap] 26 (0, 0)) ∧ OwnI wq w2.heap.size 3 S ∧ keeps ts fs x y pn 0 = keeps ts fs x y (pn - k) k ∧ Below w.heap.size w wq) (fun i _ => pn - (intOf i).toNat)
        case atStart => exact ⟨0, Nat.zero_le _, rfl, hbk', HO.out, rfl, hbel⟩
        case round =>
          obtain ⟨k2, hk2, rfl, hbk2, hown2, hr2, hbel2⟩ := hrel
          have HR2 := hide hr2
          clear hr2 hbk' hbel hlt HO
          have c0 := cell_of_block hbk2 0
          have c1 := cell_of_block hbk2 1
          simp at c0 c1
          by_cases hlt : k2 < pn
          case neg =>
            go_wp2
            go_ret
            exact ⟨ret_bool (by rw [HM2.out, HR2.out, show pn - k2 = 0 by omega]; rfl), hbel2⟩
          have HS := hide (show keeps ts fs x y (pn - k2) k2 = (((k2 : Int) == x || (k2 : Int) == y || gainL k2 ts fs == 0) && keeps ts fs x y (pn - (k2 + 1)) (k2 + 1)) by
            rw [show pn - k2 = (pn - (k2 + 1)) + 1 by omega]; rfl)
          have hq := hown2.cell k2 (by rw [HL.out]; exact hlt)
          rw [HV.out k2 hlt] at hq
          have HO2 := hide hown2
          clear hown2
          by_cases hx : (k2 : Int) = x
          · have hxb : ((k2 : Int) != x) = false := by simpa using hx
            have HS2 := hide (show keeps ts fs x y (pn - k2) k2 = keeps ts fs x y (pn - (k2 + 1)) (k2 + 1) by rw [HS.out]; simp [hx])
            clear HS hx
            go_wp2
            go_roundw
            case rel => exact ⟨k2 + 1, by omega, by go_num, hbk2, HO2.out, by rw [HR2.out, HS2.out], hbel2⟩
            case measure => simp [intOf]; omega
          have hxb : ((k2 : Int) != x) = true := by simpa using hx
          by_cases hy : (k2 : Int) = y
          · have hyb : ((k2 : Int) != y) = false := by simpa using hy
            have HS2 := hide (show keeps ts fs x y (pn - k2) k2 = keeps ts fs x y (pn - (k2 + 1)) (k2 + 1) by rw [HS.out]; simp [hy])
            clear HS hx hy
            go_wp2
            go_roundw
            case rel => exact ⟨k2 + 1, by omega, by go_num, hbk2, HO2.out, by rw [HR2.out, HS2.out], hbel2⟩
            case measure => simp [intOf]; omega
          have hyb : ((k2 : Int) != y) = true := by simpa using hy
          have HS2 := hide (show keeps ts fs x y (pn - k2) k2 = ((gainL k2 ts fs == 0) && keeps ts fs x y (pn - (k2 + 1)) (k2 + 1)) by rw [HS.out, show ((k2 : Int) == x) = false by simpa using hx, show ((k2 : Int) == y) = false by simpa using hy]; rfl)
          clear HS hx hy
          have HQ := hide (show (-gainL k2 ts fs != 0) = !(gainL k2 ts fs == 0) by
            by_cases h : gainL k2 ts fs = 0
            · rw [h]; rfl
            · rw [show (gainL k2 ts fs == 0) = false by simpa using h]; simp; omega)
          generalize gainL (k2 : Int) ts fs = q at *
          generalize hnq : -q = nq at *
          by_cases hq0 : q = 0
          · have hqb : (nq != 0) = false := by rw [HQ.out, hq0]; rfl
            have HS3 := hide (show keeps ts fs x y (pn - k2) k2 = keeps ts fs x y (pn - (k2 + 1)) (k2 + 1) by rw [HS2.out]; simp [hq0])
            clear hq0 HS2 HQ hnq
            go_wp2
            go_roundw
            case rel => exact ⟨k2 + 1, by omega, by go_num, hbk2, HO2.out, by rw [HR2.out, HS3.out], hbel2⟩
            case measure => simp [intOf]; omega
          · have hqb : (nq != 0) = true := by rw [HQ.out, show (q == 0) = false by simpa using hq0]; rfl
            have HS3 := hide (show keeps ts fs x y (pn - k2) k2 = false by rw [HS2.out]; simp [hq0])
            clear hq0 HS2 HQ hnq
            go_wp2
            go_ret
            exact ⟨ret_bool (by rw [HM2.out, HR2.out, HS3.out]), hbel2⟩

end Go.Proofs.Yteimcbhnjhkkbaa
