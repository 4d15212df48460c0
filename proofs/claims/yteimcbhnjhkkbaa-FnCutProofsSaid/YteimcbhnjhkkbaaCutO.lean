/- CutOf: the places that a flow leaves room to, as a set. -/
import Derived.Test.YteimcbhnjhkkbaaFfl3
namespace Go.Proofs.Yteimcbhnjhkkbaa
set_option linter.unusedSimpArgs false
set_option linter.unusedVariables false
open Go.RowKit
open Go.Maps (Keyed)

def maskL (q : List Int) : Int := q.foldl (fun m z => bits .or .i64 m (2 ^ z.toNat)) 0
theorem mask_fold : ∀ (q l : List Int) (M : Int), MaskOk M l → (∀ z ∈ q, 0 ≤ z ∧ z ≤ 7) → MaskOk (q.foldl (fun m z => bits .or .i64 m (2 ^ z.toNat)) M) (l ++ q)
  | [], l, M, h, _ => by simpa using h
  | z :: q, l, M, h, hq => by
    have hz := hq z (List.mem_cons_self ..)
    have := mask_fold q (l ++ [z]) _ (h.add hz.1 hz.2) (fun y hy => hq y (List.mem_cons_of_mem _ hy))
    simpa using this
theorem maskL_ok {q : List Int} (hq : ∀ z ∈ q, 0 ≤ z ∧ z ≤ 7) : MaskOk (maskL q) q := by
  have := mask_fold q [] 0 MaskOk.nil hq
  rw [List.nil_append] at this
  exact this

def cutOfM (p : Int) (ts : List T3) (fs : List Int) (x y : Int) : Int := if flowOkM p ts fs x y then maskL (bfs p.toNat ts fs x).1 else -1

/-- The step of a range over the map of first steps. -/
theorem wpList_next_step {ops : Array Oper} {rest : List Oper} {o : Oper} {a : Act} {Q : Exit → Act → World → Prop} (w : World) (hg : o.guard = none) (it : Operand) (hop : o.op = Op.next it false)
    (b r n : Nat) (D : DataW Unit) (left : Lit → Bool) (cnt : Nat) (hit : a.eval it = .pointer (some ⟨r, 0, none⟩)) (h : w.ranges Try.prog 3 stepElem b r n D left cnt)
    (hDone : cnt = 0 → (∀ kl, left kl = false) → wpList Try.prog ops Q rest (a.put o.dst (.tuple #[.bool false])) w)
    (hMore : ∀ (x p : Int) (k : Bool) (w' : World) (cnt' : Nat), left (.int .i64 x) = true → (∀ zd, D.atKey (.int .i64 x) zd = .lit (.int .i64 (2 * p + bI k))) → w'.ranges Try.prog 3 stepElem b r n D (fun z => left z && !z.sameKey (.int .i64 x)) cnt' → cnt' < cnt →
      w.grownBy w' (some r) → w'.heap.size = w.heap.size → (Instr.entry (.pointer (some ⟨r, 0, none⟩))).run Try.prog w' = .ok (.tuple #[.int .i64 x, .agg #[.int .i64 p, .bool k]]) w' → wpList Try.prog ops Q rest (a.put o.dst (.tuple #[.bool true, .int .i64 x, .agg #[.int .i64 p, .bool k]])) w') :
    wpList Try.prog ops Q (o :: rest) a w :=
  wpList_next_ranges w hg it hop 3 keyedI stepElem (Value.int .i64) (fun c : Int × Bool => .agg #[.int .i64 c.1, .bool c.2]) (fun key kl hkey => by obtain ⟨x, rfl, _⟩ := Maps.keyOf_int_inv Try.underlying3 hkey; exact ⟨x, rfl⟩) (fun v y hv => by obtain ⟨p, k, rfl, _⟩ := stepElem_inv hv; exact ⟨(p, k), rfl⟩)
    b r n D left cnt hit h hDone (fun x c kl y w' cnt' hkey hlk hv hat hrg hlt hgr hsz hen => by
      obtain ⟨x', ex, rfl, _⟩ := Maps.keyOf_int_inv Try.underlying3 hkey
      cases ex
      obtain ⟨p, k, e, rfl⟩ := stepElem_inv hv
      have e1 : c = (p, k) := by
        obtain ⟨c1, c2⟩ := c
        simp at e
        rw [e.1, e.2]
      subst e1
      exact hMore x p k w' cnt' hlk hat hrg hlt hgr hsz hen)

theorem same_int (a b : Int) : (Lit.int .i64 a).sameKey (.int .i64 b) = decide (a = b) := by
  by_cases h : a = b
  · subst h; rw [WideAt.sameKey_self (isKeyI a)]; simp
  · rw [Maps.sameKey_ne (litI h)]; simp [h]

/-- What a range over the map has gathered: those places that are not still to come. -/
def Gath (M : Int) (q : List Int) (left : Lit → Bool) : Prop := ∃ l, MaskOk M l ∧ ∀ z : Int, z ∈ l ↔ (z ∈ q ∧ left (.int .i64 z) = false)
theorem Gath.start {q : List Int} {D : DataW Unit} (h : ∀ z : Int, Maps.has D (.int .i64 z) = decide (z ∈ q)) : Gath 0 q (Maps.has D) :=
  ⟨[], MaskOk.nil, fun z => by rw [h z]; simp⟩
theorem Gath.next {M : Int} {q : List Int} {left : Lit → Bool} (h : Gath M q left) {x : Int} (hq : x ∈ q) (x0 : 0 ≤ x) (x7 : x ≤ 7) : Gath (bits .or .i64 M (2 ^ x.toNat)) q (fun z => left z && !z.sameKey (.int .i64 x)) := by
  obtain ⟨l, h1, h2⟩ := h
  refine ⟨l ++ [x], h1.add x0 x7, fun z => ?_⟩
  rw [List.mem_append, h2 z]
  show _ ↔ z ∈ q ∧ (left (.int .i64 z) && !(Lit.int .i64 z).sameKey (.int .i64 x)) = false
  rw [same_int]
  by_cases e : z = x
  · subst e; simp [hq]
  · simp [e]
theorem Gath.end_ {M : Int} {q : List Int} {left : Lit → Bool} (h : Gath M q left) (hl : ∀ kl, left kl = false) : MaskOk M q := by
  obtain ⟨l, h1, h2⟩ := h
  exact h1.same fun z => by rw [h2 z, hl]; simp

theorem Gath.bd {M : Int} {q : List Int} {left : Lit → Bool} (h : Gath M q left) : 0 ≤ M ∧ M < 256 := by obtain ⟨l, h1, _⟩ := h; exact h1.bd
theorem xFacts {n : Nat} {ts : List T3} {fs : List Int} {x x' c : Int} {s : St} {D : DataW Unit} (hI : BInv n ts fs x s) (hco : CameOk x s D) (hn : n ≤ 8) (hat : ∀ zd, D.atKey (.int .i64 x') zd = .lit (.int .i64 c)) : x' ∈ s.1 ∧ 0 ≤ x' ∧ x' ≤ 7 := by
  have h1 := Maps.has_true_of_atKey hat
  rw [hco.has] at h1
  have h2 : x' ∈ s.1 := by simpa using h1
  have := hI.rng x' h2
  exact ⟨h2, this.1, by omega⟩
theorem rFacts {B r : Nat} (h : B ≤ r) : ∀ k, some r = some k → B ≤ k := fun k hk => by cases hk; exact h

set_option maxRecDepth 100000 in
set_option maxHeartbeats 4000000 in
theorem implCutOf_any (p x y : Int) (a af : Option Addr) (cap capf : Nat) (ts : List T3) (fs : List Int) (w : World) (hc : Rd3 w a ts) (hf : Rd w af fs) (hn : ts.length ≤ 1048576) (hnf : fs.length ≤ 1048576) :
    Calls Try.prog 13 #[.agg #[.int .i64 p, .slice a ts.length cap], .slice af fs.length capf, .int .i64 x, .int .i64 y] w fun e w' => Rets w (.int .i64 (cutOfM p ts fs x y)) e w' := by
  have HT := hide (fun W (hb : Below w.heap.size w W) => implFlowOk_any p x y a af cap capf ts fs W (hc.below hb) (hf.below hb) hn hnf)
  cases hk : flowOkM p ts fs x y with
  | false =>
    have HM := hide (show cutOfM p ts fs x y = -1 by simp [cutOfM, hk])
    rw [hk] at HT
    clear hk
    go_enter Try.func13, Try.ntmps13
    go_wp2_with fail
    (with_reducible refine (HT.out _ (belA (Below.refl _ _))).mono ?_)
    rintro e w2 ⟨rfl, hb⟩
    have b0 := belT (belA (Below.refl w.heap.size w)) hb
    go_wp2
    go_ret
    exact ⟨ret_int HM.out.symm, b0⟩
  | true =>
    obtain ⟨h1, h2, h3, h4, h5, h6⟩ := flowOk_parts hk
    obtain ⟨⟨p1, p2⟩, _, ⟨x0, x1⟩, _, _⟩ := twoM_parts h1
    have HM := hide (show cutOfM p ts fs x y = maskL (bfs p.toNat ts fs x).1 by simp [cutOfM, hk])
    have hnet : netOk p ts = true := by simp only [twoM, Bool.and_eq_true] at h1; exact h1.1.1.1
    obtain ⟨n, rfl⟩ := Int.eq_ofNat_of_zero_le (show 0 ≤ p by omega)
    obtain ⟨x, rfl⟩ := Int.eq_ofNat_of_zero_le x0
    rw [Int.toNat_natCast] at HM
    have HB := hide (fun W (hb : Below w.heap.size w W) => breadth_any n x a af cap capf ts fs W (hc.below hb) (hf.below hb) hnet (by omega) h2)
    have HI := hide (bfs_inv (inP_of hnet) h2 (x := (x : Int)) (by omega) (by omega)).1
    rw [hk] at HT
    clear hk h1 h2 h3 h4 h6 hnet
    generalize bfs n ts fs (x : Int) = s at *
    go_enter Try.func13, Try.ntmps13
    go_wp2_with fail
    (with_reducible refine (HT.out _ (belA (Below.refl _ _))).mono ?_)
    rintro e w2 ⟨rfl, hb⟩
    have b0 := belT (belA (Below.refl w.heap.size w)) hb
    have hbk := heap_grow (blk_new w #[.int .i64 n, .slice a ts.length cap] 26) hb
    have c0 := cell_of_block hbk 0
    have c1 := cell_of_block hbk 1
    simp at c0 c1
    go_wp2_with fail
    (with_reducible refine (HB.out _ b0).mono ?_)
    rintro e w3 ⟨mb, hmb, rfl, hcm, hb3⟩
    obtain ⟨D, nn, hown, hnn, hco⟩ := hcm
    have b3 := belT b0 hb3
    clear c0 c1 hb hb3 HT HB b0 hbk
    go_wp2_with (first | (at_range; refine wpList_range_own _ rfl _ 62 rfl 3 72 keyedI Try.underlying62 _ mb nn D rfl hown ?_; intro w4 hrg4 hg4 hs4) | fail)
    go_frame
    have b4 : Below w.heap.size w w4 := b3.trans ⟨hg4.os, hg4.tape, hg4.output, hg4.size, fun k hk => hg4.block k (by have := b3.size; omega) (by simp)⟩
    have hrb : mb < w4.heap.size := by have := hown.lt; omega
    have HG0 := hide (Gath.start hco.has)
    have HR0 := hide hrg4
    clear hrg4 hg4 hs4 hown
    have hrr : w.heap.size ≤ w3.heap.size := b3.size
    generalize w3.heap.size = r at *
    go_loopw [9] (fun m wr => ∃ (M : Int) (left : Lit → Bool) (cnt : Nat), m = .int .i64 M ∧ Hid (Gath M s.1 left) ∧ Hid (wr.ranges Try.prog 3 stepElem mb r nn D left cnt) ∧ Below w.heap.size w wr) (fun _ wr => wr.rangeLeft mb r)
    case atStart => exact ⟨0, _, _, rfl, HG0, HR0, b4⟩
    case round =>
      clear HG0 HR0
      obtain ⟨M, left, cnt, rfl, HG, HR, hbr⟩ := hrel
      have hMb := HG.out.bd
      have HRe := hide HR.out.left_eq
      go_wp2_with (first | (at_next; refine wpList_next_step _ rfl _ rfl mb r nn D left cnt rfl HR.out ?_ ?_; rotate_left; (intro x' sp sk w5 cnt1 hlx hat hrg1 hlt hg1 hs1 hen; obtain ⟨hxm, hxr0, hxr7⟩ := xFacts HI.out hco (by omega) hat; have HG1 := hide (HG.out.next hxm hxr0 hxr7); have mo := HG1.out.bd; obtain ⟨w6, w7⟩ := pow_bd hxr0 (show x' ≤ 8 by omega); have HR1 := hide hrg1; have HL1 := hide hrg1.left_eq; have hb5 := hbr.grown hg1 hbr.size (rFacts hrr); clear hat hrg1 hg1 hs1 hlx); rotate_left; (intro _ hl0; have HE := hide (HG.out.end_ hl0); clear hl0)) | fail)
      · go_ret
        exact ⟨ret_int (by rw [HM.out]; exact HE.out.ext (maskL_ok fun z hz => by have := HI.out.rng z hz; omega)), hbr⟩
      · go_roundw
        case rel => exact ⟨_, _, cnt1, rfl, HG1, HR1, hb5⟩
        case measure => rw [HL1.out, HRe.out]; omega

theorem codeAt {n : Nat} {ts : List T3} {fs : List Int} {x : Int} {s : St} (h : BInv n ts fs x s) (k : Nat) (hk : k < n) : 0 ≤ s.2.getD k 0 ↔ ((k : Int) ∈ s.1 ∧ (k : Int) ≠ x) := by
  by_cases hm : (k : Int) ∈ s.1
  · by_cases hx : (k : Int) = x
    · have := h.at0
      rw [← hx, Int.toNat_natCast] at this
      rw [this]; simp [hx]
    · obtain ⟨j, hj, e⟩ := mem_getDI hm
      have j0 : 0 < j := by
        rcases Nat.eq_zero_or_pos j with rfl | h0
        · exact absurd (e.symm.trans h.head) hx
        · exact h0
      have := (h.step j j0 hj).1
      rw [e, Int.toNat_natCast] at this
      exact ⟨fun _ => ⟨hm, hx⟩, fun _ => this⟩
  · have := h.out k (by omega) (by omega) hm
    rw [Int.toNat_natCast] at this
    rw [this]; simp [hm]

/-- What the reference has gathered ahead of place k. -/
def GathS (M : Int) (q : List Int) (x : Int) (k : Nat) : Prop := ∃ l, MaskOk M l ∧ ∀ z : Int, z ∈ l ↔ (z ∈ q ∧ (z = x ∨ z < k))
theorem GathS.bd {M : Int} {q : List Int} {x : Int} {k : Nat} (h : GathS M q x k) : 0 ≤ M ∧ M < 256 := by obtain ⟨l, h1, _⟩ := h; exact h1.bd
theorem GathS.start {q : List Int} {x : Int} (hx : x ∈ q) (hq : ∀ z ∈ q, 0 ≤ z) (x0 : 0 ≤ x) (x7 : x ≤ 7) : GathS (2 ^ x.toNat) q x 0 :=
  ⟨[x], MaskOk.start x0 x7, fun z => by
    simp
    constructor
    · rintro rfl; exact ⟨hx, .inl rfl⟩
    · rintro ⟨h1, h2 | h2⟩
      · exact h2
      · have := hq z h1; omega⟩
theorem GathS.add {M : Int} {q : List Int} {x : Int} {k : Nat} (h : GathS M q x k) (hk : (k : Int) ∈ q) (k7 : k ≤ 7) : GathS (bits .or .i64 M (2 ^ k)) q x (k + 1) := by
  obtain ⟨l, h1, h2⟩ := h
  have h3 := h1.add (z := (k : Int)) (by omega) (by omega)
  rw [Int.toNat_natCast] at h3
  refine ⟨l ++ [(k : Int)], h3, fun z => ?_⟩
  rw [List.mem_append, h2 z]
  by_cases e : z = (k : Int)
  · subst e
    simp only [hk, true_and, List.mem_singleton]
    constructor
    · intro _; right; omega
    · intro _; right; trivial
  · simp only [List.mem_singleton, e, or_false]
    constructor
    · rintro ⟨a, b | b⟩
      · exact ⟨a, .inl b⟩
      · exact ⟨a, .inr (by omega)⟩
    · rintro ⟨a, b | b⟩
      · exact ⟨a, .inl b⟩
      · exact ⟨a, .inr (by omega)⟩
theorem GathS.skip {M : Int} {q : List Int} {x : Int} {k : Nat} (h : GathS M q x k) (hk : ¬ ((k : Int) ∈ q ∧ (k : Int) ≠ x)) : GathS M q x (k + 1) := by
  obtain ⟨l, h1, h2⟩ := h
  refine ⟨l, h1, fun z => ?_⟩
  rw [h2 z]
  constructor
  · rintro ⟨a, b | b⟩
    · exact ⟨a, .inl b⟩
    · exact ⟨a, .inr (by omega)⟩
  · rintro ⟨a, b | b⟩
    · exact ⟨a, .inl b⟩
    · by_cases e : z = (k : Int)
      · subst e
        by_cases e2 : (k : Int) = x
        · exact ⟨a, .inl e2⟩
        · exact absurd ⟨a, e2⟩ hk
      · exact ⟨a, .inr (by omega)⟩
theorem GathS.end_ {M : Int} {q : List Int} {x : Int} {n : Nat} (h : GathS M q x n) (hq : ∀ z ∈ q, z < n) : MaskOk M q := by
  obtain ⟨l, h1, h2⟩ := h
  exact h1.same fun z => by
    rw [h2 z]
    exact ⟨fun a => a.1, fun a => ⟨a, .inr (hq z a)⟩⟩

set_option maxRecDepth 100000 in
set_option maxHeartbeats 4000000 in
theorem specCutOf_any (p x y : Int) (a af : Option Addr) (cap capf : Nat) (ts : List T3) (fs : List Int) (w : World) (hc : Rd3 w a ts) (hf : Rd w af fs) (hn : ts.length ≤ 1048576) (hnf : fs.length ≤ 1048576) :
    Calls Try.prog 22 #[.agg #[.int .i64 p, .slice a ts.length cap], .slice af fs.length capf, .int .i64 x, .int .i64 y] w fun e w' => Rets w (.int .i64 (cutOfM p ts fs x y)) e w' := by
  have HT := hide (fun W (hb : Below w.heap.size w W) => specFlowOk_any p x y a af cap capf ts fs W (hc.below hb) (hf.below hb) hn hnf)
  cases hk : flowOkM p ts fs x y with
  | false =>
    have HM := hide (show cutOfM p ts fs x y = -1 by simp [cutOfM, hk])
    rw [hk] at HT
    clear hk
    go_enter Try.func22, Try.ntmps22
    go_wp2_with fail
    (with_reducible refine (HT.out _ (belA (Below.refl _ _))).mono ?_)
    rintro e w2 ⟨rfl, hb⟩
    have b0 := belT (belA (Below.refl w.heap.size w)) hb
    go_wp2
    go_ret
    exact ⟨ret_int HM.out.symm, b0⟩
  | true =>
    obtain ⟨h1, h2, h3, h4, h5, h6⟩ := flowOk_parts hk
    obtain ⟨⟨p1, p2⟩, _, ⟨x0, x1⟩, _, _⟩ := twoM_parts h1
    have HM := hide (show cutOfM p ts fs x y = maskL (bfs p.toNat ts fs x).1 by simp [cutOfM, hk])
    have hnet : netOk p ts = true := by simp only [twoM, Bool.and_eq_true] at h1; exact h1.1.1.1
    obtain ⟨n, rfl⟩ := Int.eq_ofNat_of_zero_le (show 0 ≤ p by omega)
    rw [Int.toNat_natCast] at HM
    have HB := hide (fun W (hb : Below w.heap.size w W) => l09Search_any n x a af cap capf ts fs W (hc.below hb) (hf.below hb) hnet x0 x1 h2)
    have HI := hide (bfs_inv (inP_of hnet) h2 (x := x) x0 (by omega)).1
    rw [hk] at HT
    clear hk h1 h2 h3 h4 h6 hnet
    generalize bfs n ts fs x = s at *
    go_enter Try.func22, Try.ntmps22
    go_wp2_with fail
    (with_reducible refine (HT.out _ (belA (Below.refl _ _))).mono ?_)
    rintro e w2 ⟨rfl, hb⟩
    have b0 := belT (belA (Below.refl w.heap.size w)) hb
    have hbk := heap_grow (blk_new w #[.int .i64 n, .slice a ts.length cap] 26) hb
    have c0 := cell_of_block hbk 0
    have c1 := cell_of_block hbk 1
    simp at c0 c1
    go_wp2_with fail
    (with_reducible refine (HB.out _ b0).mono ?_)
    rintro e w3 ⟨mb, hmb, rfl, ho, hb3⟩
    have b3 := belT b0 hb3
    have HO := hide ho
    have hxm : x ∈ s.1 := by have := getD_memI HI.out.pos; rw [HI.out.head] at this; exact this
    have HG0 := hide (GathS.start hxm (fun z hz => (HI.out.rng z hz).1) x0 (by omega))
    obtain ⟨w6, w7⟩ := pow_bd x0 (show x ≤ 8 by omega)
    clear c0 c1 hb hb3 HT HB b0 hbk ho hxm
    go_wp2
    generalize (2 : Int) ^ x.toNat = M0 at *
    go_loop [10, 11] (fun m i => ∃ (k : Nat) (M : Int), k ≤ n ∧ i = .int .i64 k ∧ m = .int .i64 M ∧ Hid (GathS M s.1 x k)) (fun m i => n - (intOf i).toNat)
    case atStart => exact ⟨0, M0, Nat.zero_le _, rfl, rfl, HG0⟩
    case round =>
      clear HG0 w6 w7
      obtain ⟨k, M, hk, rfl, rfl, HG⟩ := hrel
      have hMb := HG.out.bd
      by_cases hlt : k < n
      · have hcell := HO.out.cell k (by rw [HI.out.len]; exact hlt)
        have HC := hide (codeAt HI.out k hlt)
        generalize s.2.getD k 0 = c at *
        have kl : (k : Int) < (n : Int) := by omega
        obtain ⟨w6, w7⟩ := pow_bd (show (0 : Int) ≤ (k : Int) by omega) (show (k : Int) ≤ 8 by omega)
        rw [Int.toNat_natCast] at w6 w7
        by_cases h0 : 0 ≤ c
        · have HG1 := hide (HG.out.add (HC.out.1 h0).1 (by omega))
          have mo := HG1.out.bd
          go_wp2
          go_round
          case rel => exact ⟨k + 1, _, by omega, by go_num, rfl, HG1⟩
          case measure => simp [intOf]; omega
        · have HG1 := hide (HG.out.skip (fun h => h0 (HC.out.2 h)))
          have h0' : c < 0 := by omega
          go_wp2
          go_round
          case rel => exact ⟨k + 1, M, by omega, by go_num, rfl, HG1⟩
          case measure => simp [intOf]; omega
      · have hkn : k = n := by omega
        subst hkn
        have HE := hide (HG.out.end_ (fun z hz => (HI.out.rng z hz).2))
        go_wp2
        go_ret
        exact ⟨ret_int (by rw [HM.out]; exact HE.out.ext (maskL_ok fun z hz => by have := HI.out.rng z hz; omega)), b3⟩

end Go.Proofs.Yteimcbhnjhkkbaa
