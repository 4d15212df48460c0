/- Proportional: the program's function. -/
import Derived.Test.YtjcemoofnonlkaaPropM
import Derived.Test.YtjcemoofnonlkaaSort
import Derived.Test.YtjcemoofnonlkaaDry
import Derived.Test.YtjcemoofnonlkaaEqM
import Derived.Test.YtjcemoofnonlkaaEq2
import Derived.Test.YtjcemoofnonlkaaLossM
import Derived.Deep.AppendLies
namespace Go.Proofs.Ytjcemoofnonlkaa
set_option linter.unusedSimpArgs false
set_option linter.unusedVariables false
open Go.RowKit

theorem grownR {w W : World} {r : Option Nat} (h : Below w.heap.size w W) : w.grownBy W r := ⟨h.os, h.tape, h.output, h.size, fun k hk _ => h.block k hk⟩

theorem three_cells (w : World) (v1 v2 v3 : Value) (t1 t2 t3 : TypeId) (wz : World) (h : wz = ((w.alloc (.cells #[v1] t1)).alloc (.cells #[v2] t2)).alloc (.cells #[v3] t3)) :
    wz.cell? ⟨w.heap.size, 0, none⟩ = some v1 ∧ wz.cell? ⟨w.heap.size + 1, 0, none⟩ = some v2 ∧ wz.cell? ⟨w.heap.size + 1 + 1, 0, none⟩ = some v3 ∧ Below w.heap.size w wz ∧ wz.heap.size = w.heap.size + 3 := by
  subst h
  have S : ∀ (W : World) (o : Obj), (W.alloc o).heap[W.heap.size]? = some o := fun W o => by show (Array.push _ _)[_]? = _; simp
  have A1 := S w (.cells #[v1] t1)
  have A2 := S (w.alloc (.cells #[v1] t1)) (.cells #[v2] t2)
  have A3 := S ((w.alloc (.cells #[v1] t1)).alloc (.cells #[v2] t2)) (.cells #[v3] t3)
  rw [World.size_alloc] at A2
  rw [World.size_alloc, World.size_alloc] at A3
  have B1 := heap_grow (heap_grow A1 ((Below.refl _ _).alloc (Nat.le_refl _) (.cells #[v2] t2))) ((Below.refl _ _).alloc (Nat.le_refl _) (.cells #[v3] t3))
  have B2 := heap_grow A2 ((Below.refl _ _).alloc (Nat.le_refl _) (.cells #[v3] t3))
  refine ⟨?_, ?_, ?_, (by repeat first | exact Below.refl _ _ | assumption | (refine belA ?_) | (refine belD ?_) | (refine belN ?_) | (refine belS ?_ (by simp <;> omega)) | (refine belT ?_ (by assumption))), by simp⟩
  · have := cell_of_block B1 0; simpa using this
  · have := cell_of_block B2 0; simpa using this
  · have := cell_of_block A3 0; simpa using this

theorem append1L {ops : Array Oper} {rest : List Oper} {o : Oper} {a : Act} {Q : Exit → Act → World → Prop} {w : World} (hgd : o.guard = none) (s x : Operand)
    (ho : o.op = .call { callee := .builtin .append, args := #[s, x], argTypes := #[25, 25] })
    (base : Nat) (v : Value) (xs : List Int) (n : Nat) (y : Int) (hown : OwnsI base w v xs) (hln : xs.length = n) (hs : a.eval s = v) (hx : a.eval x = .slice (some ⟨w.heap.size, 0, none⟩) 1 1)
    (hn : n ≤ 100000000) (hb : base ≤ w.heap.size)
    (h : ∀ g cap w', OwnsI base w' (.slice (some ⟨g, 0, none⟩) (n + 1) cap) (xs ++ [y]) → w.grownBy w' v.ownBlock → (v.ownBlock = some g ∨ w.heap.size ≤ g) → wpList Try.prog ops Q rest (a.put o.dst (.slice (some ⟨g, 0, none⟩) (n + 1) cap)) w') :
    wpList Try.prog ops Q (o :: rest) a (w.alloc (.cells #[.int .i64 y] 3)) := by
  subst hln
  obtain ⟨i0, hi, hz0, hz1, hz2⟩ := info_parts infoInt
  have ht := Try.underlying25
  refine wpList_append_lies _ hgd s x 25 ho base 3 i0 (.int .i64 0) 1 8 ht hi hz0 hz1 hz2 rfl (by decide) v xs.length (xs.map (Value.int .i64)) hs (World.ownsRow.alloc hown _) ⟨w.heap.size, 0, none⟩ 1 1 [.int .i64 y] hx rfl ?_ ?_ (by decide) ?_ ?_ ?_ _ rfl ?_
  · intro j u hj
    match j, hj with
    | 0, hj => simp at hj; subst hj; simp [Addr.add]
  · intro u hu; simp at hu; subst hu; rfl
  · unfold maxLen; omega
  · omega
  · simp; omega
  · intro g cap w' h1 h2 h3 _
    refine h g cap w' ?_ ?_ ?_
    · unfold OwnsI
      simpa using h1
    · exact grownBy_trans (b := w.alloc (.cells #[.int .i64 y] 3)) (grownR ((Below.refl w.heap.size w).alloc (Nat.le_refl _) _)) h2
    · rcases h3 with h3 | h3
      · exact .inl h3
      · right; simp at h3; omega

theorem OwnsI.kept {base : Nat} {w w' : World} {v : Value} {xs : List Int} {r : Option Nat} (h : OwnsI base w v xs) (hg : w.grownBy w' r) (hne : v.ownBlock = none ∨ v.ownBlock ≠ r) : OwnsI base w' v xs := World.ownsRow.kept h hg hne

def propM (xs : List Int) (water : Int) : List Int := if dryM xs water = true then (if xs.sum ≤ water then xs else propGo xs water) else []

theorem propGo_length (xs : List Int) (water : Int) : (propGo xs water).length = xs.length := by simp [propGo, setsM_length, floors]

theorem propH_of {xs : List Int} {water : Int} (h : dryM xs water = true) (h2 : ¬ xs.sum ≤ water) : PropH xs water :=
  ⟨fun x hx => ((dryM_spec h).1.2.2 x hx).1, (dryM_spec h).2.1, by omega⟩

/-- Two slices that share no block. -/
def Two (v u : Value) : Prop := v.ownBlock = none ∨ u.ownBlock = none ∨ v.ownBlock ≠ u.ownBlock

theorem own_none {base : Nat} {w : World} {v : Value} {xs : List Int} (h : OwnsI base w v xs) (k : Nat) (hk : v.ownBlock = some k) : k < w.heap.size := (h.lt k hk).2

structure PropI (base : Nat) (w0 : World) (xs : List Int) (water all : Int) (k : Nat) (v u : Value) (x : Int) (wr : World) : Prop where
  own1 : OwnsI base wr v ((floors xs water all).take k)
  own2 : OwnsI base wr u ((List.range k).map fun i : Nat => (i : Int))
  two : v.ownBlock = none ∨ v.ownBlock ≠ u.ownBlock
  two' : u.ownBlock = none ∨ u.ownBlock ≠ v.ownBlock
  left : x = water - ((floors xs water all).take k).sum
  bel : Below base w0 wr
  bd : -80000000000 * (k : Int) ≤ x ∧ x ≤ 1000000

theorem bel_own {base : Nat} {w0 w w' : World} {v : Value} {xs : List Int} (h : Below base w0 w) (hb : base ≤ w0.heap.size) (ho : OwnsI base w v xs) (hg : w.grownBy w' v.ownBlock) : Below base w0 w' :=
  h.grown hg (Nat.le_trans hb h.size) (fun k hk => (OwnsI.lt ho k hk).1)

theorem two_go1 {base : Nat} {w0 wr w1 : World} {v u : Value} {A R : List Int} {g1 : Nat} (o1 : OwnsI base wr v A) (o2 : OwnsI base wr u R) (t2 : u.ownBlock = none ∨ u.ownBlock ≠ v.ownBlock) (bel : Below base w0 wr) (hb : base ≤ w0.heap.size)
    (gr : wr.grownBy w1 v.ownBlock) (sh : v.ownBlock = some g1 ∨ wr.heap.size ≤ g1) : OwnsI base w1 u R ∧ (u.ownBlock = none ∨ u.ownBlock ≠ some g1) ∧ Below base w0 w1 := by
  refine ⟨o2.kept gr t2, ?_, bel_own bel hb o1 gr⟩
  rcases sh with sh | sh
  · rw [← sh]; exact t2
  · cases e : u.ownBlock with
    | none => exact .inl rfl
    | some k => right; have := (o2.lt k e).2; intro e2; injection e2; omega

theorem two_go2 {base : Nat} {w0 w1 w2 : World} {u : Value} {A R : List Int} {g1 g2 c1 n : Nat} (o1 : OwnsI base w1 (.slice (some ⟨g1, 0, none⟩) n c1) A) (o2 : OwnsI base w1 u R) (t2 : u.ownBlock = none ∨ u.ownBlock ≠ some g1) (bel : Below base w0 w1) (hb : base ≤ w0.heap.size)
    (gr : w1.grownBy w2 u.ownBlock) (sh : u.ownBlock = some g2 ∨ w1.heap.size ≤ g2) : OwnsI base w2 (.slice (some ⟨g1, 0, none⟩) n c1) A ∧ g1 ≠ g2 ∧ Below base w0 w2 := by
  have hl := (o1.lt g1 rfl).2
  refine ⟨o1.kept gr ?_, ?_, bel_own bel hb o2 gr⟩
  · right
    show some g1 ≠ _
    rcases t2 with t | t
    · rw [t]; simp
    · exact fun e => t e.symm
  · rintro rfl
    rcases sh with sh | sh
    · rcases t2 with t | t
      · rw [t] at sh; cases sh
      · exact t sh
    · omega

theorem snoc_getD (A : List Int) (d : Int) (k : Nat) (h : A.length = k) : (A ++ [d]).getD k 0 = d := by
  subst h; simp [List.getD_eq_getElem?_getD]

theorem OwnsI.stored' {base : Nat} {w : World} {g n cap : Nat} {xs : List Int} (h : OwnsI base w (.slice (some ⟨g, 0, none⟩) n cap) xs) (hn : xs.length = n) (j : Nat) (x : Int) :
    OwnsI base (w.setCell ⟨g, j, none⟩ (.int .i64 x)) (.slice (some ⟨g, 0, none⟩) n cap) (xs.set j x) := by
  subst hn; exact h.stored j x

theorem mulb {x y X Y : Int} (hx : 0 ≤ x) (hx' : x ≤ X) (hy : 0 ≤ y) (hy' : y ≤ Y) : 0 ≤ x * y ∧ x * y ≤ X * Y :=
  ⟨Int.mul_nonneg hx hy, Int.mul_le_mul hx' hy' hy (Int.le_trans hx hx')⟩

theorem prop_step (xs : List Int) (water all : Int) (k : Nat) (h : k < xs.length) : (floors xs water all).take (k + 1) = (floors xs water all).take k ++ [water * xs.getD k 0 / all] := by
  rw [List.take_add_one]
  congr 1
  simp [floors, List.getD_eq_getElem?_getD, h]

theorem propCmp_any (b2 b3 b5 : Nat) (cap : Nat) (a : Option Addr) (xs : List Int) (water all : Int) (w : World) (k2 : w.cell? ⟨b2, 0, none⟩ = some (.slice a xs.length cap)) (k3 : w.cell? ⟨b3, 0, none⟩ = some (.int .i64 water)) (k5 : w.cell? ⟨b5, 0, none⟩ = some (.int .i64 all))
    (hc : Rd w a xs) (hB : ∀ x ∈ xs, 0 ≤ x ∧ x ≤ 80000) (hw : 0 ≤ water ∧ water ≤ 1000000) (ha : 0 < all) (ha' : all ≤ 960000) (hn : xs.length ≤ 1000) (x y : Int) (x0 : 0 ≤ x) (x1 : x < xs.length) (y0 : 0 ≤ y) (y1 : y < xs.length) :
    Calls Try.prog 60 (#[.int .i64 x, .int .i64 y] ++ #[.pointer (some ⟨b3, 0, none⟩), .pointer (some ⟨b2, 0, none⟩), .pointer (some ⟨b5, 0, none⟩)]) w fun e w' => Rets w (.int .i64 (if keyM (rests xs water all) y < keyM (rests xs water all) x then -1 else if keyM (rests xs water all) x < keyM (rests xs water all) y then 1 else 0)) e w' := by
  obtain ⟨i, rfl⟩ := Int.eq_ofNat_of_zero_le x0
  obtain ⟨j, rfl⟩ := Int.eq_ofNat_of_zero_le y0
  have hi : i < xs.length := by omega
  have hj : j < xs.length := by omega
  have ei : keyM (rests xs water all) (i : Int) = water * xs.getD i 0 % all := by simp [keyM, rests, List.getD_eq_getElem?_getD, hi]
  have ej : keyM (rests xs water all) (j : Int) = water * xs.getD j 0 % all := by simp [keyM, rests, List.getD_eq_getElem?_getD, hj]
  rw [ei, ej]
  obtain ⟨b, off, rfl, ci⟩ := hc i hi
  obtain ⟨b', off', e', cj⟩ := hc j hj
  cases e'
  have bi := hB _ (getD_mem' hi)
  have bj := hB _ (getD_mem' hj)
  clear ei ej hB
  generalize xs.getD i 0 = ca at *
  generalize xs.getD j 0 = cb at *
  have l2 := World.block_lt_of_cell? _ _ k2
  have l3 := World.block_lt_of_cell? _ _ k3
  have l5 := World.block_lt_of_cell? _ _ k5
  have l6 := World.block_lt_of_cell? _ _ ci
  simp at l2 l3 l5 l6
  have ma := mulb hw.1 hw.2 bi.1 bi.2
  have mb := mulb hw.1 hw.2 bj.1 bj.2
  have s1 : IntKind.i64.wrap (water * ca) = water * ca := IntWalk.i64_in _ (by omega)
  have s2 : IntKind.i64.wrap (water * cb) = water * cb := IntWalk.i64_in _ (by omega)
  have s3 : ¬ all = 0 := by omega
  have s4 : (water * ca).tmod all = water * ca % all := Int.tmod_eq_emod_of_nonneg ma.1
  have s5 : (water * cb).tmod all = water * cb % all := Int.tmod_eq_emod_of_nonneg mb.1
  have r1 := Int.emod_nonneg (water * ca) s3
  have r2 := Int.emod_lt_of_pos (water * ca) ha
  have r3 := Int.emod_nonneg (water * cb) s3
  have r4 := Int.emod_lt_of_pos (water * cb) ha
  have s6 : IntKind.i64.wrap (water * ca % all) = water * ca % all := IntWalk.i64_in _ (by omega)
  have s7 : IntKind.i64.wrap (water * cb % all) = water * cb % all := IntWalk.i64_in _ (by omega)
  have i1 : (i : Int) < (xs.length : Int) := by omega
  have i2 : (j : Int) < (xs.length : Int) := by omega
  go_enter Try.func60, Try.ntmps60
  go_wp2
  (refine wp_region_g [0, 1, 2, 3, 4, 5, 6, 7, 8, 9, 10, 11, 12, 13, 14, 15, 16, 17] [] (by kernel_rfl) (by kernel_rfl) ?_; simp only [pick, List.map_cons, List.map_nil, Array.getD_eq_getD_getElem?, List.getElem?_toArray, List.getElem?_cons_zero, List.getElem?_cons_succ, Option.getD_some]; (iterate 18 (refine wpG_step (fun K hK => ?_); go_simp; first | (refine hK _ ?_; clear hK K) | (apply Exists.intro; refine ⟨fun _ => ?_, hK _ ?_⟩; ((go_at_call 61; exact same_g (cmp_int _ _ _))); clear hK K))); refine wpG_nil ?_)
  intro w2 hb2
  go_wp2
  all_goals go_ret
  all_goals exact ⟨rfl, below_of_inC hb2⟩

set_option maxHeartbeats 4000000 in
theorem implProportional_any (a : Option Addr) (cap : Nat) (xs : List Int) (water : Int) (w : World) (hc : Rd w a xs) (hn : xs.length ≤ 1048576) :
    Calls Try.prog 38 #[.slice a xs.length cap, .int .i64 water] w fun e w' => GivesI (propM xs water) w e w' := by
  have b0 : Below w.heap.size w ((w.alloc (.cells #[.slice a xs.length cap] 25)).alloc (.cells #[.int .i64 water] 3)) := (by repeat first | exact Below.refl _ _ | assumption | (refine belA ?_) | (refine belD ?_) | (refine belN ?_) | (refine belS ?_ (by simp <;> omega)) | (refine belT ?_ (by assumption)))
  have hc0 := hc.below b0
  by_cases hd : dryM xs water = true
  case neg =>
    have HM := hide (show propM xs water = [] by simp [propM, hd])
    go_enter Try.func38, Try.ntmps38
    go_wp2_with (first | (go_at_call 51; refine (implDryOk_any _ _ _ _ _ hc0 hn).mono ?_; rintro e w2 ⟨rfl, rfl⟩))
    go_ret
    exact ⟨_, rfl, by rw [HM.out]; exact OwnsI.nil _ _, b0⟩
  have hs := dryM_spec hd
  have hsum := dry_sum hd
  have HB := hide hs.1.2.2
  have HBB := hide (dry_big hd)
  have hw := hs.2
  have hlen := hs.1.1
  have hlen' := hs.1.2.1
  have HNE := hide (show xs ≠ [] by intro e; subst e; simp at hlen)
  have HD := hide hd
  clear hs
  by_cases hle : xs.sum ≤ water
  case pos =>
    have HM := hide (show propM xs water = xs by simp [propM, HD.out, hle])
    go_enter Try.func38, Try.ntmps38
    go_wp2_with (first
      | (go_at_call 51; refine (implDryOk_any _ _ _ _ _ hc0 hn).mono ?_; rintro e w2 ⟨rfl, rfl⟩)
      | (go_at_call 52; refine (sumOf_any _ _ _ _ hc0 hn HBB.out).mono ?_; rintro e w2 ⟨rfl, rfl⟩)
      | (go_at_call 55; refine (copyInts_any a cap xs _ (hc.below (by exact (by repeat first | exact Below.refl _ _ | assumption | (refine belA ?_) | (refine belD ?_) | (refine belN ?_) | (refine belS ?_ (by simp <;> omega)) | (refine belT ?_ (by assumption))))) hn HNE.out).mono ?_; rintro e w1 ⟨v1, rfl, hown1, hb1⟩))
    go_ret
    exact ⟨_, rfl, by rw [HM.out]; exact hown1.mono (by simp; omega), by exact belT (by repeat first | exact Below.refl _ _ | assumption | (refine belA ?_) | (refine belD ?_) | (refine belN ?_) | (refine belS ?_ (by simp <;> omega)) | (refine belT ?_ (by assumption))) hb1⟩
  have HM := hide (show propM xs water = propGo xs water by simp [propM, HD.out, hle])
  have PH := hide (propH_of HD.out hle)
  go_enter Try.func38, Try.ntmps38
  go_wp2_with (first
    | (go_at_call 51; refine (implDryOk_any _ _ _ _ _ hc0 hn).mono ?_; rintro e w2 ⟨rfl, rfl⟩)
    | (go_at_call 52; refine (sumOf_any _ _ _ _ hc0 hn HBB.out).mono ?_; rintro e w2 ⟨rfl, rfl⟩))
  obtain ⟨w0, hw0⟩ : ∃ w0 : World, w0 = ((w.alloc (.cells #[.slice a xs.length cap] 25)).alloc (.cells #[.int .i64 water] 3)).alloc (.cells #[.int .i64 xs.sum] 3) := ⟨_, rfl⟩
  obtain ⟨k2, k3, k5, bw, sz⟩ := three_cells _ _ _ _ _ _ _ _ hw0
  rw [← hw0]
  clear hw0 b0 hc0
  have hcw := hc.below bw
  have all0 : 0 < xs.sum := by omega
  generalize hall : xs.sum = all at *
  have HALL := hide hall
  clear hall
  have K2 := hide (show ∀ W, Below w0.heap.size w0 W → W.cell? ⟨w.heap.size, 0, none⟩ = some (.slice a xs.length cap) ∧ W.cell? ⟨w.heap.size + 1, 0, none⟩ = some (.int .i64 water) ∧ W.cell? ⟨w.heap.size + 1 + 1, 0, none⟩ = some (.int .i64 all) from fun W hb =>
    ⟨cellB hb k2, cellB hb k3, cellB hb k5⟩)
  clear k2 k3 k5
  go_loopw [6, 7, 8, 27] (fun v u q i wr => ∃ (k : Nat) (x : Int), k ≤ xs.length ∧ i = .int .i64 k ∧ q = .int .i64 x ∧ Hid (PropI w0.heap.size w0 xs water all k v u x wr)) (fun _ _ _ i _ => xs.length - (intOf i).toNat)
  case atStart => exact ⟨0, water, Nat.zero_le _, rfl, rfl, ⟨OwnsI.nil _ _, OwnsI.nil _ _, .inl rfl, .inl rfl, by simp, Below.refl _ _, by omega⟩⟩
  case round =>
    obtain ⟨k, x, hk, rfl, rfl, HP⟩ := hrel
    obtain ⟨k2, k3, k5⟩ := K2.out _ HP.out.bel
    have l2 := World.block_lt_of_cell? _ _ k2
    have l3 := World.block_lt_of_cell? _ _ k3
    have l5 := World.block_lt_of_cell? _ _ k5
    simp at l2 l3 l5
    by_cases hlt : k < xs.length
    · obtain ⟨b, off, rfl, hcell⟩ := (hcw.below HP.out.bel) k hlt
      have hx := HB.out _ (getD_mem' hlt)
      have HST := hide (prop_step xs water all k hlt)
      have hlen1 : ((floors xs water all).take k).length = k := by simp [floors]; omega
      have HL1 := hide hlen1
      have hlen2 : ((List.range k).map fun i : Nat => (i : Int)).length = k := by simp
      have HL2 := hide hlen2
      generalize xs.getD k 0 = c at *
      have m1 := mulb hw.1 hw.2 hx.1 hx.2
      have q1 := Int.ediv_nonneg m1.1 (by omega : 0 ≤ all)
      have q2 : water * c / all ≤ 80000000000 := Int.le_trans (Int.ediv_le_self _ m1.1) (by omega)
      have s1 : IntKind.i64.wrap (water * c) = water * c := IntWalk.i64_in _ (by omega)
      have s2 : IntKind.i64.wrap ((water * c).tdiv all) = water * c / all := by rw [Int.tdiv_eq_ediv_of_nonneg m1.1]; exact IntWalk.i64_in _ (by omega)
      have s3 : ¬ all = 0 := by omega
      obtain ⟨o1, o2, t1, t2, ex, bel, bd⟩ := HP.out
      have hR : ((List.range (k + 1)).map fun i : Nat => (i : Int)) = ((List.range k).map fun i : Nat => (i : Int)) ++ [(k : Int)] := by rw [List.range_succ]; simp
      have HR := hide hR
      have bs := bel.size
      have O1 := hide o1
      have O2 := hide o2
      have T2 := hide t2
      have EX := hide ex
      have BL := hide bel
      clear t1 t2 ex HP hlen1 hlen2 o1 o2 bel hR
      generalize (floors xs water all).take k = A at *
      generalize ((List.range k).map fun i : Nat => (i : Int)) = R at *
      go_wp2_with (first
        | (at_builtin; refine append1L rfl _ _ rfl w0.heap.size _ A k (water * c / all) O1.out HL1.out rfl rfl (by omega) bs ?_; intro g1 c1 w1 ow1 gr1 sh1; have TW := hide (two_go1 O1.out O2.out T2.out BL.out (Nat.le_refl _) gr1 sh1); have OW1 := hide ow1; have bs1 := TW.out.2.2.size; clear ow1 gr1 sh1 O1)
        | (at_builtin; refine append1L rfl _ _ rfl w0.heap.size _ R k (k : Int) TW.out.1 HL2.out rfl rfl (by omega) bs1 ?_; intro g2 c2 w2 ow2 gr2 sh2; have TV := hide (two_go2 OW1.out TW.out.1 TW.out.2.1 TW.out.2.2 (Nat.le_refl _) gr2 sh2); have OW2 := hide ow2; have bs2 := TV.out.2.2.size; clear ow2 gr2 sh2; have cc := TV.out.1.ownP.2.2.cell k (by simp [HL1.out]); rw [snoc_getD _ _ _ HL1.out] at cc)
        | fail)
      go_roundw
      case rel => exact ⟨k + 1, x - water * c / all, by omega, by go_num, by go_num, ⟨by rw [HST.out]; exact TV.out.1, by rw [HR.out]; exact OW2.out, .inr fun e => TV.out.2.1 (by simpa [Value.ownBlock] using e), .inr fun e => TV.out.2.1 (by simpa [Value.ownBlock] using e.symm), by rw [HST.out, EX.out]; simp; omega, TV.out.2.2, by omega⟩⟩
      case measure => simp [intOf]; omega
    · have hkn : k = xs.length := by omega
      subst hkn
      go_wp2_with fail
      obtain ⟨o1, o2, t1, t2, ex, bel, bd⟩ := HP.out
      clear HP
      have hfl : (floors xs water all).take xs.length = floors xs water all := List.take_of_length_le (by simp [floors])
      rw [hfl] at ex o1
      have hl1 := floors_length xs water all
      have hl2 : ((List.range xs.length).map fun i : Nat => (i : Int)).length = xs.length := by simp
      rcases o2.cases with ⟨_, h0⟩ | ⟨g2, c2, rfl, hg2, p2⟩
      · exfalso
        rw [h0] at hl2; simp only [List.length_nil] at hl2; omega
      rcases o1.cases with ⟨_, h0⟩ | ⟨g1, c1, rfl, hg1, p1⟩
      · exfalso
        rw [h0] at hl1; simp only [List.length_nil] at hl1; omega
      have hne : g1 ≠ g2 := by
        intro e
        rcases t1 with t | t
        · cases t
        · exact t (by rw [e]; rfl)
      have hRm : ∀ x ∈ ((List.range xs.length).map fun i : Nat => (i : Int)), 0 ≤ x ∧ x < (xs.length : Int) := fun z hz => by
        obtain ⟨i, hi, rfl⟩ := List.mem_map.1 hz
        have := List.mem_range.1 hi; omega
      have hB0 := fun (W : World) (hb : wr.grownBy W (some g2)) => (bel.grown hb bel.size (fun k hk => by injection hk with hk; omega) : Below w0.heap.size w0 W)
      have hst := stableProportional_any (fun p q => if keyM (rests xs water all) q < keyM (rests xs water all) p then -1 else if keyM (rests xs water all) p < keyM (rests xs water all) q then 1 else 0) g2 c2 3 _ (xs.length : Int)
        #[.pointer (some ⟨w.heap.size + 1, 0, none⟩), .pointer (some ⟨w.heap.size, 0, none⟩), .pointer (some ⟨w.heap.size + 1 + 1, 0, none⟩)] wr p2 hRm (by rw [hl2]; omega)
        (fun W hb p q p0 p1 q0 q1 => propCmp_any _ _ _ cap a xs water all W (K2.out W (hB0 W hb)).1 (K2.out W (hB0 W hb)).2.1 (K2.out W (hB0 W hb)).2.2 (hcw.below (hB0 W hb)) HB.out hw all0 hsum.2 (by omega) p q p0 p1 q0 q1)
      have hgt : (fun p q => decide ((if keyM (rests xs water all) q < keyM (rests xs water all) p then (-1 : Int) else if keyM (rests xs water all) p < keyM (rests xs water all) q then 1 else 0) < 0)) = gtK (rests xs water all) := by
        funext p q
        unfold gtK
        by_cases h1 : keyM (rests xs water all) q < keyM (rests xs water all) p
        · simp [h1]
        · by_cases h2 : keyM (rests xs water all) p < keyM (rests xs water all) q
          · simp [h1, h2]
          · simp [h1, h2]
      rw [hgt] at hst
      have hPP : insAll (gtK (rests xs water all)) ((List.range xs.length).map fun i : Nat => (i : Int)) = propR xs water := by rw [← HALL.out]; rfl
      rw [hPP] at hst
      rw [hl2] at hst
      have o1' := fun (W : World) (hb : wr.grownBy W (some g2)) => o1.kept hb (.inr fun e => hne (by simpa [Value.ownBlock] using e))
      have hxL : x = ((propL xs water).toNat : Int) := by
        rw [Int.toNat_of_nonneg (propL_eq PH.out).1, ex]; unfold propL; rw [HALL.out]
      have hLn := propL_le PH.out
      have HG := hide (fun t (ht : t < (propL xs water).toNat) => prop_go PH.out ht)
      have HE := hide (show propAt xs water (propL xs water).toNat = propGo xs water from rfl)
      have H0 := hide (show propAt xs water 0 = floors xs water all by rw [← HALL.out]; rfl)
      have HPL := hide (fun t => propAt_length xs water t)
      have HRL := hide (show (propR xs water).length = xs.length from rank_length _ _)
      generalize (propL xs water).toNat = Ln at *
      rw [hl1, hl2]
      rw [hl1, ← H0.out] at o1'
      have HO1 := hide o1'
      have HB0 := hide hB0
      clear o1 o1' o2 p1 p2 hB0 hPP hgt hRm ex hl1 hl2 t1 t2
      refine hst.mono ?_
      rintro e w2 ⟨rfl, S⟩
      have OW1 := hide (HO1.out w2 S.grw)
      have OW2 := hide S.own
      have BL2 := hide (HB0.out w2 S.grw)
      clear S hst HO1 HB0 k2 k3 k5 l2 l3 l5 bel hcw bd
      subst hxL
      go_wp2
      go_loopw [8, 56] (fun q i wr' => ∃ (t : Nat), t ≤ xs.length ∧ i = .int .i64 t ∧ q = .int .i64 ((Ln : Int) - (min t Ln : Nat)) ∧ Hid (OwnsI w0.heap.size wr' (.slice (some ⟨g1, 0, none⟩) xs.length c1) (propAt xs water (min t Ln)) ∧ w2.grownBy wr' (some g1))) (fun _ i _ => xs.length - (intOf i).toNat)
      case atStart => exact ⟨0, Nat.zero_le _, rfl, by simp, ⟨by rw [Nat.zero_min]; exact OW1.out, grownBy_refl _ _⟩⟩
      case round =>
        obtain ⟨t, ht, rfl, rfl, HI⟩ := hrel
        have p2 := (OW2.out.grown HI.out.2 (fun e => hne e.symm)).cell
        have BL3 := hide (BL2.out.grown HI.out.2 BL2.out.size (fun k hk => by injection hk with hk; omega) : Below w0.heap.size w0 _)
        by_cases htn : t < xs.length
        · have pt := p2 t (by rw [HRL.out]; exact htn)
          clear p2
          by_cases htL : t < Ln
          · have hm1 : min t Ln = t := by omega
            have hm2 : min (t + 1) Ln = t + 1 := by omega
            obtain ⟨i, e0, hin, _, e1, e2, e3, e4⟩ := HG.out t htL
            rw [e0] at pt
            have po := HI.out.1.ownP.2.2.cell i (by rw [HPL.out]; exact hin)
            have pf := HI.out.1.ownP.2.2.frozen i
            rw [hm1, e1] at po
            obtain ⟨k2, k3, k5⟩ := K2.out _ BL3.out
            obtain ⟨b, off, rfl, hcell⟩ := (hc.below (belT bw (BL3.out.mono (by omega)))) i hin
            have hxi := HB.out _ (getD_mem' hin)
            have hset := HI.out.1.stored' (HPL.out _) i ((floors xs water xs.sum).getD i 0 + 1)
            rw [hm1, ← e4] at hset
            have HSET := hide hset
            have GR := hide HI.out.2
            clear hset e1 e4 e0 HI HG
            generalize (floors xs water xs.sum).getD i 0 = f at *
            generalize xs.getD i 0 = c at *
            have l2 := World.block_lt_of_cell? _ _ k2
            have l6 := World.block_lt_of_cell? _ _ hcell
            have l7 := World.block_lt_of_cell? _ _ po
            simp at l2 l6 l7
            rw [hm1]
            have d1 : (0 : Int) < (Ln : Int) - (t : Int) := by omega
            have i1 : (i : Int) < (xs.length : Int) := by omega
            go_wp2
            go_region
            go_wp2
            go_roundw
            case rel => exact ⟨t + 1, by omega, by go_num, by rw [hm2]; congr 1; omega, ⟨by rw [hm2]; exact HSET.out.below (belD (Below.refl _ _)), grownBy_trans GR.out (grownBy_trans (grownBy_set wr g1 i (.int .i64 (f + 1))) (grownR (belD (Below.refl _ _))))⟩⟩
            case measure => simp [intOf]; omega
          · have hm1 : min t Ln = Ln := by omega
            have hm2 : min (t + 1) Ln = Ln := by omega
            have HI1 := hide HI.out.1
            have GR := hide HI.out.2
            clear HI HG
            rw [hm1] at HI1
            rw [hm1]
            have d1 : (Ln : Int) - (Ln : Int) = 0 := by omega
            rw [d1]
            go_wp2
            go_region
            go_wp2
            go_roundw
            case rel => exact ⟨t + 1, by omega, by go_num, by rw [hm2, d1], ⟨by rw [hm2]; exact HI1.out.below (belD (Below.refl _ _)), grownBy_trans GR.out (grownR (belD (Below.refl _ _)))⟩⟩
            case measure => simp [intOf]; omega
        · go_wp2
          go_ret
          have htt : t = xs.length := by omega
          refine ⟨_, rfl, ?_, (belT bw (BL3.out.mono (by omega)))⟩
          rw [HM.out, ← HE.out]
          have := HI.out.1
          rw [show min t Ln = Ln by omega] at this
          exact this.mono (by omega)

end Go.Proofs.Ytjcemoofnonlkaa
