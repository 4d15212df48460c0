/- A net without one of its pipes, as the program makes it. -/
import Derived.Test.YteimcbhnjhkkbaaWout
namespace Go.Proofs.Yteimcbhnjhkkbaa
set_option linter.unusedSimpArgs false
set_option linter.unusedVariables false
open Go.RowKit

/-- Of what is owned, the first k. -/
theorem OwnsT.first {T : TypeId} {base : Nat} {w : World} {g n c : Nat} {ts : List T3} (h : OwnsT T base w (.slice (some ⟨g, 0, none⟩) n c) ts) (k : Nat) (hk : k ≤ ts.length) : OwnsT T base w (.slice (some ⟨g, 0, none⟩) k c) (ts.take k) := by
  obtain ⟨h1, h2⟩ := h
  rcases h2 with ⟨hv, hn⟩ | ⟨g', cap, cur, hv, hg, hh, hnc, hm, hcs, ht⟩
  · cases hv
  · injection hv with e1 e2 e3
    injection e1 with e1
    injection e1 with e1
    subst e1 e2 e3
    have hl : (ts.take k).length = k := by simp; omega
    refine ⟨by simp [flat_length], .inr ⟨g, c, cur, by rw [hl], hg, hh, by omega, hm, hcs, ?_⟩⟩
    have e : flat (ts.take k) = (flat ts).take (k * 3) := by
      have := flat_append (ts.take k) (ts.drop k)
      rw [List.take_append_drop] at this
      rw [this, List.take_append_of_le_length (by rw [flat_length]; omega), List.take_of_length_le (l := flat (ts.take k)) (i := k * 3) (by rw [flat_length]; omega)]
    rw [hl, e, List.map_take, ← ht, List.take_take, Nat.min_eq_left (by omega)]

/-- 'append' where there is room, as a step of a region that draws its order. -/
theorem step_fitsP {ops : Array Oper} {o : Oper} {a : Act} {w : World} {K : Act → World → Prop} {Q : Exit → Act → World → Prop} {E : Prop} (hgd : o.guard = none) (s x : Operand)
    (ho : o.op = .call { callee := .builtin .append, args := #[s, x], argTypes := #[24, 24] })
    (base g n cap c : Nat) (xs ys : List T3) (ad : Addr) (hown : OwnsT 60 base w (.slice (some ⟨g, 0, none⟩) n cap) xs) (hn : n = xs.length) (hr : Rd3 w (some ad) ys) (hs : a.eval s = .slice (some ⟨g, 0, none⟩) n cap) (hx : a.eval x = .slice (some ad) ys.length c) (hroom : n + ys.length ≤ cap)
    (h : ∀ w' L, Hid (L = n + ys.length) → OwnsT 60 base w' (.slice (some ⟨g, 0, none⟩) L cap) (xs ++ ys) → w.grownBy w' (some g) → K (a.put o.dst (.slice (some ⟨g, 0, none⟩) L cap)) w') :
    if Region.wanted o (yielded ops a.tmps) = true then Oper.wp Try.prog o a w K Q else E := by
  have hw : Region.wanted o (yielded ops a.tmps) = true := by simp [Region.wanted, hgd]
  rw [if_pos hw]
  subst hn
  obtain ⟨z, hinf, hzc⟩ := infPipe
  obtain ⟨i0, hi, hz0, hz1, hz2⟩ := info_parts hinf
  obtain ⟨w', hrun', hown', hgr⟩ := run_append_fits (P := Try.prog) w base 24 o.type 60 i0 3 Try.underlying24 hi hz1 g xs.length cap _ hown ad ys.length c ((flat ys).map (Value.int .i64)) (by simp [flat_length])
    (fun j u hj => rd3_get hr j u hj) (by intro u hu; simp at hu; obtain ⟨y, _, rfl⟩ := hu; rfl) hroom
  have h2 := h w' _ (hide rfl) (by unfold OwnsT; rw [flat_append]; simpa using hown') hgr
  unfold Oper.wp
  simp [execOp, ho, resolve, invoke, builtin, hs, hx, hrun', Result.andThen]
  exact h2

theorem implWithoutPipe_any (p k : Int) (a : Option Addr) (cap : Nat) (ts : List T3) (w : World) (hc : Rd3 w a ts) (hn : ts.length ≤ 1048576) :
    Calls Try.prog 46 #[.agg #[.int .i64 p, .slice a ts.length cap], .int .i64 k] w fun e w' => GivesNB p (woutM p ts k) (woutOk p ts k) w e w' := by
  have HN := hide (fun W (hb : Below w.heap.size w W) => implNetOk_any p a cap ts W (hc.below hb) hn)
  have HCp := hide (fun W (hb : Below w.heap.size w W) => copyNet_any p a cap ts W (hc.below hb) hn)
  have B1 : Below w.heap.size w ((w.alloc (.cells #[.int .i64 p, .slice a ts.length cap] 26)).alloc (.cells #[.int .i64 0, .slice none 0 0] 26)) := belA (belA (Below.refl _ _))
  have X1 := blk_alloc (o := .cells #[.int .i64 0, .slice none 0 0] 26) (blk_new w #[.int .i64 p, .slice a ts.length cap] 26)
  have R1 := blk_new (w.alloc (.cells #[.int .i64 p, .slice a ts.length cap] 26)) #[.int .i64 0, .slice none 0 0] 26
  rw [World.size_alloc] at R1
  have HB1 := hide B1
  have HX1 := hide X1
  have HR1 := hide R1
  clear B1 X1 R1
  have HP := hide (show woutOk p ts k = (netOk p ts && inB k 0 ((ts.length : Int) - 1)) from rfl)
  have HW := hide (show woutM p ts k = if woutOk p ts k then ts.take k.toNat ++ ts.drop (k.toNat + 1) else ts from rfl)
  have HNL := hide (fun h : netOk p ts = true => (netOk_parts h).2.2.1)
  generalize woutM p ts k = M at *
  generalize woutOk p ts k = O at *
  generalize netOk p ts = no at *
  go_enter Try.func46, Try.ntmps46
  go_wp2_with fail
  (with_reducible refine (HCp.out _ HB1.out).mono ?_)
  rintro e w2 ⟨v2, rfl, hown2, hb2⟩
  have hown2 := hown2.mono (base' := w.heap.size + 2) (by simp)
  obtain ⟨a2, c2, rfl, hr2⟩ := hown2.slice
  have B2 := belA (o := .cells #[.int .i64 p, .slice a2 ts.length c2] 26) (belT HB1.out hb2)
  have X2 := blk_alloc (o := .cells #[.int .i64 p, .slice a2 ts.length c2] 26) (heap_grow HX1.out hb2)
  have R2 := blk_alloc (o := .cells #[.int .i64 p, .slice a2 ts.length c2] 26) (heap_grow HR1.out hb2)
  have Y2 := blk_new w2 #[.int .i64 p, .slice a2 ts.length c2] 26
  have O2 := hown2.below (w' := w2.alloc (.cells #[.int .i64 p, .slice a2 ts.length c2] 26)) ((Below.refl _ _).alloc (Nat.le_refl _) _)
  have Z2 : w.heap.size + 2 ≤ w2.heap.size := by have := hb2.size; simp at this; omega
  have z2 : w.heap.size < w2.heap.size := by omega
  have q0 := cell_of_block (heap_grow HX1.out hb2) 0
  have q1 := cell_of_block (heap_grow HX1.out hb2) 1
  simp at q0 q1
  clear hb2 hr2 hown2
  go_wp2_with fail
  (with_reducible refine (HN.out _ B2).mono ?_)
  rintro e w3 ⟨rfl, hb3⟩
  have B3 := belT B2 hb3
  have X3 := heap_grow X2 hb3
  have R3 := heap_grow R2 hb3
  have Y3 := heap_grow Y2 hb3
  have O3 := O2.below hb3
  have Z3 : w2.heap.size + 1 ≤ w3.heap.size := by have := hb3.size; simp at this; omega
  clear B2 X2 R2 Y2 O2 hb3 q0 q1
  have c0 := cell_of_block X3 0
  have c1 := cell_of_block X3 1
  have y0 := cell_of_block Y3 0
  have y1 := cell_of_block Y3 1
  have r0 := cell_of_block R3 0
  have r1 := cell_of_block R3 1
  have f0 := frozen_of_block R3 0
  have f1 := frozen_of_block R3 1
  simp at c0 c1 y0 y1 r0 r1
  cases no with
  | false =>
    have HM := hide (show O = false ∧ M = ts by
      have h1 := HP.out
      simp at h1
      exact ⟨h1, by rw [HW.out, h1]; rfl⟩)
    obtain ⟨R4, O4, L4⟩ := net_stored (p := p) R3 O3
    have B4 := B3.trans (L4.mono (Nat.le_succ _))
    go_wp2
    generalize (w3.setCell ⟨w.heap.size + 1, 0, none⟩ (.int .i64 p)).setCell ⟨w.heap.size + 1, 1, none⟩ (.slice a2 ts.length c2) = w4 at *
    clear r0 r1 f0 f1 c0 c1 y0 y1
    have d0 := cell_of_block R4 0
    have d1 := cell_of_block R4 1
    simp at d0 d1
    exact bodyPost_ret (by simp [results, Try.results46, go_sem, *]; try rfl) rfl ⟨_, by rw [HM.out.1], by rw [HM.out.2]; exact (O4.mono (by omega)).holds, B4⟩
  | true =>
    have hl20 := HNL.out rfl
    cases hin : inB k 0 ((ts.length : Int) - 1) with
    | false =>
      have HM := hide (show O = false ∧ M = ts by
        have h1 := HP.out
        rw [hin] at h1
        simp at h1
        exact ⟨h1, by rw [HW.out, h1]; rfl⟩)
      have HI := hide hin
      clear hin
      obtain ⟨R4, O4, L4⟩ := net_stored (p := p) R3 O3
      have B4 := B3.trans (L4.mono (Nat.le_succ _))
      go_wp2_with fail
      (with_reducible refine (within_any _ _ _ _).mono ?_)
      rintro e w2' ⟨rfl, rfl⟩
      rw [HI.out]
      go_wp2
      generalize (w3.setCell ⟨w.heap.size + 1, 0, none⟩ (.int .i64 p)).setCell ⟨w.heap.size + 1, 1, none⟩ (.slice a2 ts.length c2) = w4 at *
      clear r0 r1 f0 f1 c0 c1 y0 y1
      have d0 := cell_of_block R4 0
      have d1 := cell_of_block R4 1
      simp at d0 d1
      exact bodyPost_ret (by simp [results, Try.results46, go_sem, *]; try rfl) rfl ⟨_, by rw [HM.out.1], by rw [HM.out.2]; exact (O4.mono (by omega)).holds, B4⟩
    | true =>
      have HM := hide (show O = true ∧ M = ts.take k.toNat ++ ts.drop (k.toNat + 1) by
        have h1 := HP.out
        rw [hin] at h1
        simp at h1
        exact ⟨h1, by rw [HW.out, h1]; rfl⟩)
      obtain ⟨k1, k2⟩ := inB_iff.1 hin
      obtain ⟨K, rfl⟩ := Int.eq_ofNat_of_zero_le k1
      rw [Int.toNat_natCast] at HM
      have HI := hide hin
      have kl : K < ts.length := by omega
      clear hin HP HW
      rcases O3.cases with ⟨h1, h2⟩ | ⟨g, c, hv, hg, ho⟩
      · exfalso; subst h2; simp at kl
      have e2 : a2 = some ⟨g, 0, none⟩ := by injection hv
      subst e2
      have hR3 := ho.rd3
      have hlen := hide O3.1
      go_wp2_with fail
      (with_reducible refine (within_any _ _ _ _).mono ?_)
      rintro e w2' ⟨rfl, rfl⟩
      rw [HI.out]
      go_wp2
      have hcap : ts.length ≤ c2 := by
        rcases O3.2 with ⟨hv0, _⟩ | ⟨g', cap', cur, hv', hg', hh, hnc, _⟩
        · cases hv0
        · injection hv' with e1 e2 e3; omega
      have l1 : (ts.take K).length = K := by simp; omega
      have l2 : (ts.drop (K + 1)).length = ts.length - (K + 1) := by simp
      have HL1 := hide l1
      have HL2 := hide l2
      have hX : w2.heap.size ≠ g := by
        intro e; subst e
        exact own_type O3 Y3 (by decide) rfl
      have hRg : w.heap.size + 1 ≠ g := by
        intro e; subst e
        exact own_type O3 R3 (by decide) rfl
      have HT := hide (O3.first K (by omega))
      have HD := hide (rd3_drop hR3 (K + 1))
      have HY3 := hide Y3
      have HR3 := hide R3
      have f2 := frozen_of_block Y3 1
      have hKc : K ≤ c2 := by omega
      have hKl : K + 1 ≤ ts.length := by omega
      have e1 : 0 ≤ (K : Int) + 1 := by omega
      have e2 : (K : Int) + 1 ≤ (ts.length : Int) := by omega
      have x3 : w2.heap.size < w3.heap.size := by omega
      clear O3 R3 Y3 hR3 ho l1 l2 hlen HN X3
      have hroom : K + (ts.drop (K + 1)).length ≤ c2 := by rw [HL2.out]; omega
      by_cases hcK : c2 = K + 1
      · subst hcK
        have W1 : IntKind.i64.wrap ((K : Int) + 1) = (K : Int) + 1 := IntWalk.i64_in _ (by omega)
        have e3 : (K : Int) ≤ (K : Int) + 1 := by omega
        go_region_law ((refine step_fitsP rfl _ _ rfl (w.heap.size + 2) g K (K + 1) _ (ts.take K) (ts.drop (K + 1)) ⟨g, 0, none⟩ HT.out HL1.out.symm (fun j hj => by have := HL2.out; omega) rfl (by rw [show (ts.drop (K + 1)).length = 0 by rw [HL2.out]; omega]; rfl) hroom ?_; intro w4 L hL O4 hgr4; have Y4 := blk_grown (w := w3.drew) HY3.out hgr4 (by simp; exact hX); have p0 := cell_of_block Y4 0; have p1 := cell_of_block Y4 1; have g1 := frozen_of_block Y4 1; simp at p0 p1))
        all_goals (
          have R4 := blk_grown (w := w3.drew) HR3.out hgr4 (by simp; exact hRg)
          have B4 : Below w.heap.size w w4 := belG (belD B3) hgr4 (by omega)
          clear p0 p1 g1 y0 y1 r0 r1 f0 f1 c0 c1 f2 e1 e2 W1
          generalize hV : Value.slice (some ⟨g, 0, none⟩) L (K + 1) = V at *
          have Y5 := setCell_block (i := 1) (v := V) Y4
          have R5 := blk_other (i := 1) (v := V) R4 (show w.heap.size + 1 ≠ w2.heap.size by omega)
          have O5 := World.ownsRow.kept O4 (grownBy_set w4 w2.heap.size 1 V) (.inr (own_type O4 Y4 (by decide)))
          have B5 := belS (p := ⟨w2.heap.size, 1, none⟩) (u := V) B4 (by simp only; omega)
          generalize w4.setCell ⟨w2.heap.size, 1, none⟩ V = w5 at *
          simp at Y5
          obtain ⟨R6, O6, L6⟩ := net_stored (p := p) R5 O5
          have B6 := B5.trans (L6.mono (Nat.le_succ _))
          have y0 := cell_of_block Y5 0
          have y1 := cell_of_block Y5 1
          have r0 := cell_of_block R5 0
          have r1 := cell_of_block R5 1
          have f0 := frozen_of_block R5 0
          have f1 := frozen_of_block R5 1
          simp at y0 y1 r0 r1
          subst hV
          go_wp2
          generalize (w5.setCell ⟨w.heap.size + 1, 0, none⟩ (.int .i64 p)).setCell ⟨w.heap.size + 1, 1, none⟩ (.slice (some ⟨g, 0, none⟩) L (K + 1)) = w6 at *
          clear y0 y1 r0 r1 f0 f1
          have d0 := cell_of_block R6 0
          have d1 := cell_of_block R6 1
          simp at d0 d1
          exact bodyPost_ret (by simp [results, Try.results46, go_sem, *]; try rfl) rfl ⟨_, by rw [HM.out.1], by rw [HM.out.2]; exact (OwnsT.mono (T := 60) (base := w.heap.size + 2) (base' := w.heap.size) O6 (by omega)).holds, B6⟩)
      · have W1 : IntKind.i64.wrap ((K : Int) + 1) = (K : Int) + 1 := IntWalk.i64_in _ (by omega)
        go_region_law ((refine step_fitsP rfl _ _ rfl (w.heap.size + 2) g K c2 _ (ts.take K) (ts.drop (K + 1)) ⟨g, (K + 1) * 3, none⟩ HT.out HL1.out.symm (by have := HD.out; rw [Nat.zero_add] at this; exact this) rfl (by rw [HL2.out]; rfl) hroom ?_; intro w4 L hL O4 hgr4; have Y4 := blk_grown (w := w3.drew) HY3.out hgr4 (by simp; exact hX); have p0 := cell_of_block Y4 0; have p1 := cell_of_block Y4 1; have g1 := frozen_of_block Y4 1; simp at p0 p1))
        all_goals (
          have R4 := blk_grown (w := w3.drew) HR3.out hgr4 (by simp; exact hRg)
          have B4 : Below w.heap.size w w4 := belG (belD B3) hgr4 (by omega)
          clear p0 p1 g1 y0 y1 r0 r1 f0 f1 c0 c1 f2 e1 e2 W1
          generalize hV : Value.slice (some ⟨g, 0, none⟩) L c2 = V at *
          have Y5 := setCell_block (i := 1) (v := V) Y4
          have R5 := blk_other (i := 1) (v := V) R4 (show w.heap.size + 1 ≠ w2.heap.size by omega)
          have O5 := World.ownsRow.kept O4 (grownBy_set w4 w2.heap.size 1 V) (.inr (own_type O4 Y4 (by decide)))
          have B5 := belS (p := ⟨w2.heap.size, 1, none⟩) (u := V) B4 (by simp only; omega)
          generalize w4.setCell ⟨w2.heap.size, 1, none⟩ V = w5 at *
          simp at Y5
          obtain ⟨R6, O6, L6⟩ := net_stored (p := p) R5 O5
          have B6 := B5.trans (L6.mono (Nat.le_succ _))
          have y0 := cell_of_block Y5 0
          have y1 := cell_of_block Y5 1
          have r0 := cell_of_block R5 0
          have r1 := cell_of_block R5 1
          have f0 := frozen_of_block R5 0
          have f1 := frozen_of_block R5 1
          simp at y0 y1 r0 r1
          subst hV
          go_wp2
          generalize (w5.setCell ⟨w.heap.size + 1, 0, none⟩ (.int .i64 p)).setCell ⟨w.heap.size + 1, 1, none⟩ (.slice (some ⟨g, 0, none⟩) L c2) = w6 at *
          clear y0 y1 r0 r1 f0 f1
          have d0 := cell_of_block R6 0
          have d1 := cell_of_block R6 1
          simp at d0 d1
          exact bodyPost_ret (by simp [results, Try.results46, go_sem, *]; try rfl) rfl ⟨_, by rw [HM.out.1], by rw [HM.out.2]; exact (OwnsT.mono (T := 60) (base := w.heap.size + 2) (base' := w.heap.size) O6 (by omega)).holds, B6⟩)

end Go.Proofs.Yteimcbhnjhkkbaa
