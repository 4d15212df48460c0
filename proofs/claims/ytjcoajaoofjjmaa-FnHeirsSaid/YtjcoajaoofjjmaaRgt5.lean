/- Parts of the common bottom. -/
import Derived.Test.YtjcoajaoofjjmaaRgt2
import Derived.Test.YtjcoajaoofjjmaaGive
import Derived.Deep.RegionHeld3
import Derived.Deep.AppendLies
namespace Go.Proofs.Ytjcoajaoofjjmaa
set_option linter.unusedSimpArgs false
set_option linter.unusedVariables false
open Go.RowKit

def partsM (ts : List T3) : List Int := if bottomM ts < 0 then [] else ts.map fun t => bottomM ts / t.2.2 * t.2.1

theorem cbL_bd {n : Int} {ts : List T3} (h1 : 1 ≤ n) (h2 : n ≤ 100000000) (hb : ∀ t ∈ ts, 1 ≤ t.2.2 ∧ t.2.2 ≤ 10000) : cbL n ts = -1 ∨ (1 ≤ cbL n ts ∧ cbL n ts ≤ 100000000) := by
  induction ts generalizing n with
  | nil => right; exact ⟨h1, h2⟩
  | cons t r ih =>
    have ht := hb t (by simp)
    have hbd := cb_bd h1 h2 ht.1 ht.2
    simp only [cbL]
    split
    · left; rfl
    · exact ih hbd.1 (by omega) (fun u hu => hb u (by simp [hu]))

theorem bottom_bd (ts : List T3) : bottomM ts = -1 ∨ (1 ≤ bottomM ts ∧ bottomM ts ≤ 100000000 ∧ rightsM ts = true) := by
  by_cases h : rightsM ts = true
  · have := cbL_bd (n := 1) (ts := ts) (by omega) (by omega) (fun t ht => by have := frOk_iff.1 (rights_mem h t ht).2.2.1; omega)
    simp only [bottomM, h, if_true]
    rcases this with h1 | h1
    · exact .inl h1
    · exact .inr ⟨h1.1, h1.2, trivial⟩
  · left; simp [bottomM, h]

theorem map_drop3 (f : T3 → Int) (ts : List T3) (k : Nat) (h : k < ts.length) : (ts.drop k).map f = f (ts.getD k default) :: (ts.drop (k + 1)).map f := by
  rw [drop_getD3 ts k h]; rfl

theorem part_bd {n y z : Int} (n1 : 1 ≤ n) (n2 : n ≤ 100000000) (hf : frOk y z = true) : 0 ≤ n / z ∧ n / z ≤ 100000000 ∧ 0 ≤ n / z * y ∧ n / z * y ≤ 1000000000000 ∧ ¬ z = 0 ∧ 1 ≤ z ∧ z ≤ 10000 := by
  obtain ⟨z1, z2, y1, y2, _⟩ := frOk_iff.1 hf
  have q0 := Int.ediv_nonneg (show 0 ≤ n by omega) (show 0 ≤ z by omega)
  have q1 : n / z ≤ n := Int.ediv_le_self _ (by omega)
  have := mul_bound q0 (show n / z ≤ 100000000 by omega) y1 y2
  exact ⟨q0, by omega, by omega, by omega, by omega, z1, z2⟩

set_option maxHeartbeats 2000000 in
theorem implParts_any (a : Option Addr) (cap : Nat) (ts : List T3) (w : World) (hc : Rd3 w a ts) (hn : ts.length ≤ 1048576) :
    Calls Try.prog 32 #[.slice a ts.length cap] w fun e w' => GivesI (partsM ts) w e w' := by
  have HC := hide (implCommonBottom_any a cap ts w hc hn)
  rcases bottom_bd ts with hb | ⟨n1, n2, hr⟩
  · have HM := hide (show partsM ts = [] by simp [partsM, hb])
    rw [hb] at HC
    clear hb
    go_enter Try.func32, Try.ntmps32
    go_wp2_with fail
    (with_reducible refine HC.out.mono ?_)
    rintro e w1 ⟨rfl, hb1⟩
    go_wp2
    go_ret
    exact ⟨_, rfl, by rw [HM.out]; exact OwnsI.nil _ _, hb1⟩
  · have HM := hide (show partsM ts = ts.map fun t => bottomM ts / t.2.2 * t.2.1 by simp only [partsM]; rw [if_neg (by omega)])
    have HB := hide (rights_mem hr)
    have h12 := (rights_parts hr).2.1
    clear hr
    generalize bottomM ts = n at *
    obtain ⟨i0, hi0, hz0, hz1, hz2⟩ := info_parts infoInt
    have hd0 : decide (n < 0) = false := by simp; omega
    go_enter Try.func32, Try.ntmps32
    go_wp2_with fail
    (with_reducible refine HC.out.mono ?_)
    rintro e w1 ⟨rfl, hb1⟩
    go_wp2
    go_loopw [4, 13] (fun v i wr => ∃ (k : Nat) (ys : List Int), k ≤ ts.length ∧ i = .int .i64 k ∧ ys.length = k ∧ OwnsI w.heap.size wr v ys ∧ (ts.map fun t => n / t.2.2 * t.2.1) = ys ++ (ts.drop k).map (fun t => n / t.2.2 * t.2.1) ∧ Below w.heap.size w wr) (fun _ i _ => ts.length - (intOf i).toNat)
    case atStart => exact ⟨0, [], Nat.zero_le _, rfl, rfl, OwnsI.nil _ _, rfl, hb1⟩
    case round =>
      obtain ⟨k, ys, hk, rfl, hyl, hown, hr, hbel⟩ := hrel
      have HR := hide hr
      clear hr
      by_cases hlt : k < ts.length
      · obtain ⟨b, off, rfl, hcell, hcell1, hcell2⟩ := hc.below hbel k hlt
        have HD := hide (map_drop3 (fun t => n / t.2.2 * t.2.1) ts k hlt)
        obtain ⟨m1, m2, m3, m4⟩ := HB.out _ (getD_mem3' hlt)
        generalize ts.getD k default = x at *
        obtain ⟨x, y, z⟩ := x
        simp only at hcell hcell1 hcell2 m1 m2 m3 m4 HD
        obtain ⟨p1, p2, p3, p4, p5, p6, p7⟩ := part_bd n1 n2 m3
        clear m3
        have bl := World.block_lt_of_cell? wr _ hcell
        simp at bl
        have hyl' : ys.length ≤ 12 := by omega
        have HL := hide hyl
        clear hyl
        have hsz := hbel.size
        have e1 := IntWalk.i64_quo n z (by omega)
        have e2 : IntKind.i64.wrap (n / z * y) = n / z * y := IntWalk.i64_in _ (by omega)
        go_wp2
        obtain ⟨W, hW⟩ : ∃ W, W = wr.alloc (.cells #[.int .i64 x, .int .i64 y, .int .i64 z] 56) := ⟨_, rfl⟩
        rw [← hW]
        have hal : Below wr.heap.size wr W := by rw [hW]; exact (Below.refl _ _).alloc (Nat.le_refl _) _
        have hbox : W.heap[wr.heap.size]? = some (.cells #[.int .i64 x, .int .i64 y, .int .i64 z] 56 (0, 0)) := by rw [hW]; exact blk_new _ _ _
        have hlv : ∀ q, u4.ownBlock = some q → q < wr.heap.size := fun q hq => (OwnsI.lt hown q hq).2
        have ownW := hown.below hal
        have belW := hbel.trans (hal.mono hsz)
        clear hW hown hbel hcell hcell1 hcell2 hal
        generalize wr.heap.size = bx at *
        have k1 := cell_of_block hbox 1
        have k2 := cell_of_block hbox 2
        simp at k1 k2
        have bne : u4.ownBlock ≠ some bx := fun e => by have := hlv _ e; omega
        have hbl := (Array.getElem?_eq_some_iff.1 hbox).1
        have hsW := belW.size
        have news := World.news_of_block (cs := #[.int .i64 (n / z * y)]) (t := 3) (fr := (0, 0)) (heap_alloc_new W _)
        go_region_held3 (fun w' => w'.cell? ⟨bx, 1, none⟩ = some (.int .i64 y) ∧ w'.cell? ⟨bx, 2, none⟩ = some (.int .i64 z))
          (first
            | go_keep
            | (go_split_ands
               refine ⟨?_, ?_⟩
               · (rw [hgrow.cell_far _ (by simp; omega) (Ne.symm bne)]; assumption)
               · (rw [hgrow.cell_far _ (by simp; omega) (Ne.symm bne)]; assumption)))
          ((refine step_append_lies _ (by rfl) _ _ _ (by rfl) w.heap.size 3 i0 _ 1 8 Try.underlying35 hi0 hz0 hz1 hz2 rfl (by omega) u4 ys.length (ys.map (Value.int .i64)) (by rfl) ((World.ownsRow.alloc ownW _).drew)
              ⟨W.heap.size, 0, none⟩ 1 1 [.int .i64 (n / z * y)] (by rfl) (by rfl) news (by simp [Value.oneCell'])
              (by omega) (by unfold maxLen; omega) (by omega) (by simp; omega) (W.heap.size + 1) (by simp) ?_; intro gg cap w2 hown2 hgrow hat hlt2))
        have own3 : OwnsI w.heap.size w2 (.slice (some ⟨gg, 0, none⟩) (ys.length + 1) cap) (ys ++ [n / z * y]) := by
          unfold OwnsI; simpa using hown2
        have bel3 := (belD (belA belW)).grown hgrow (by simp; omega) (fun q hq => (OwnsI.lt ownW q hq).1)
        clear hown2 hgrow hat news k1 k2 hbox e1 e2 ownW belW
        go_wp2
        go_roundw
        case rel => exact ⟨k + 1, ys ++ [n / z * y], by omega, by go_num, by simp [HL.out], own3, by rw [HR.out, HD.out]; simp, bel3⟩
        case measure => simp [intOf]; omega
      · go_wp2
        go_ret
        refine ⟨_, rfl, ?_, hbel⟩
        rw [HM.out, HR.out, List.drop_of_length_le (by omega)]
        simpa using hown

set_option maxHeartbeats 2000000 in
theorem specParts_any (a : Option Addr) (cap : Nat) (ts : List T3) (w : World) (hc : Rd3 w a ts) (hn : ts.length ≤ 1048576) :
    Calls Try.prog 31 #[.slice a ts.length cap] w fun e w' => GivesI (partsM ts) w e w' := by
  have hal : Below w.heap.size w (w.alloc (.cells #[] 3)) := (Below.refl _ _).alloc (Nat.le_refl _) _
  have hca := hc.below hal
  have own0 := OwnsI.empty w.heap.size w (Nat.le_refl _)
  have HC := hide (specCommonBottom_any a cap ts _ hca hn)
  rcases bottom_bd ts with hb | ⟨n1, n2, hr⟩
  · have HM := hide (show partsM ts = [] by simp [partsM, hb])
    rw [hb] at HC
    clear hb
    go_enter Try.func31, Try.ntmps31
    go_wp2_with fail
    (with_reducible refine HC.out.mono ?_)
    rintro e w1 ⟨rfl, hb1⟩
    have own1 := own0.below hb1
    have bel1 := belT hal hb1
    go_wp2
    refine wp_loop_rounds 1 ?_
    rw [rounds_succ]
    go_wp2
    all_goals go_ret
    all_goals exact ⟨_, rfl, by rw [HM.out]; exact own1, bel1⟩
  · have HM := hide (show partsM ts = ts.map fun t => bottomM ts / t.2.2 * t.2.1 by simp only [partsM]; rw [if_neg (by omega)])
    have HB := hide (rights_mem hr)
    have h12 := (rights_parts hr).2.1
    clear hr
    generalize bottomM ts = n at *
    go_enter Try.func31, Try.ntmps31
    go_wp2_with fail
    (with_reducible refine HC.out.mono ?_)
    rintro e w1 ⟨rfl, hb1⟩
    have own1 := own0.below hb1
    have bel1 := belT hal hb1
    clear hb1 own0 hca hal
    go_wp2
    go_loopw [3, 5] (fun v i wr => ∃ (k : Nat) (ys : List Int), k ≤ ts.length ∧ i = .int .i64 k ∧ ys.length = k ∧ OwnsI w.heap.size wr v ys ∧ (ts.map fun t => n / t.2.2 * t.2.1) = ys ++ (ts.drop k).map (fun t => n / t.2.2 * t.2.1) ∧ Below w.heap.size w wr) (fun _ i _ => ts.length - (intOf i).toNat)
    case atStart => exact ⟨0, [], Nat.zero_le _, rfl, rfl, own1, rfl, bel1⟩
    case round =>
      obtain ⟨k, ys, hk, rfl, hyl, hown, hr, hbel⟩ := hrel
      have HR := hide hr
      clear hr
      by_cases hlt : k < ts.length
      · obtain ⟨b, off, rfl, cw0, cw1, cw2⟩ := hc k hlt
        have bl := World.block_lt_of_cell? w _ cw0
        simp at bl
        have hcell1 := cellB hbel cw1
        have hcell2 := cellB hbel cw2
        clear cw0 cw1 cw2
        have HD := hide (map_drop3 (fun t => n / t.2.2 * t.2.1) ts k hlt)
        obtain ⟨m1, m2, m3, m4⟩ := HB.out _ (getD_mem3' hlt)
        generalize ts.getD k default = x at *
        obtain ⟨x, y, z⟩ := x
        simp only at hcell1 hcell2 m1 m2 m3 m4 HD
        obtain ⟨p1, p2, p3, p4, p5, p6, p7⟩ := part_bd n1 n2 m3
        clear m3
        have hyl' : ys.length ≤ 12 := by omega
        have HL := hide hyl
        clear hyl
        have hBw := hbel.size
        have i1 : (0 : Int) ≤ (k : Int) := by omega
        have i2 : (k : Int) < (ts.length : Int) := by omega
        have i3 : (0 : Int) < n := by omega
        have hown := (Or.inl hown : OwnsE w.heap.size wr _ ys)
        go_wp2
        have e1 := IntWalk.i64_quo n z (by omega)
        have e2 : IntKind.i64.wrap (n / z * y) = n / z * y := IntWalk.i64_in _ (by omega)
        (have hcgB := fun p b o h => cell_grewB wr (w.heap.size) p b o hBw h; refine wp_region_u (InB wr (w.heap.size)) (OwnF wr (w.heap.size) (w.heap.size) _ ys) (up_inB hBw) (up_ownF hBw _ _) (inB_below hBw ⟨rfl, rfl, rfl, Nat.le_refl _, fun _ _ => rfl⟩) ⟨⟨rfl, rfl, rfl, Nat.le_refl _, fun _ _ => rfl⟩, hown⟩ [0, 1, 2, 3, 4, 5, 6, 7, 8, 9, 10, 11, 12, 13, 14, 15] [16, 17, 18] (by kernel_rfl) (by kernel_rfl) ?_; simp only [pick, List.map_cons, List.map_nil, Array.getD_eq_getD_getElem?, List.getElem?_toArray, List.getElem?_cons_zero, List.getElem?_cons_succ, Option.getD_some]; (iterate 16 (refine wpG_step (fun K hK => ?_); go_simp; first | (refine hK _ ?_; clear hK K) | (apply Exists.intro; refine ⟨fun _ => ?_, hK _ ?_⟩; (fail); clear hK K))); refine wpG_nil ?_; clear hcgB; refine wpT_app (y := n / z * y) hBw (Nat.le_refl _) hBw (by omega) rfl rfl (fun wq => by go_simp) _ _ rfl (fun _ => rfl) (fun _ => rfl) ?_; intro bq vq; simp only [Act.put, List.setIfInBounds_toArray, List.set_cons_zero, List.set_cons_succ]; refine wpT_pureU (up_ownF hBw _ _) rfl (fun wq => by (go_simp; rfl)) ?_; simp only [Act.put, List.setIfInBounds_toArray, List.set_cons_zero, List.set_cons_succ]; intro w2 hCq hFq; obtain ⟨hbelq, hownq⟩ := hFq; clear hCq)
        clear e1 e2
        go_wp2
        go_roundw
        case rel => exact ⟨k + 1, ys ++ [n / z * y], by omega, by go_num, by simp [HL.out], (by rcases hownq with h | ⟨h, _⟩; exact h; simp at h), by rw [HR.out, HD.out]; simp, hbel.trans hbelq⟩
        case measure => simp [intOf]; omega
      · go_wp2
        go_ret
        refine ⟨_, rfl, ?_, hbel⟩
        rw [HM.out, HR.out, List.drop_of_length_le (by omega)]
        simpa using hown

theorem parts_length (ts : List T3) (h : ts.length ≤ 1048576) : (partsM ts).length ≤ 1048576 := by
  unfold partsM; split
  · simp
  · simpa using h

end Go.Proofs.Ytjcoajaoofjjmaa
