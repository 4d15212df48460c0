/- Drawn nets: valid, with two places. -/
import Derived.Test.YteimcbhnjhkkbaaNet2
import Derived.Test.YteimcbhnjhkkbaaCur
import Derived.Test.YteimcbhnjhkkbaaAppL
import Derived.Deep.RegionHeld3
import Derived.Deep.RegionLaw
import Derived.Deep.DeepCutAuto
import Derived.Deep.CutBlock
namespace Go.Proofs.Yteimcbhnjhkkbaa
set_option linter.unusedSimpArgs false
set_option linter.unusedVariables false
open Go.RowKit

theorem OwnsTN.grown {T : TypeId} {base : Nat} {w w' : World} {v : Value} {xs : List T3} {g : Nat} (h : OwnsT T base w v xs) (hb : w.grownBy w' (some g)) (hg : g < base) : OwnsT T base w' v xs :=
  World.ownsRow.kept h (row := some g) hb (by
    cases hv : v.ownBlock with
    | none => exact .inl rfl
    | some k => exact .inr (by have := (OwnsT.lt h k hv).1; intro e; cases e; omega))

theorem OwnsTN.nil0 (nb : Nat) (w : World) : OwnsT 60 (nb + 1) w (.slice none 0 0) [] := OwnsT.nil _ _ _

/-- Drawn so far: pipes of a net of p places. -/
def netTo (p : Int) (ts : List T3) : Prop := (∀ t ∈ ts, pipeOk p t = true)

def DrN (B g : Nat) (w : World) (e : Ending) (w' : World) : Prop := ∃ (p : Int) (v : Value) (ts : List T3), e = .returned (.agg #[.int .i64 p, v]) ∧ netOk p ts = true ∧ ts.length ≤ 9 ∧ p ≤ 6 ∧ OwnsT 60 w.heap.size w' v ts ∧ w.grownBy w' (some g) ∧ CurAt B w' g

set_option maxRecDepth 100000 in
set_option maxHeartbeats 2000000 in
theorem l08Net_any (B g : Nat) (w : World) (hc : CurAt B w g) :
    Calls Try.prog 34 #[.pointer (some ⟨g, 0, none⟩)] w (DrN B g w) := by
  have hgl := hc.lt
  go_enter Try.func34, Try.ntmps34
  go_wp2_with fail
  refine (l01Below_any B g 5 _ hc.al (by omega) (by omega)).mono ?_
  rintro e w1 ⟨x, rfl, x0, x1, hc1, hg1⟩
  have hr1 : w1.heap[w.heap.size]? = some (.cells #[.int .i64 0, .slice none 0 0] 26 (0, 0)) := grown_heap hg1 (blk_new w _ _) (by intro e; cases e; omega)
  have gr1 := grownBy_trans (r := some g) (grownR (r := some g) ((Below.refl w.heap.size w).alloc (Nat.le_refl _) (.cells #[.int .i64 0, .slice none 0 0] 26))) hg1
  have hs1 := gr1.size
  have hl1 : w.heap.size < w1.heap.size := (Array.getElem?_eq_some_iff.1 hr1).1
  clear hg1 hc
  have hal := (Below.refl w1.heap.size w1).alloc (Nat.le_refl _) (.cells #[.int .i64 (2 + x), .slice none 0 0] 26)
  have hb1' := blk_new w1 #[.int .i64 (2 + x), .slice none 0 0] 26
  have hr1' := heap_grow hr1 hal
  have gr1' := grownBy_trans gr1 (grownR (r := some g) hal)
  go_wp2_with fail
  refine (l01Below_any B g 10 _ hc1.al (by omega) (by omega)).mono ?_
  rintro e w2 ⟨m, rfl, m0, m1, hc2, hg2⟩
  have HR2 := hide (grown_heap hg2 hr1' (by intro e; cases e; omega))
  have HB2 := hide (grown_heap hg2 hb1' (by intro e; cases e; omega))
  have GR2 := hide (grownBy_trans gr1' hg2)
  have HC2 := hide hc2
  have hnb : w.heap.size < w1.heap.size := hl1
  have hs2 : w1.heap.size < w2.heap.size := by have := hg2.size; simp at this; omega
  clear hg2 hc1 hr1 gr1 hs1 hl1 hal hb1' hr1' gr1' hc2
  generalize w1.heap.size = nb at *
  obtain ⟨p, hp⟩ : ∃ p : Int, p = 2 + x := ⟨_, rfl⟩
  have hp6 : 2 ≤ p ∧ p ≤ 6 := by omega
  rw [← hp] at HB2 ⊢
  clear hp x0 x1
  have own0 := hide (OwnsTN.nil0 nb w2)
  go_wp2
  go_loopw [4] (fun i wr => ∃ (n0 : Int) (v : Value) (ts : List T3), i = .int .i64 n0 ∧ 0 ≤ n0 ∧ (ts.length : Int) + n0 ≤ 9 ∧ Hid (netTo p ts) ∧ Hid (wr.heap[w.heap.size]? = some (.cells #[.int .i64 0, .slice none 0 0] 26 (0, 0))) ∧ Hid (wr.heap[nb]? = some (.cells #[.int .i64 p, v] 26 (0, 0))) ∧ Hid (OwnsT 60 (nb + 1) wr v ts) ∧ Hid (CurAt B wr g) ∧ Hid (w.grownBy wr (some g)) ∧ nb < wr.heap.size) (fun i _ => (intOf i).toNat)
  case atStart => exact ⟨m, _, [], rfl, m0, by simp; omega, hide (by intro t ht; simp at ht), HR2, HB2, own0, HC2, GR2, hs2⟩
  case round =>
    clear HR2 HB2 own0 HC2 GR2 hs2
    obtain ⟨n0, v, ts, rfl, hn0, hl9, HN, HR, HB, OW, HC, GR, hsz⟩ := hrel
    have c0 := cell_of_block HB.out 0
    have c1 := cell_of_block HB.out 1
    have cf1 := frozen_of_block HB.out 1
    simp at c0 c1
    by_cases hn : 0 < n0
    · go_wp2_with fail
      refine (l01Below_any B g p _ HC.out (by omega) (by omega)).mono ?_
      rintro e w3 ⟨y, rfl, y0, y1, hc3, hg3⟩
      have HR3 := hide (grown_heap hg3 HR.out (by intro e; cases e; omega))
      have HB3 := hide (grown_heap hg3 HB.out (by intro e; cases e; omega))
      have OW3 := hide (OwnsTN.grown OW.out hg3 (by omega))
      have GR3 := hide (grownBy_trans GR.out hg3)
      have hs3 : nb < w3.heap.size := Nat.lt_of_lt_of_le hsz hg3.size
      clear hg3 HR HB OW HC GR c0 c1 cf1
      have c0 := cell_of_block HB3.out 0
      simp at c0
      have s1 : IntKind.i64.wrap (y + 1) = y + 1 := IntWalk.i64_in _ (by omega)
      have s2 : IntKind.i64.wrap (p - 1) = p - 1 := IntWalk.i64_in _ (by omega)
      have hne : nb ≠ g := by omega
      have pz : ¬ p = 0 := by omega
      go_wp2
      go_region_held3 (fun w' => w'.cell? ⟨nb, 0, none⟩ = some (.int .i64 p)) (first | go_keep | (exact hg4.cell (by assumption) (by simpa using hne))) ((go_at_call 35; refine (l01Below_any B g (p - 1) _ hc3.dr1 (by omega) (by omega)).mono ?_; rintro e w4 ⟨z, rfl, z0, z1, hc4, hg4⟩; have s3 : IntKind.i64.wrap (y + 1 + z) = y + 1 + z := IntWalk.i64_in _ (by omega); have q4 : w4.cell? ⟨nb, 0, none⟩ = some (.int .i64 p) := (hg4.cell (w := w3.drew) c0 (by simpa using hne)); have s4 : IntKind.i64.wrap ((y + 1 + z).tmod p) = (y + 1 + z) % p := (by rw [Int.tmod_eq_emod_of_nonneg (by omega)]; exact IntWalk.i64_in _ (by have := Int.emod_nonneg (y + 1 + z) pz; have := Int.emod_lt_of_pos (y + 1 + z) (show 0 < p by omega); omega))))
      have hb4 : 0 ≤ (y + 1 + z).tmod p ∧ (y + 1 + z).tmod p ≤ p - 1 ∧ y ≠ (y + 1 + z).tmod p := by
        rw [Int.tmod_eq_emod_of_nonneg (by omega)]
        have hps : p = 2 ∨ p = 3 ∨ p = 4 ∨ p = 5 ∨ p = 6 := by omega
        rcases hps with rfl | rfl | rfl | rfl | rfl <;> omega
      have HR4 := hide (grown_heap (w := w3.drew) hg4 HR3.out (by intro e; cases e; omega))
      have HB4 := hide (grown_heap (w := w3.drew) hg4 HB3.out (by intro e; cases e; omega))
      have OW4 := hide (OwnsTN.grown (w := w3.drew) OW3.out hg4 (by omega))
      have GR4 := hide (grownBy_trans (b := w3.drew) ⟨GR3.out.os, GR3.out.tape, GR3.out.output, GR3.out.size, GR3.out.block⟩ hg4)
      have hs4 : nb < w4.heap.size := Nat.lt_of_lt_of_le hs3 hg4.size
      have HC4 := hide hc4
      clear hg4 hc4 hc3 HR3 HB3 OW3 GR3 hs3 q4 s1 s2 s3 s4 c0 z0 z1
      generalize (y + 1 + z).tmod p = b at *
      have c1 := cell_of_block HB4.out 1
      have cf1 := frozen_of_block HB4.out 1
      simp at c1
      obtain ⟨zz, hinf, hzc⟩ := infPipe
      obtain ⟨i0, hi0, hz0, hz1, hz2⟩ := info_parts hinf
      have hvb : ∀ k, v.ownBlock = some k → nb + 1 ≤ k ∧ k < w4.heap.size := fun k hk => OW4.out.lt k hk
      have vne : v.ownBlock ≠ some nb := fun e => by have := hvb _ e; omega
      have tl : ts.length ≤ 9 := by omega
      go_wp2
      go_region_law (first
          | (refine step_append_lies _ (by rfl) _ _ _ (by rfl) (nb + 1) 60 i0 _ 3 24 Try.underlying24 hi0 hz0 hz1 hz2 hzc (by omega) v ts.length ((flat ts).map (Value.int .i64)) (by rfl) (World.ownsRow.alloc OW5 _)
              ⟨w5.heap.size, 0, none⟩ 1 1 [.int .i64 y, .int .i64 b, .int .i64 (1 + z)] (by rfl) (by rfl) news (by simp [Value.oneCell'])
              (by omega) (by unfold maxLen; omega) (by omega) (by simp; omega) (w5.heap.size + 1) (by simp) ?_; intro gg cap w6 hown6 hgrow hat hlt2; have hn6 := grown_heap hgrow (blk_alloc hn5) vne; have k6 := cell_of_block hn6 1; have f6 := frozen_of_block hn6 1; simp at k6)
          | (go_simp; go_at_call 35; refine (l01Below_any B g 20 _ HC4.out.dr1 (by omega) (by omega)).mono ?_; rintro e w5 ⟨z, rfl, z0, z1, hc5, hg5⟩; have s3 : IntKind.i64.wrap (1 + z) = 1 + z := IntWalk.i64_in _ (by omega); have q5 : w5.cell? ⟨nb, 1, none⟩ = some v := (hg5.cell (w := w4.drew) c1 (by simpa using hne)); have news := World.news_of_block (cs := #[.int .i64 y, .int .i64 b, .int .i64 (1 + z)]) (t := 60) (fr := (0, 0)) (heap_alloc_new w5 _); have OW5 := OwnsTN.grown (w := w4.drew) OW4.out hg5 (by omega); have hs5 : nb < w5.heap.size := Nat.lt_of_lt_of_le hs4 hg5.size; have hn5 := grown_heap (w := w4.drew) hg5 HB4.out (by intro e; cases e; omega)))
      all_goals
        have bel := (((Below.refl nb w5).alloc (Nat.le_of_lt hs5) (.cells #[.int .i64 y, .int .i64 b, .int .i64 (1 + z)] 60)).grown hgrow (by simp; omega) (fun k hk => by have := hvb k hk; omega)).setCell (p := ⟨nb, 1, none⟩) (Nat.le_refl _) (.slice (some ⟨gg, 0, none⟩) (ts.length + 1) cap)
        have GR5 := grownBy_trans (b := w4.drew) ⟨GR4.out.os, GR4.out.tape, GR4.out.output, GR4.out.size, GR4.out.block⟩ hg5
        have HG7 := hide (grownBy_below GR5 bel (by omega) (Nat.le_of_lt hs5))
        have HC7 := hide (hc5.belowB bel (by omega))
        have HR7 := hide ((bel.block w.heap.size hnb).trans (grown_heap (w := w4.drew) hg5 HR4.out (by intro e; cases e; omega)))
        have hB7 := setCell_block (i := 1) (v := .slice (some ⟨gg, 0, none⟩) (ts.length + 1) cap) hn6
        simp at hB7
        have HB7 := hide hB7
        have gne : gg ≠ nb := by rcases hat with h | h; (have := hvb gg h; omega); omega
        have hO6 : OwnsT 60 (nb + 1) w6 (.slice (some ⟨gg, 0, none⟩) (ts.length + 1) cap) (ts ++ [(y, b, 1 + z)]) := by
          unfold OwnsT; rw [flat_append]; simpa [flat] using hown6
        have HO7 := hide (World.ownsRow.kept hO6 (row := some nb) (grownBy_set w6 nb 1 (.slice (some ⟨gg, 0, none⟩) (ts.length + 1) cap)) (.inr (fun e => gne (by simpa [Value.ownBlock] using e))))
        have hs7 := Nat.lt_of_lt_of_le hs5 bel.size
        have HN7 := hide (show netTo p (ts ++ [(y, b, 1 + z)]) by
          intro t ht
          rcases List.mem_append.1 ht with ht | ht
          · exact HN.out t ht
          · simp at ht; subst ht
            exact pipeOk_iff.2 ⟨y0, by simp only; omega, hb4.1, hb4.2.1, hb4.2.2, by simp only; omega, by simp only; omega⟩)
        clear bel GR5 hB7 hO6 hn6 k6 f6 hown6 hgrow hat hlt2 hn5 hs5 OW5 news q5 s3 hg5 hc5 hs4 c1 cf1
        generalize w6.setCell ⟨nb, 1, none⟩ (.slice (some ⟨gg, 0, none⟩) (ts.length + 1) cap) = w7 at *
        go_wp2
        go_roundw
        case rel => exact ⟨n0 - 1, _, ts ++ [(y, b, 1 + z)], rfl, by omega, by simp; omega, HN7, HR7, HB7, HO7, HC7, HG7, hs7⟩
        case measure => simp [intOf]; omega
    · have hcr := cell_of_block HR.out 0
      have hcr1 := cell_of_block HR.out 1
      have hfr0 := frozen_of_block HR.out 0
      have hfr1 := frozen_of_block HR.out 1
      simp at hcr hcr1
      have hsr : w.heap.size < wr.heap.size := by omega
      have GE : ∀ v', Below w.heap.size wr ((wr.setCell ⟨w.heap.size, 0, none⟩ (.int .i64 p)).setCell ⟨w.heap.size, 1, none⟩ v') := fun v' => (below_set wr _ 0 _).trans (below_set _ _ 1 _)
      have HOK := hide (show netOk p ts = true by
        simp only [netOk, Bool.and_eq_true, List.all_eq_true]
        exact ⟨⟨inB_iff.2 (by omega), by simp; omega⟩, HN.out⟩)
      have OWr := hide (fun v' => OwnsT.mono (World.ownsRow.kept OW.out (row := some w.heap.size) (grownBy_trans (grownBy_set wr w.heap.size 0 (.int .i64 p)) (grownBy_set _ w.heap.size 1 v')) (by
        cases hv : v.ownBlock with
        | none => exact .inl rfl
        | some k => exact .inr (by have := (OW.out.lt k hv).1; intro e; cases e; omega))) (show w.heap.size ≤ nb + 1 by omega))
      have GR' := GR.out
      have HCr := HC.out
      rcases OW.out.cases with ⟨rfl, _⟩ | ⟨g2, c2, rfl, _, _⟩
      · go_wp2
        have hW := (store_two (x := .int .i64 p) (y := (.slice none 0 0)) HR.out).1
        have d0 := cell_of_block hW 0
        have d1 := cell_of_block hW 1
        simp at d0 d1
        have OF := hide (OWr.out (.slice none 0 0))
        have GF := hide (GE (.slice none 0 0))
        clear hcr hcr1 hfr0 hfr1 OWr GE hW
        generalize (wr.setCell ⟨w.heap.size, 0, none⟩ (.int .i64 p)).setCell ⟨w.heap.size, 1, none⟩ (.slice none 0 0) = W at *
        refine bodyPost_ret (by simp [results, Try.results34, go_sem, *]; try rfl) rfl ?_
        exact ⟨p, _, ts, rfl, HOK.out, by omega, hp6.2, OF.out, grownBy_below GR' GF.out (Nat.le_refl _) (by omega), HCr.belowB GF.out (by omega)⟩
      · go_wp2
        have hW := (store_two (x := .int .i64 p) (y := (.slice (some ⟨g2, 0, none⟩) ts.length c2)) HR.out).1
        have d0 := cell_of_block hW 0
        have d1 := cell_of_block hW 1
        simp at d0 d1
        have OF := hide (OWr.out (.slice (some ⟨g2, 0, none⟩) ts.length c2))
        have GF := hide (GE (.slice (some ⟨g2, 0, none⟩) ts.length c2))
        clear hcr hcr1 hfr0 hfr1 OWr GE hW
        generalize (wr.setCell ⟨w.heap.size, 0, none⟩ (.int .i64 p)).setCell ⟨w.heap.size, 1, none⟩ (.slice (some ⟨g2, 0, none⟩) ts.length c2) = W at *
        refine bodyPost_ret (by simp [results, Try.results34, go_sem, *]; try rfl) rfl ?_
        exact ⟨p, _, ts, rfl, HOK.out, by omega, hp6.2, OF.out, grownBy_below GR' GF.out (Nat.le_refl _) (by omega), HCr.belowB GF.out (by omega)⟩

end Go.Proofs.Yteimcbhnjhkkbaa
