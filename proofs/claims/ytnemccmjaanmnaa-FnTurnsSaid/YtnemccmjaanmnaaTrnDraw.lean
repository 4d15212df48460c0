/- Drawn turns: valid, the owners from 1 to 6. -/
import Derived.Test.YtnemccmjaanmnaaTrnLaw
import Derived.Test.YtnemccmjaanmnaaCur
import Derived.Deep.RegionHeld3
namespace Go.Proofs.Ytnemccmjaanmnaa
set_option linter.unusedSimpArgs false
set_option linter.unusedVariables false
open Go.RowKit

theorem OwnsT.grown {T : TypeId} {base : Nat} {w w' : World} {v : Value} {xs : List T3} {g : Nat} (h : OwnsT T base w v xs) (hb : w.grownBy w' (some g)) (hg : g < base) : OwnsT T base w' v xs :=
  World.ownsRow.kept h (row := some g) hb (by
    cases hv : v.ownBlock with
    | none => exact .inl rfl
    | some k => exact .inr (by have := (OwnsT.lt h k hv).1; intro e; cases e; omega))

def tsDr (ts : List T3) : Prop := tsOk ts = true ∧ ∀ t ∈ ts, t.1 ≤ 6

/-- Drawn so far: valid, the last ends at e. -/
def tsTo (ts : List T3) (e : Int) : Prop := trOk 0 ts = true ∧ (∀ t ∈ ts, t.1 ≤ 6) ∧ (∀ t ∈ ts, t.2.2 ≤ e)
theorem trOk_snoc {q : Int} {ts : List T3} {x y z : Int} (h : trOk q ts = true) (hq : q ≤ y) (hl : ∀ t ∈ ts, t.2.2 ≤ y) (h1 : 1 ≤ x) (h2 : x ≤ 999) (h3 : 0 ≤ y) (h4 : y < z) (h5 : z ≤ 168) : trOk q (ts ++ [(x, y, z)]) = true := by
  induction ts generalizing q with
  | nil => simp [trOk, inB, h1, h2, h3, h4, h5, hq]
  | cons t r ih =>
    obtain ⟨a, b, c⟩ := t
    obtain ⟨g1, g2, g3, g4, g5, g6, g7⟩ := trOk_cons h
    have hc := hl (a, b, c) (by simp)
    have := ih g7 hc (fun u hu => hl u (by simp [hu]))
    simp only [List.cons_append, trOk, this]
    simp [inB, g1, g2, g3, g4, g5, g6]

def DrT (g : Nat) (w : World) (e : Ending) (w' : World) : Prop := ∃ (v : Value) (ts : List T3), e = .returned v ∧ v ≠ .slice none 0 0 ∧ tsDr ts ∧ OwnsT 43 w.heap.size w' v ts ∧ w.grownBy w' (some g)

set_option maxRecDepth 100000 in
set_option maxHeartbeats 2000000 in
theorem l13Turns_any (B g : Nat) (w : World) (hc : CurAt B w g) :
    Calls Try.prog 35 #[.pointer (some ⟨g, 0, none⟩)] w (DrT g w) := by
  have hgl := hc.lt
  go_enter Try.func35, Try.ntmps35
  go_wp2_with fail
  refine (l01Below_any B g 8 _ hc.al (by omega) (by omega)).mono ?_
  rintro e w1 ⟨m, rfl, m0, m1, hc1, hg1⟩
  have own1 := (OwnsT.empty 43 w.heap.size w (Nat.le_refl _)).grown hg1 hgl.2
  have gr1 := grownBy_trans (r := some g) (grownBy_below (grownBy_refl w (some g)) ((Below.refl _ _).alloc (Nat.le_refl _) (.cells #[] 43)) (Nat.le_refl _) (Nat.le_refl _)) hg1
  clear hg1 hc
  go_wp2
  go_loopw [3, 4, 5] (fun v at_ n wr => ∃ (ts : List T3) (at0 n0 : Int), at_ = .int .i64 at0 ∧ n = .int .i64 n0 ∧ 0 ≤ at0 ∧ at0 ≤ 168 ∧ n0 ≤ 8 ∧ (ts.length : Int) + n0 ≤ 8 ∧ 0 ≤ n0 ∧ tsTo ts at0 ∧ v ≠ .slice none 0 0 ∧ CurAt B wr g ∧ OwnsT 43 w.heap.size wr v ts ∧ w.grownBy wr (some g)) (fun _ _ n _ => (intOf n).toNat)
  case atStart => exact ⟨[], 0, m, rfl, rfl, by omega, by omega, by omega, by simp; omega, m0, ⟨rfl, by simp, by simp⟩, (by intro e; cases e), hc1, own1, gr1⟩
  case round =>
    obtain ⟨ts, at0, n0, rfl, rfl, a0, a1, hn8, hl8, hn0, hts, hnil, hcr, hown, hgr⟩ := hrel
    have HN := hide hnil
    clear hnil
    have hsz := hgr.size
    by_cases hn : 0 < n0
    · go_wp2_with fail
      refine (l01Below_any B g 6 _ hcr (by omega) (by omega)).mono ?_
      rintro e w2 ⟨x, rfl, x0, x1, hc2, hg2⟩
      have own2 := hown.grown hg2 hgl.2
      have gr2 := grownBy_trans hgr hg2
      clear hg2 hcr hown hgr
      go_wp2_with fail
      refine (l01Below_any B g 12 _ hc2 (by omega) (by omega)).mono ?_
      rintro e w3 ⟨y, rfl, y0, y1, hc3, hg3⟩
      have own3 := own2.grown hg3 hgl.2
      have gr3 := grownBy_trans gr2 hg3
      clear hg3 hc2 own2 gr2
      have hs3 := gr3.size
      go_wp2
      obtain ⟨W, hW⟩ : ∃ W, W = w3.alloc (Obj.cells #[Value.int IntKind.i64 (1 + x), Value.int IntKind.i64 (at0 + y), Value.int IntKind.i64 0] 43) := ⟨_, rfl⟩
      rw [← hW]
      have hal : Below w3.heap.size w3 W := by rw [hW]; exact (Below.refl _ _).alloc (Nat.le_refl _) _
      have hbt : W.heap[w3.heap.size]? = some (.cells #[Value.int IntKind.i64 (1 + x), Value.int IntKind.i64 (at0 + y), Value.int IntKind.i64 0] 43 (0, 0)) := by
        rw [hW]; show (w3.heap.push _)[w3.heap.size]? = _; simp
      have hWs : w3.heap.size < W.heap.size := (Array.getElem?_eq_some_iff.1 hbt).1
      have hcW := hc3.below hal
      have ownW := own3.below hal
      have hv3 : ∀ k, u3.ownBlock = some k → k < w3.heap.size := fun k hk => (own3.lt k hk).2
      have grW := grownBy_below gr3 hal hs3 (Nat.le_refl _)
      clear hW hal hc3 own3 gr3
      have hbtg : w3.heap.size ≠ g := by omega
      generalize w3.heap.size = bt at *
      have k1 := cell_of_block hbt 1
      have kf := frozen_of_block hbt
      simp at k1
      have s1 : IntKind.i64.wrap (at0 + y + 1) = at0 + y + 1 := IntWalk.i64_in _ (by omega)
      go_region_held3 (fun w' => w'.cell? ⟨bt, 1, none⟩ = some (.int .i64 (at0 + y))) (first | go_keep | (rw [cell_of_block (setCell_block (i := 2) (v := Value.int IntKind.i64 (at0 + y + 1 + z)) q4)]; rfl) | (exact hg4.cell (by assumption) (by simpa using hbtg))) ((go_at_call 37; refine (l01Below_any B g 20 _ hcW.dr1 (by omega) (by omega)).mono ?_; rintro e w4 ⟨z, rfl, z0, z1, hc4, hg4⟩; have s2 : IntKind.i64.wrap (at0 + y + 1 + z) = at0 + y + 1 + z := IntWalk.i64_in _ (by omega); have q4 : w4.heap[bt]? = _ := (hg4.block bt hWs (by simpa using hbtg)).trans hbt; have q5 := cell_of_block q4 2; simp at q5; have q6 := frozen_of_block q4 2; have q7 := cell_of_block q4 1; simp at q7))
      have h5 := setCell_block (i := 2) (v := Value.int IntKind.i64 (at0 + y + 1 + z)) q4
      simp at h5
      have hc5 := hc4.set (k := bt) (i := 2) (v := Value.int IntKind.i64 (at0 + y + 1 + z)) (by omega) (Ne.symm hbtg)
      have own4 : OwnsT 43 w.heap.size w4 u3 ts := OwnsT.grown (w := W.drew) ownW hg4 hgl.2
      have own5 : OwnsT 43 w.heap.size (w4.setCell ⟨bt, 2, none⟩ (Value.int IntKind.i64 (at0 + y + 1 + z))) u3 ts := World.ownsRow.kept own4 (row := some bt) (grownBy_set _ _ _ _) (by
        cases hv : u3.ownBlock with
        | none => exact .inl rfl
        | some k => exact .inr (by have := hv3 k hv; intro e; cases e; omega))
      have gr4 : w.grownBy w4 (some g) := grownBy_trans (b := W.drew) ⟨grW.os, grW.tape, grW.output, grW.size, grW.block⟩ hg4
      have gr5 := grownBy_below gr4 ((Below.refl w.heap.size w4).setCell (p := ⟨bt, 2, none⟩) hs3 (Value.int IntKind.i64 (at0 + y + 1 + z))) (Nat.le_refl _) gr4.size
      clear q4 q5 q6 q7 hc4 hg4 own4 gr4 s1 s2 hcW ownW grW hbt kf k1 hWs hv3
      generalize w4.setCell ⟨bt, 2, none⟩ (Value.int IntKind.i64 (at0 + y + 1 + z)) = w5 at *
      have k0 := cell_of_block h5 0
      have k1 := cell_of_block h5 1
      have k2 := cell_of_block h5 2
      have kf := frozen_of_block h5
      simp at k0 k1 k2
      have H5 := hide h5
      clear h5
      have HT := hide hts
      clear hts
      have hlen : ts.length ≤ 8 := by omega
      have hs5 := gr5.size
      generalize hZ : at0 + y + 1 + z = ee at *
      have hee : at0 + y < ee ∧ ee ≤ at0 + y + 20 := by omega
      clear hZ
      by_cases hov : ee ≤ 168
      · go_wp2_with (at_builtin; refine appendTurn1N rfl _ _ rfl w.heap.size u3 ts (1 + x) (at0 + y) ee own5 rfl rfl (by omega) gr5.size ?_; intro v6 w6 own6 hbel6 hne6)
        have hc6 := hc5.belowB hbel6 hgl.2
        have gr6 := grownBy_below gr5 hbel6 (Nat.le_refl _) gr5.size
        clear hc5 gr5 own5 k0 k1 k2 kf
        go_roundw
        case rel =>
          refine ⟨ts ++ [(1 + x, at0 + y, ee)], ee, n0 - 1, rfl, rfl, by omega, by omega, by omega, by simp; omega, by omega, ?_, hne6, hc6, own6, gr6⟩
          obtain ⟨t1, t2, t3⟩ := HT.out
          refine ⟨trOk_snoc t1 (by omega) (fun t ht => by have := t3 t ht; omega) (by omega) (by omega) (by omega) (by omega) (by omega), ?_, ?_⟩
          · intro t ht; rcases List.mem_append.1 ht with ht | ht
            · exact t2 t ht
            · simp at ht; subst ht; simp; omega
          · intro t ht; rcases List.mem_append.1 ht with ht | ht
            · have := t3 t ht; omega
            · simp at ht; subst ht; simp
        case measure => simp [intOf]; omega
      · go_wp2
        go_ret
        obtain ⟨t1, t2, t3⟩ := HT.out
        exact ⟨_, ts, rfl, HN.out, ⟨by simp [tsOk, t1]; omega, t2⟩, own5, gr5⟩
    · go_wp2
      go_ret
      obtain ⟨t1, t2, t3⟩ := hts
      exact ⟨_, ts, rfl, HN.out, ⟨by simp [tsOk, t1]; omega, t2⟩, hown, hgr⟩

def DrTs (w : World) (e : Ending) (w' : World) : Prop := ∃ (g cap : Nat) (ts : List T3), e = .returned (.slice (some ⟨g, 0, none⟩) ts.length cap) ∧ tsDr ts ∧ w.heap.size ≤ g ∧ OwnP w' g 43 (flat ts) ∧ Below w.heap.size w w'
theorem DrawTurns_any (a : Option Addr) (cap : Nat) (bs : List Int) (w : World) (hr : Rd8 w a bs) (hl : bs.length ≤ 1048576) :
    Calls Try.prog 28 #[.slice a bs.length cap] w (DrTs w) := by
  go_enter Try.func28, Try.ntmps28
  go_wp2_with fail
  refine (l01New_any a cap bs w hr hl).mono ?_
  rintro e w1 ⟨g, hg, rfl, hc1, hb1⟩
  go_wp2_with fail
  refine (l13Turns_any _ g w1 hc1).mono ?_
  rintro e w2 ⟨v, ts, rfl, hne, hts, hown, hgr⟩
  rcases hown.cases with ⟨rfl, _⟩ | ⟨g2, c2, rfl, hg2, ho2⟩
  · exact absurd rfl hne
  go_wp2
  go_ret
  exact ⟨g2, c2, ts, rfl, hts, Nat.le_trans hb1.size hg2, ho2, hb1.grown hgr hb1.size (fun k hk => by cases hk; exact hg)⟩

end Go.Proofs.Ytnemccmjaanmnaa
