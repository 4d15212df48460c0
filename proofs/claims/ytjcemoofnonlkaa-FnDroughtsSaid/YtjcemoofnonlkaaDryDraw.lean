/- Drawn claims and water. -/
import Derived.Test.YtjcemoofnonlkaaDry
import Derived.Test.YtjcemoofnonlkaaApp
import Derived.Test.YtjcemoofnonlkaaCur
namespace Go.Proofs.Ytjcemoofnonlkaa
set_option linter.unusedSimpArgs false
set_option linter.unusedVariables false
open Go.RowKit

theorem OwnsI.grown {base : Nat} {w w' : World} {v : Value} {xs : List Int} {g : Nat} (h : OwnsI base w v xs) (hb : w.grownBy w' (some g)) (hg : g < base) : OwnsI base w' v xs :=
  World.ownsRow.kept h (row := some g) hb (by
    cases hv : v.ownBlock with
    | none => exact .inl rfl
    | some k => exact .inr (by have := (OwnsI.lt h k hv).1; intro e; cases e; omega))

def clDr (xs : List Int) : Prop := 1 ≤ xs.length ∧ xs.length ≤ 6 ∧ ∀ x ∈ xs, 0 ≤ x ∧ x ≤ 59
theorem clDr_dry {xs : List Int} {water : Int} (h : clDr xs) (h0 : 0 ≤ water) (h1 : water ≤ 1000000) : dryM xs water = true := by
  obtain ⟨a, b, c⟩ := h
  simp only [dryM, clOk, allB, Bool.and_eq_true, List.all_eq_true]
  refine ⟨⟨inB_iff.2 (by omega), fun x hx => inB_iff.2 ?_⟩, inB_iff.2 (by omega)⟩
  have := c x hx; omega

def DrC (B g : Nat) (w : World) (e : Ending) (w' : World) : Prop := ∃ (v : Value) (xs : List Int), e = .returned v ∧ clDr xs ∧ OwnsI w.heap.size w' v xs ∧ w.grownBy w' (some g) ∧ CurAt B w' g

theorem l15Claims_any (B g : Nat) (w : World) (hc : CurAt B w g) :
    Calls Try.prog 63 #[.pointer (some ⟨g, 0, none⟩)] w (DrC B g w) := by
  have hgl := hc.lt
  go_enter Try.func63, Try.ntmps63
  go_wp2_with fail
  refine (l01Below_any B g 6 _ hc.al (by omega) (by omega)).mono ?_
  rintro e w1 ⟨m, rfl, m0, m1, hc1, hg1⟩
  have own1 := (OwnsI.empty w.heap.size w (Nat.le_refl _)).grown hg1 hgl.2
  have gr1 := grownBy_trans (r := some g) (grownBy_below (grownBy_refl w (some g)) ((Below.refl _ _).alloc (Nat.le_refl _) (.cells #[] 3)) (Nat.le_refl _) (Nat.le_refl _)) hg1
  clear hg1 hc
  go_wp2
  go_loopw [3, 5] (fun v i wr => ∃ (k : Nat) (xs : List Int), i = .int .i64 k ∧ (k : Int) ≤ 1 + m ∧ xs.length = k ∧ (∀ x ∈ xs, 0 ≤ x ∧ x ≤ 59) ∧ CurAt B wr g ∧ OwnsI w.heap.size wr v xs ∧ w.grownBy wr (some g)) (fun _ i _ => 7 - (intOf i).toNat)
  case atStart => exact ⟨0, [], rfl, by simp; omega, rfl, by simp, hc1, own1, gr1⟩
  case round =>
    obtain ⟨k, xs, rfl, hk, hxl, hxs, hcr, hown, hgr⟩ := hrel
    have HL := hide hxl
    have HX := hide hxs
    have xl6 : xs.length ≤ 7 := by omega
    clear hxl hxs
    by_cases hlt : (k : Int) < 1 + m
    · go_wp2_with fail
      refine (l01Below_any B g 60 _ hcr (by omega) (by omega)).mono ?_
      rintro e w2 ⟨x, rfl, x0, x1, hc2, hg2⟩
      have own2 := hown.grown hg2 hgl.2
      have gr2 := grownBy_trans hgr hg2
      clear hg2 hcr hown hgr
      have hs2 := gr2.size
      go_wp2_with (at_builtin; refine append1 rfl _ _ rfl w.heap.size _ xs _ own2 rfl rfl (by omega) hs2 ?_; intro v3 w3 own3 hbel3)
      have hc3 := hc2.belowB hbel3 hgl.2
      have gr3 := grownBy_below gr2 hbel3 (Nat.le_refl _) hs2
      clear hc2 own2 gr2
      go_roundw
      case rel =>
        refine ⟨k + 1, xs ++ [x], by go_num, by omega, by simp [HL.out], ?_, hc3, own3, gr3⟩
        intro y hy
        rcases List.mem_append.1 hy with hy | hy
        · exact HX.out y hy
        · simp at hy; subst hy; omega
      case measure => simp [intOf]; omega
    · go_wp2
      go_ret
      exact ⟨_, xs, rfl, ⟨by have := HL.out; omega, by have := HL.out; omega, HX.out⟩, hown, hgr, hcr⟩

def DrCW (w : World) (e : Ending) (w' : World) : Prop := ∃ (g cap : Nat) (xs : List Int) (x : Int), e = .returned (.tuple #[.slice (some ⟨g, 0, none⟩) xs.length cap, .int .i64 x]) ∧ clDr xs ∧ 0 ≤ x ∧ x ≤ 249 ∧ w.heap.size ≤ g ∧ OwnP w' g 3 xs ∧ Below w.heap.size w w'

theorem DrawClaims_any (a : Option Addr) (cap : Nat) (bs : List Int) (w : World) (hr : Rd8 w a bs) (hl : bs.length ≤ 1048576) :
    Calls Try.prog 40 #[.slice a bs.length cap] w (DrCW w) := by
  go_enter Try.func40, Try.ntmps40
  go_wp2_with fail
  refine (l01New_any a cap bs w hr hl).mono ?_
  rintro e w1 ⟨g, hg, rfl, hc1, hb1⟩
  go_wp2_with fail
  refine (l15Claims_any _ g w1 hc1).mono ?_
  rintro e w2 ⟨v, xs, rfl, hxs, hown, hgr, hc2⟩
  have hc1l := hc1.lt
  rcases hown.cases with ⟨rfl, h0⟩ | ⟨g2, c2, rfl, hg2, ho2⟩
  · exact absurd hxs.1 (by rw [h0]; simp)
  have HX := hide hxs
  clear hxs
  go_wp2_with fail
  refine (l01Below_any _ g 250 w2 hc2 (by omega) (by omega)).mono ?_
  rintro e w3 ⟨x, rfl, x0, x1, hc3, hg3⟩
  have ho3 := ho2.grown hg3 (by omega)
  go_wp2
  go_ret2
  have hb2 := hb1.grown hgr hb1.size (fun k hk => by cases hk; exact hg)
  exact ⟨g2, c2, xs, x, rfl, HX.out, x0, by omega, Nat.le_trans hb1.size hg2, ho3, hb2.grown hg3 hb2.size (fun k hk => by cases hk; exact hg)⟩

end Go.Proofs.Ytjcemoofnonlkaa
