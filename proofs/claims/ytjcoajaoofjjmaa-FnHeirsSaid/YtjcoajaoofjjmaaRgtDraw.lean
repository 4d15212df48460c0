/- Drawn rights: made by selling parts of one right. -/
import Derived.Test.YtjcoajaoofjjmaaRlwM
import Derived.Test.YtjcoajaoofjjmaaSps3
import Derived.Test.YtjcoajaoofjjmaaCur
import Derived.Deep.RegionHeld3
namespace Go.Proofs.Ytjcoajaoofjjmaa
set_option linter.unusedSimpArgs false
set_option linter.unusedVariables false
set_option linter.unnecessarySimpa false
open Go.RowKit

theorem mk_four {x : Int} (h0 : 0 ≤ x) (h1 : x < 3) : ∃ p q k : Int, mkM (1 + x) 4 = some (p, q) ∧ q * k = 4 := by
  have h : x = 0 ∨ x = 1 ∨ x = 2 := by omega
  rcases h with rfl | rfl | rfl
  · exact ⟨1, 4, 1, by decide, by decide⟩
  · exact ⟨1, 2, 2, by decide, by decide⟩
  · exact ⟨3, 4, 1, by decide, by decide⟩

/-- What the sale computes, none or some, is drawn. -/
theorem drawn_next {D f tw p q k : Int} {n : Nat} {ts : List T3} (hD : 0 < D) (h : Drawn D n ts) (ht : tw ≤ 12) (hk : q * k = 4) : Drawn (4 * D) (n + 1) ((sellM ts f tw p q).getD ts) := by
  cases hs : sellM ts f tw p q with
  | none => exact h.more
  | some us => exact drawn_sell hD h ht hk hs

theorem Drawn.sub {D E : Int} {n m : Nat} {ts : List T3} (h : Drawn D n ts) (hD : D ∣ E) (hn : n ≤ m) : Drawn E m ts :=
  ⟨h.ok, fun t ht => ⟨(h.un t ht).1, Int.dvd_trans (h.un t ht).2 hD⟩, h.own, by have := h.len; omega⟩

/-- Up to 1024 = 4 to the 5th. -/
def powU : Nat → Int
  | 0 => 1024
  | 1 => 256
  | 2 => 64
  | 3 => 16
  | 4 => 4
  | _ => 1
theorem powU_pos (n : Nat) : 0 < powU n := by unfold powU; split <;> omega
theorem powU_step (n : Nat) (h : n + 1 ≤ 5) : 4 * powU (n + 1) = powU n := by
  have : n = 0 ∨ n = 1 ∨ n = 2 ∨ n = 3 ∨ n = 4 := by omega
  rcases this with rfl | rfl | rfl | rfl | rfl <;> rfl
theorem powU_dvd (n : Nat) : powU n ∣ 1024 := by unfold powU; split <;> decide

theorem HoldsT.some {T : TypeId} {base : Nat} {w : World} {v : Value} {ts : List T3} (h : HoldsT T base w v ts) (hn : 1 ≤ ts.length) : ∃ g cap, v = .slice (some ⟨g, 0, none⟩) ts.length cap ∧ base ≤ g ∧ OwnP w g T (flat ts) := by
  rcases h with ⟨_, rfl⟩ | h
  · simp at hn
  · exact h

/-- One sale of the draw. -/
theorem drawSell (gs cap n0 : Nat) (ts : List T3) (f tw p q k : Int) (w : World) (hr : Rd3 w (some ⟨gs, 0, none⟩) ts) (hd : Drawn (powU (n0 + 1)) (6 - (n0 + 1)) ts) (hn : n0 + 1 ≤ 5) (ht : tw ≤ 12) (hk : q * k = 4) :
    Calls Try.prog 39 #[.slice (some ⟨gs, 0, none⟩) ts.length cap, .int .i64 f, .int .i64 tw, .agg #[.int .i64 p, .int .i64 q]] w fun e w' => ∃ (g7 c7 : Nat) (us : List T3) (ok : Bool), e = .returned (.tuple #[.slice (some ⟨g7, 0, none⟩) us.length c7, .bool ok]) ∧ Drawn (powU n0) (6 - n0) us ∧ w.heap.size ≤ g7 ∧ OwnP w' g7 56 (flat us) ∧ Below w.heap.size w w' := by
  have hl2 := (rights_parts hd.ok).2.1
  have h7 := drawn_next (f := f) (tw := tw) (p := p) (q := q) (k := k) (powU_pos _) hd ht hk
  rw [powU_step n0 hn] at h7
  have h8 := h7.sub (Int.dvd_refl _) (show 6 - (n0 + 1) + 1 ≤ 6 - n0 by omega)
  refine (specSell_any (some ⟨gs, 0, none⟩) cap ts f tw p q w hr (by omega)).mono ?_
  rintro e w' ⟨v, rfl, hv, hb⟩
  obtain ⟨g7, c7, rfl, hg7, o7⟩ := hv.some (rights_parts h8.ok).1
  exact ⟨g7, c7, _, _, rfl, h8, hg7, o7, hb⟩

def DrR (g : Nat) (w : World) (e : Ending) (w' : World) : Prop := ∃ (gs cap : Nat) (ts : List T3), e = .returned (.slice (some ⟨gs, 0, none⟩) ts.length cap) ∧ Drawn 1024 6 ts ∧ w.heap.size ≤ gs ∧ OwnP w' gs 56 (flat ts) ∧ w.grownBy w' (some g)

set_option maxRecDepth 100000 in
set_option maxHeartbeats 2000000 in
theorem l12Rights_any (B g : Nat) (w : World) (hc : CurAt B w g) :
    Calls Try.prog 78 #[.pointer (some ⟨g, 0, none⟩)] w (DrR g w) := by
  have hgl := hc.lt
  go_enter Try.func78, Try.ntmps78
  go_wp2_with fail
  refine (l01Below_any B g 9 _ hc (by omega) (by omega)).mono ?_
  rintro e w1 ⟨x, rfl, x0, x1, hc1, hg1⟩
  have hs1 := hg1.size
  have own1 : OwnP (w1.alloc (.cells #[.int .i64 (1 + x), .int .i64 1, .int .i64 1] 56)) w1.heap.size 56 (flat [(1 + x, 1, 1)]) := ⟨_, blk_new w1 _ _, by simp [flat]⟩
  have hc1' := hc1.al (o := .cells #[.int .i64 (1 + x), .int .i64 1, .int .i64 1] 56)
  have gr1 := grownBy_below hg1 ((Below.refl w1.heap.size w1).alloc (Nat.le_refl _) (.cells #[.int .i64 (1 + x), .int .i64 1, .int .i64 1] 56)) hs1 (Nat.le_refl _)
  have d1 := drawn_one (1 + x) (by omega) (by omega)
  clear hc hg1 hc1
  go_wp2_with fail
  refine (l01Below_any B g 6 _ hc1' (by omega) (by omega)).mono ?_
  rintro e w2 ⟨m, rfl, m0, m1, hc2, hg2⟩
  have own2 := own1.grown hg2 (by omega)
  have gr2 := grownBy_trans gr1 hg2
  clear hg2 hc1' own1 gr1
  go_wp2
  go_loopw [3, 4] (fun v n wr => ∃ (ts : List T3) (gs cap n0 : Nat), v = .slice (some ⟨gs, 0, none⟩) ts.length cap ∧ n = .int .i64 n0 ∧ n0 ≤ 5 ∧ Drawn (powU n0) (6 - n0) ts ∧ w.heap.size ≤ gs ∧ OwnP wr gs 56 (flat ts) ∧ CurAt B wr g ∧ w.grownBy wr (some g)) (fun _ n _ => (intOf n).toNat)
  case atStart =>
    obtain ⟨n0, rfl⟩ := Int.eq_ofNat_of_zero_le m0
    refine ⟨[(1 + x, 1, 1)], w1.heap.size, _, n0, rfl, rfl, by omega, ?_, hs1, own2, hc2, gr2⟩
    exact d1.sub (by unfold powU; split <;> decide) (by omega)
  case round =>
    obtain ⟨ts, gs, cap, n0, rfl, rfl, hn5, hdr, hgs, hown, hcr, hgr⟩ := hrel
    have hsz := hgr.size
    have hl1 := (rights_parts hdr.ok).1
    have hl2 := (rights_parts hdr.ok).2.1
    have HDR := hide hdr
    clear hdr
    cases n0 with
    | zero =>
      go_wp2
      go_ret
      exact ⟨gs, cap, ts, rfl, HDR.out, hgs, hown, hgr⟩
    | succ n0 =>
      have hpos : (0 : Int) < ((n0 + 1 : Nat) : Int) := by omega
      go_wp2_with fail
      refine (l01Below_any B g ts.length wr hcr (by omega) (by omega)).mono ?_
      rintro e w3 ⟨k, rfl, k0, k1, hc3, hg3⟩
      obtain ⟨kk, rfl⟩ := Int.eq_ofNat_of_zero_le k0
      have own3 := hown.grown hg3 (by omega)
      have gr3 := grownBy_trans hgr hg3
      clear hown hcr hgr hg3
      go_wp2_with fail
      refine (l01Below_any B g 3 w3 hc3 (by omega) (by omega)).mono ?_
      rintro e w4 ⟨y, rfl, y0, y1, hc4, hg4⟩
      have own4 := own3.grown hg4 (by omega)
      have gr4 := grownBy_trans gr3 hg4
      clear own3 hc3 gr3 hg4
      obtain ⟨p, q, kq, hmk, hkq⟩ := mk_four y0 y1
      have HMK := hide (show Calls Try.prog 81 #[.int .i64 (1 + y), .int .i64 4] w4 (Rets w4 (frV (some (p, q)))) from by rw [← hmk]; exact specMakeFraction_any (1 + y) 4 w4)
      go_wp2_with fail
      (with_reducible refine HMK.out.mono ?_)
      rintro e w5 ⟨rfl, hb5⟩
      have hs4 := gr4.size
      have own5 := own4.below hb5
      have hc5 := hc4.below hb5
      have gr5 := grownBy_below gr4 hb5 hs4 (Nat.le_refl _)
      clear own4 hc4 gr4 HMK hmk
      have hs5 := hb5.size
      clear hb5
      go_upto_region 7 with fail
      have hal : Below w5.heap.size w5 (w5.alloc (.cells #[.int .i64 (oT (some (p, q))), .int .i64 (oB (some (p, q)))] 25)) := (Below.refl _ _).alloc (Nat.le_refl _) _
      have hbt : (w5.alloc (.cells #[.int .i64 (oT (some (p, q))), .int .i64 (oB (some (p, q)))] 25)).heap[w5.heap.size]? = some (.cells #[.int .i64 p, .int .i64 q] 25 (0, 0)) := blk_new w5 _ _
      generalize w5.alloc (.cells #[.int .i64 (oT (some (p, q))), .int .i64 (oB (some (p, q)))] 25) = W at *
      have ownW := own5.below hal
      have hcW := hc5.below hal
      have grW := grownBy_below gr5 hal (by omega) (Nat.le_refl _)
      have hWs : w5.heap.size < W.heap.size := (Array.getElem?_eq_some_iff.1 hbt).1
      have hgW : gs < W.heap.size := ownW.lt
      have hbg : w5.heap.size ≠ g := by omega
      have hsg : gs ≠ g := by omega
      clear own5 hc5 gr5 hal
      generalize w5.heap.size = bp at *
      have c0 := ownW.cell0 kk (by omega)
      have c1 := cell_of_block hbt 0
      have c2 := cell_of_block hbt 1
      simp at c1 c2
      generalize hof : (ts.getD kk default).1 = o1 at *
      have HSL := hide (fun (V : World) (z : Int) (hV : OwnP V gs 56 (flat ts)) (hz : 1 + z ≤ 12) => drawSell gs cap n0 ts o1 (1 + z) p q kq V hV.rd3 HDR.out hn5 hz hkq)
      clear hof
      go_region_held3 (fun w' => w'.cell? ⟨gs, kk * 3, none⟩ = some (.int .i64 o1) ∧ w'.cell? ⟨bp, 0, none⟩ = some (.int .i64 p) ∧ w'.cell? ⟨bp, 1, none⟩ = some (.int .i64 q)) (first | go_keep | exact ⟨cellB hb7 d0, cellB hb7 d1, cellB hb7 d2⟩ | exact ⟨d0, d1, d2⟩) (first
        | (go_at_call 88; refine (l01Below_any B g 12 _ hcW.dr1 (by omega) (by omega)).mono ?_; rintro e w6 ⟨z, rfl, z0, z1, hc6, hg6⟩; have s1 : IntKind.i64.wrap (1 + z) = 1 + z := IntWalk.i64_in _ (by omega); have own6 := OwnP.grown (w := W.drew) ownW hg6 hsg; have d0 := hg6.cell (w := W.drew) c0 (by simpa using hsg); have d1 := hg6.cell (w := W.drew) c1 (by simpa using hbg); have d2 := hg6.cell (w := W.drew) c2 (by simpa using hbg))
        | (go_at_call 39; (with_reducible refine (HSL.out w6 z own6 (by omega)).mono ?_); rintro e w7 ⟨g7, c7, us, ok, rfl, hd7, hg7, own7, hb7⟩))
      have hs6 := hg6.size
      have hWz : W.drew.heap.size = W.heap.size := rfl
      have hc7 := hc6.below hb7
      have gr7 : w.grownBy w7 (some g) := grownBy_below (grownBy_trans (b := W.drew) ⟨grW.os, grW.tape, grW.output, grW.size, grW.block⟩ hg6) hb7 (by omega) (Nat.le_refl _)
      have hg7' : w.heap.size ≤ g7 := by omega
      clear hc6 hg6 own6 d0 d1 d2 hb7 ownW hcW grW hbt c0 c1 c2 HSL s1 HDR
      go_wp2
      go_roundw
      case rel => exact ⟨us, g7, c7, n0, rfl, by go_num, by omega, hd7, hg7', own7, hc7, gr7⟩
      case measure => simp [intOf]

def DrRs (w : World) (e : Ending) (w' : World) : Prop := ∃ (g cap : Nat) (ts : List T3), e = .returned (.slice (some ⟨g, 0, none⟩) ts.length cap) ∧ Drawn 1024 6 ts ∧ w.heap.size ≤ g ∧ OwnP w' g 56 (flat ts) ∧ Below w.heap.size w w'
theorem DrawRights_any (a : Option Addr) (cap : Nat) (bs : List Int) (w : World) (hr : Rd8 w a bs) (hl : bs.length ≤ 1048576) :
    Calls Try.prog 47 #[.slice a bs.length cap] w (DrRs w) := by
  go_enter Try.func47, Try.ntmps47
  go_wp2_with fail
  refine (l01New_any a cap bs w hr hl).mono ?_
  rintro e w1 ⟨g, hg, rfl, hc1, hb1⟩
  go_wp2_with fail
  refine (l12Rights_any _ g w1 hc1).mono ?_
  rintro e w2 ⟨gs, c2, ts, rfl, hd, hg2, ho2, hgr⟩
  go_wp2
  go_ret
  exact ⟨gs, c2, ts, rfl, hd, Nat.le_trans hb1.size hg2, ho2, hb1.grown hgr hb1.size (fun k hk => by cases hk; exact hg)⟩

end Go.Proofs.Ytjcoajaoofjjmaa
