/- NeededPipes: the pipes without which less can go. -/
import Derived.Test.YteimcbhnjhkkbaaFfl3
import Derived.Test.YteimcbhnjhkkbaaWout2
namespace Go.Proofs.Yteimcbhnjhkkbaa
set_option linter.unusedSimpArgs false
set_option linter.unusedVariables false
open Go.RowKit

def needGo (p : Int) (ts : List T3) (x y most : Int) : Nat → Nat → List Int
  | 0, _ => []
  | m + 1, k => if greatM p (woutM p ts k) x y < most then (k : Int) :: needGo p ts x y most m (k + 1) else needGo p ts x y most m (k + 1)
def needM (p : Int) (ts : List T3) (x y : Int) : List Int := if greatM p ts x y < 0 then [] else needGo p ts x y (greatM p ts x y) ts.length 0
theorem needGo_length (p : Int) (ts : List T3) (x y most : Int) : ∀ m k, (needGo p ts x y most m k).length ≤ m
  | 0, k => by simp [needGo]
  | m + 1, k => by
    have := needGo_length p ts x y most m (k + 1)
    unfold needGo; split
    · simp; omega
    · omega
theorem needM_length (p : Int) (ts : List T3) (x y : Int) (hn : ts.length ≤ 1048576) : (needM p ts x y).length ≤ 1048576 := by
  unfold needM; split
  · simp
  · have := needGo_length p ts x y (greatM p ts x y) ts.length 0; omega
theorem great_bd (p : Int) (ts : List T3) (x y : Int) : -1 ≤ greatM p ts x y ∧ greatM p ts x y ≤ 20000 := by
  unfold greatM
  split
  · rename_i h
    have hN := (netP_two h).1
    have hfm : findM p ts x y = findL p.toNat ts x y := by simp [findM, h]
    obtain ⟨h1, _, h2⟩ := find_spec hN
    have := flow_bd hN h1
    rw [hfm]; omega
  · omega
theorem needGo_step (p : Int) (ts : List T3) (x y most : Int) (n k : Nat) (h : k < n) : needGo p ts x y most (n - k) k = if greatM p (woutM p ts k) x y < most then (k : Int) :: needGo p ts x y most (n - (k + 1)) (k + 1) else needGo p ts x y most (n - (k + 1)) (k + 1) := by
  rw [show n - k = (n - (k + 1)) + 1 by omega, needGo]

set_option maxRecDepth 100000 in
set_option maxHeartbeats 4000000 in
theorem implNeeded_any (p x y : Int) (a : Option Addr) (cap : Nat) (ts : List T3) (w : World) (hc : Rd3 w a ts) (hn : ts.length ≤ 1048576) :
    Calls Try.prog 18 #[.agg #[.int .i64 p, .slice a ts.length cap], .int .i64 x, .int .i64 y] w fun e w' => GivesI (needM p ts x y) w e w' := by
  have HF := hide (fun W (hb : Below w.heap.size w W) => implGreatest_any p x y a cap ts W (hc.below hb) hn)
  have hbd := great_bd p ts x y
  by_cases hg : greatM p ts x y < 0
  · have HM := hide (show needM p ts x y = [] by simp [needM, hg])
    generalize greatM p ts x y = most at *
    go_enter Try.func18, Try.ntmps18
    go_wp2_with fail
    (with_reducible refine (HF.out _ (belA (Below.refl _ _))).mono ?_)
    rintro e w2 ⟨rfl, hb⟩
    have b0 := belT (belA (Below.refl w.heap.size w)) hb
    go_wp2
    go_ret
    exact ⟨_, rfl, by rw [HM.out]; exact OwnsI.nil _ _, b0⟩
  · have HM := hide (show needM p ts x y = needGo p ts x y (greatM p ts x y) (ts.length - 0) 0 by simp [needM, hg])
    have HW := hide (fun W k (hb : Below w.heap.size w W) => implWithoutPipe_any p k a cap ts W (hc.below hb) hn)
    have HGR := hide (fun (W : World) (a' : Option Addr) (cap' : Nat) (k : Int) (hr : Rd3 W a' (woutM p ts k)) => implGreatest_any p x y a' cap' (woutM p ts k) W hr (wout_length p ts k hn))
    generalize greatM p ts x y = most at *
    go_enter Try.func18, Try.ntmps18
    go_wp2_with fail
    (with_reducible refine (HF.out _ (belA (Below.refl _ _))).mono ?_)
    rintro e w2 ⟨rfl, hb⟩
    have b0 := belT (belA (Below.refl w.heap.size w)) hb
    have hbx := heap_grow (blk_new w #[.int .i64 p, .slice a ts.length cap] 26) hb
    have hsz : w.heap.size + 1 ≤ w2.heap.size := by have := hb.size; simpa using this
    have CEL := hide (fun (W : World) (hW : Below w2.heap.size w2 W) => (show W.cell? ⟨w.heap.size, 0, none⟩ = some (.int .i64 p) ∧ W.cell? ⟨w.heap.size, 1, none⟩ = some (.slice a ts.length cap) by
      have h := heap_grow hbx hW
      exact ⟨by have := cell_of_block h 0; simpa using this, by have := cell_of_block h 1; simpa using this⟩))
    have B0 := hide b0
    have c0 := cell_of_block hbx 0
    have c1 := cell_of_block hbx 1
    simp at c0 c1
    clear hb b0 hbx HF hc
    go_wp2
    clear c0 c1
    go_loopw [8, 21] (fun v i wr => ∃ (k : Nat) (xs : List Int), k ≤ ts.length ∧ i = .int .i64 k ∧ xs.length ≤ k ∧ Hid (OwnsI w2.heap.size wr v xs) ∧ Hid (needM p ts x y = xs ++ needGo p ts x y most (ts.length - k) k) ∧ Hid (Below w2.heap.size w2 wr)) (fun _ i _ => ts.length - (intOf i).toNat)
    case atStart => exact ⟨0, [], Nat.zero_le _, rfl, by simp, OwnsI.nil _ _, HM, Below.refl _ _⟩
    case round =>
      clear HM
      obtain ⟨k, xs, hk, rfl, hxl, OW, HR, HB⟩ := hrel
      obtain ⟨c0, c1⟩ := CEL.out _ HB.out
      have l0 := World.block_lt_of_cell? _ _ c0
      simp at l0
      have hsz2 := HB.out.size
      by_cases hlt : k < ts.length
      · have HST := hide (needGo_step p ts x y most ts.length k hlt)
        have bw := B0.out.trans (HB.out.mono (by omega))
        have hw := HW.out wr k bw
        go_wp2_with fail
        (with_reducible refine hw.mono ?_)
        rintro e w3 ⟨v3, rfl, hh3, hb3⟩
        obtain ⟨a3, c3, rfl, hr3, _⟩ := hh3.slice
        have hgr := HGR.out (w3.alloc (.cells #[.int .i64 p, .slice a3 (woutM p ts k).length c3] 26)) a3 c3 k (hr3.below (belA (Below.refl _ _)))
        clear hh3 hw
        have hgbd := great_bd p (woutM p ts k) x y
        generalize greatM p (woutM p ts k) x y = gk at *
        go_wp2_with fail
        (with_reducible refine hgr.mono ?_)
        rintro e w4 ⟨rfl, hb4⟩
        have B4 := hide (show Below wr.heap.size wr w4 from (hb3.alloc hb3.size _).trans (hb4.mono (by simp; have := hb3.size; omega)))
        have OW4 := hide (OW.out.below B4.out)
        have HB4 := hide (HB.out.trans (B4.out.mono hsz2))
        have hs4 := HB4.out.size
        clear hgr hb3 hb4 hr3 c0 c1
        by_cases hlk : gk < most
        · rw [if_pos hlk] at HST
          go_wp2_with (first | (at_builtin; refine append1 rfl _ _ rfl w2.heap.size _ xs (k : Int) OW4.out rfl rfl (by omega) hs4 ?_; intro v5 w5 own5 hbel5) | fail)
          have HB5 := hide (HB4.out.trans hbel5)
          have OW5 := hide own5
          go_roundw
          case rel => exact ⟨k + 1, xs ++ [(k : Int)], by omega, by go_num, by simp; omega, OW5, hide (by rw [HR.out, HST.out]; simp), HB5⟩
          case measure => simp [intOf]; omega
        · rw [if_neg hlk] at HST
          go_wp2
          go_roundw
          case rel => exact ⟨k + 1, xs, by omega, by go_num, by omega, OW4, hide (by rw [HR.out, HST.out]), HB4⟩
          case measure => simp [intOf]; omega
      · go_wp2
        go_ret
        exact ⟨_, rfl, by rw [HR.out, show ts.length - k = 0 by omega]; simpa [needGo] using OW.out.mono (show w.heap.size ≤ w2.heap.size by omega), B0.out.trans (HB.out.mono (by omega))⟩

set_option maxRecDepth 100000 in
set_option maxHeartbeats 4000000 in
theorem specNeeded_any (p x y : Int) (a : Option Addr) (cap : Nat) (ts : List T3) (w : World) (hc : Rd3 w a ts) (hn : ts.length ≤ 1048576) (hcap : ts.length ≤ cap) :
    Calls Try.prog 32 #[.agg #[.int .i64 p, .slice a ts.length cap], .int .i64 x, .int .i64 y] w fun e w' => GivesI (needM p ts x y) w e w' := by
  have HF := hide (fun W (hb : Below w.heap.size w W) => specGreatest_any p x y a cap ts W (hc.below hb) hn)
  have hbd := great_bd p ts x y
  have HM := hide (show needM p ts x y = if greatM p ts x y < 0 then [] else needGo p ts x y (greatM p ts x y) (ts.length - 0) 0 by simp [needM])
  have HW := hide (fun W k (hb : Below w.heap.size w W) => specWithoutPipe_any p k a cap ts W (hc.below hb) hn hcap)
  have HGR := hide (fun (W : World) (a' : Option Addr) (cap' : Nat) (k : Int) (hr : Rd3 W a' (woutM p ts k)) => specGreatest_any p x y a' cap' (woutM p ts k) W hr (wout_length p ts k hn))
  generalize greatM p ts x y = most at *
  go_enter Try.func32, Try.ntmps32
  go_wp2_with fail
  (with_reducible refine (HF.out _ (belA (belA (Below.refl _ _)))).mono ?_)
  rintro e w2 ⟨rfl, hb⟩
  have b0 := belT (belA (belA (Below.refl w.heap.size w))) hb
  have hbx := heap_grow (blk_alloc (o := .cells #[] 3) (blk_new w #[.int .i64 p, .slice a ts.length cap] 26)) hb
  have own0 := (OwnsI.empty (w.heap.size + 1) (w.alloc (.cells #[.int .i64 p, .slice a ts.length cap] 26)) (by simp)).below hb
  rw [World.size_alloc] at own0
  have hsz : w.heap.size + 2 ≤ w2.heap.size := by have := hb.size; simpa using this
  have CEL := hide (fun (W : World) (hW : Below (w.heap.size + 1) w2 W) => (show W.cell? ⟨w.heap.size, 0, none⟩ = some (.int .i64 p) ∧ W.cell? ⟨w.heap.size, 1, none⟩ = some (.slice a ts.length cap) by
    have h : W.heap[w.heap.size]? = _ := (hW.block _ (by omega)).trans hbx
    exact ⟨by have := cell_of_block h 0; simpa using this, by have := cell_of_block h 1; simpa using this⟩))
  have B0 := hide b0
  have OW0 := hide own0
  clear hb b0 hbx HF hc own0
  by_cases hg : most < 0
  · have HM2 := hide (show needM p ts x y = [] by rw [HM.out, if_pos hg])
    have hg' : ¬ 0 ≤ most := by omega
    have dg : decide (0 ≤ most) = false := decide_eq_false hg'
    clear HM HW HGR
    go_wp2
    go_loopw [7, 9] (fun v i wr => i = .int .i64 0 ∧ Hid (OwnsI (w.heap.size + 1) wr v []) ∧ Hid (Below (w.heap.size + 1) w2 wr)) (fun _ _ _ => 0)
    case atStart => exact ⟨rfl, OW0, Below.refl _ _⟩
    case round =>
      obtain ⟨rfl, OW, HB⟩ := hrel
      obtain ⟨c0, c1⟩ := CEL.out _ HB.out
      have l0 := World.block_lt_of_cell? _ _ c0
      simp at l0
      by_cases h0 : 0 < ts.length
      · go_wp2
        go_ret
        exact ⟨_, rfl, by rw [HM2.out]; exact OW.out.mono (by omega), B0.out.trans (HB.out.mono (by omega))⟩
      · have h1 : ts.length = 0 := by omega
        go_wp2
        go_ret
        exact ⟨_, rfl, by rw [HM2.out]; exact OW.out.mono (by omega), B0.out.trans (HB.out.mono (by omega))⟩
  · have HM2 := hide (show needM p ts x y = needGo p ts x y most (ts.length - 0) 0 by rw [HM.out, if_neg hg])
    have hg' : 0 ≤ most := by omega
    clear HM
    go_wp2
    go_loopw [7, 9] (fun v i wr => ∃ (k : Nat) (xs : List Int), k ≤ ts.length ∧ i = .int .i64 k ∧ xs.length ≤ k ∧ Hid (OwnsI (w.heap.size + 1) wr v xs) ∧ Hid (needM p ts x y = xs ++ needGo p ts x y most (ts.length - k) k) ∧ Hid (Below (w.heap.size + 1) w2 wr)) (fun _ i _ => ts.length - (intOf i).toNat)
    case atStart => exact ⟨0, [], Nat.zero_le _, rfl, by simp, OW0, HM2, Below.refl _ _⟩
    case round =>
      clear HM2 OW0
      obtain ⟨k, xs, hk, rfl, hxl, OW, HR, HB⟩ := hrel
      obtain ⟨c0, c1⟩ := CEL.out _ HB.out
      have l0 := World.block_lt_of_cell? _ _ c0
      simp at l0
      have hsz2 := HB.out.size
      by_cases hlt : k < ts.length
      · have HST := hide (needGo_step p ts x y most ts.length k hlt)
        have bw := B0.out.trans (HB.out.mono (by omega))
        have hw := HW.out wr k bw
        go_wp2_with fail
        (with_reducible refine hw.mono ?_)
        rintro e w3 ⟨v3, rfl, hh3, hb3⟩
        obtain ⟨a3, c3, rfl, hr3, _⟩ := hh3.slice
        have hgr := HGR.out (w3.alloc (.cells #[.int .i64 p, .slice a3 (woutM p ts k).length c3] 26)) a3 c3 k (hr3.below (belA (Below.refl _ _)))
        clear hh3 hw
        have hgbd := great_bd p (woutM p ts k) x y
        generalize greatM p (woutM p ts k) x y = gk at *
        go_wp2_with fail
        (with_reducible refine hgr.mono ?_)
        rintro e w4 ⟨rfl, hb4⟩
        have B4 := hide (show Below wr.heap.size wr w4 from (hb3.alloc hb3.size _).trans (hb4.mono (by simp; have := hb3.size; omega)))
        have OW4 := hide (OW.out.below B4.out)
        have HB4 := hide (HB.out.trans (B4.out.mono (by omega)))
        have hs4 : w.heap.size + 1 ≤ w4.heap.size := by have := HB4.out.size; omega
        clear hgr hb3 hb4 hr3 c0 c1
        by_cases hlk : gk < most
        · rw [if_pos hlk] at HST
          go_wp2_with (first | (at_builtin; refine append1 rfl _ _ rfl (w.heap.size + 1) _ xs (k : Int) OW4.out rfl rfl (by omega) hs4 ?_; intro v5 w5 own5 hbel5) | fail)
          have HB5 := hide (HB4.out.trans hbel5)
          have OW5 := hide own5
          go_roundw
          case rel => exact ⟨k + 1, xs ++ [(k : Int)], by omega, by go_num, by simp; omega, OW5, hide (by rw [HR.out, HST.out]; simp), HB5⟩
          case measure => simp [intOf]; omega
        · rw [if_neg hlk] at HST
          go_wp2
          go_roundw
          case rel => exact ⟨k + 1, xs, by omega, by go_num, by omega, OW4, hide (by rw [HR.out, HST.out]), HB4⟩
          case measure => simp [intOf]; omega
      · go_wp2
        go_ret
        exact ⟨_, rfl, by rw [HR.out, show ts.length - k = 0 by omega]; simpa [needGo] using OW.out.mono (show w.heap.size ≤ w.heap.size + 1 by omega), B0.out.trans (HB.out.mono (by omega))⟩

end Go.Proofs.Yteimcbhnjhkkbaa
