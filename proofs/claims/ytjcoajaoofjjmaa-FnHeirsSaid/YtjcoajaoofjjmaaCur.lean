/- The cursor over drawn bytes: what it yields lies in its range. -/
import Derived.Test.YtjcoajaoofjjmaaInts2
import Derived.IntWalk
namespace Go.Proofs.Ytjcoajaoofjjmaa
set_option linter.unusedSimpArgs false
set_option linter.unusedVariables false
open Go.RowKit

/-- At the slice's address a lie the bytes bs. -/
def Rd8 (w : World) (a : Option Addr) (bs : List Int) : Prop :=
  ∀ j, j < bs.length → ∃ b off, a = some ⟨b, off, none⟩ ∧ w.cell? ⟨b, off + j, none⟩ = some (.int .u8 (bs.getD j 0)) ∧ 0 ≤ bs.getD j 0 ∧ bs.getD j 0 ≤ 255

theorem Rd8.below {w w' : World} {a : Option Addr} {bs : List Int} (h : Rd8 w a bs) (hb : Below w.heap.size w w') : Rd8 w' a bs := by
  intro j hj
  obtain ⟨b, off, ha, hc, h0, h1⟩ := h j hj
  exact ⟨b, off, ha, by rw [hb.cell (World.block_lt_of_cell? w _ hc)]; exact hc, h0, h1⟩
theorem Rd8.grown {w w' : World} {a : Option Addr} {bs : List Int} {g : Nat} (h : Rd8 w a bs) (hb : w.grownBy w' (some g)) (hne : ∀ x, a = some x → 0 < bs.length → x.block ≠ g) : Rd8 w' a bs := by
  intro j hj
  obtain ⟨b, off, ha, hc, h0, h1⟩ := h j hj
  exact ⟨b, off, ha, hb.cell hc (by have := hne _ ha (by omega); simpa using this), h0, h1⟩

theorem grownBy_below {w w1 w2 : World} {r : Option Nat} {B : Nat} (h : w.grownBy w1 r) (hb : Below B w1 w2) (hB : w.heap.size ≤ B) (hs : B ≤ w1.heap.size) : w.grownBy w2 r :=
  ⟨hb.os.trans h.os, hb.tape.trans h.tape, hb.output.trans h.output, Nat.le_trans h.size hb.size, fun i hi hr => (hb.block i (by omega)).trans (h.block i hi hr)⟩
/-- Block g holds the cursor over bytes that lie below block B. -/
def CurAt (B : Nat) (w : World) (g : Nat) : Prop := ∃ (a : Option Addr) (bs : List Int) (cap : Nat) (i h : Int),
  w.heap[g]? = some (.cells #[.slice a bs.length cap, .int .i64 i, .int .i64 h] 84 (0, 0)) ∧ Rd8 w a bs ∧ (∀ x, a = some x → 0 < bs.length → x.block < B) ∧ B ≤ g ∧ bs.length ≤ 1048576 ∧ 0 ≤ i ∧ i ≤ bs.length

theorem CurAt.lt {B : Nat} {w : World} {g : Nat} (h : CurAt B w g) : B ≤ g ∧ g < w.heap.size := by
  obtain ⟨a, bs, cap, i, h', hh, _, _, hg, _⟩ := h
  exact ⟨hg, (Array.getElem?_eq_some_iff.1 hh).1⟩
theorem CurAt.below {B : Nat} {w w' : World} {g : Nat} (h : CurAt B w g) (hb : Below w.heap.size w w') : CurAt B w' g := by
  obtain ⟨a, bs, cap, i, h', hh, hr, hx, r⟩ := h
  exact ⟨a, bs, cap, i, h', heap_grow hh hb, hr.below hb, hx, r⟩
theorem CurAt.grown {B : Nat} {w w' : World} {g k : Nat} (h : CurAt B w g) (hb : w.grownBy w' (some k)) (hne : g ≠ k) (hk : B ≤ k) : CurAt B w' g := by
  have hl := h.lt
  obtain ⟨a, bs, cap, i, h', hh, hr, hx, r⟩ := h
  exact ⟨a, bs, cap, i, h', by rw [hb.block g hl.2 (by simpa using hne)]; exact hh, hr.grown hb (fun x hx' h0' => by have := hx x hx' h0'; omega), hx, r⟩

theorem CurAt.belowB {B : Nat} {w w' : World} {g D : Nat} (h : CurAt B w g) (hb : Below D w w') (hg : g < D) : CurAt B w' g := by
  obtain ⟨a, bs, cap, i, h', hh, hr, hx, hB, r⟩ := h
  refine ⟨a, bs, cap, i, h', by rw [hb.block g hg]; exact hh, ?_, hx, hB, r⟩
  intro j hj
  obtain ⟨b, off, ha, hc, h0, h1⟩ := hr j hj
  have hbl := hx _ ha (by omega)
  simp only at hbl
  exact ⟨b, off, ha, by rw [World.cell?_of_block (hb.block b (by omega))]; exact hc, h0, h1⟩
theorem CurAt.dr {B : Nat} {w : World} {g n : Nat} (h : CurAt B w g) : CurAt B (w.drewN n) g := h
theorem CurAt.dr1 {B : Nat} {w : World} {g : Nat} (h : CurAt B w g) : CurAt B w.drew g := h
theorem CurAt.al {B : Nat} {w : World} {g : Nat} {o : Obj} (h : CurAt B w g) : CurAt B (w.alloc o) g := h.below ((Below.refl _ _).alloc (Nat.le_refl _) _)
theorem CurAt.set {B : Nat} {w : World} {g k i : Nat} {v : Value} (h : CurAt B w g) (hk : B ≤ k) (hne : g ≠ k) : CurAt B (w.setCell ⟨k, i, none⟩ v) g := h.grown (grownBy_set w k i v) hne hk
theorem grownBy_dr {a b : World} {n : Nat} {r : Option Nat} (h : a.grownBy b r) : a.grownBy (b.drewN n) r := ⟨h.os, h.tape, h.output, h.size, h.block⟩
theorem bits255 (x : Int) : bits .and .i64 x 255 = x % 256 := by
  unfold bits
  have e : (BitVec.ofInt IntKind.i64.bits x &&& BitVec.ofInt IntKind.i64.bits 255).toNat = (x % 256).toNat := by
    show (BitVec.ofInt 64 x &&& BitVec.ofInt 64 255).toNat = (x % 256).toNat
    rw [BitVec.toNat_and]
    have h2 : (BitVec.ofInt 64 255).toNat = 2 ^ 8 - 1 := by decide
    rw [h2, Nat.and_two_pow_sub_one_eq_mod, BitVec.toNat_ofInt]
    omega
  simp only [e]
  rw [IntWalk.i64_in _ (by omega)]
  omega

theorem bitsM (x : Int) : 0 ≤ bits .and .i64 x 1073741823 ∧ bits .and .i64 x 1073741823 ≤ 1073741823 := by
  unfold bits
  have e : (BitVec.ofInt IntKind.i64.bits x &&& BitVec.ofInt IntKind.i64.bits 1073741823).toNat ≤ 1073741823 := by
    show (BitVec.ofInt 64 x &&& BitVec.ofInt 64 1073741823).toNat ≤ _
    rw [BitVec.toNat_and]
    exact Nat.le_trans Nat.and_le_right (by decide)
  simp only
  rw [IntWalk.i64_in _ (by omega)]
  omega
theorem bits255_bd (x : Int) : 0 ≤ bits .and .i64 x 255 ∧ bits .and .i64 x 255 ≤ 255 := by rw [bits255]; omega

set_option maxHeartbeats 1000000 in
theorem l01Byte_any (B g : Nat) (w : World) (hc : CurAt B w g) :
    Calls Try.prog 93 #[.pointer (some ⟨g, 0, none⟩)] w fun e w' => ∃ x : Int, e = .returned (.int .i64 x) ∧ 0 ≤ x ∧ x ≤ 255 ∧ CurAt B w' g ∧ w.grownBy w' (some g) := by
  obtain ⟨a, bs, cap, i, h, hh, hr, hx, hg, hl, hi0, hi1⟩ := hc
  have c0 := cell_of_block hh 0
  have c1 := cell_of_block hh 1
  have c2 := cell_of_block hh 2
  simp at c0 c1 c2
  have f := frozen_of_block hh
  go_enter Try.func93, Try.ntmps93
  go_wp2
  generalize wrap64 (wrap64 (h * 6364136223846793005) + 1442695040888963407) = h2
  have hh1 := setCell_block (i := 2) (v := .int .i64 h2) hh
  have gr1 := grownBy_set w g 2 (.int .i64 h2)
  simp at hh1
  generalize w.setCell ⟨g, 2, none⟩ (.int .i64 h2) = w1 at *
  have hr1 := hr.grown gr1 (fun x hx' h0' => by have := hx x hx' h0'; omega)
  clear c0 c1 c2 f hh hr
  have c0 := cell_of_block hh1 0
  have c1 := cell_of_block hh1 1
  have c2 := cell_of_block hh1 2
  simp at c0 c1 c2
  have f := frozen_of_block hh1
  go_quiet (fail)
  have hbd := bits255_bd (bits .xor .i64 (h2 / 8589934592) (h2 / 35184372088832))
  generalize bits .and .i64 (bits .xor .i64 (h2 / 8589934592) (h2 / 35184372088832)) 255 = x at *
  obtain ⟨x0, x1⟩ := hbd
  go_wp2
  by_cases hlt : i < bs.length
  · obtain ⟨k, rfl⟩ := Int.eq_ofNat_of_zero_le hi0
    obtain ⟨b, off, rfl, cb, y0, y1⟩ := hr1 k (by omega)
    generalize bs.getD k 0 = y at *
    have hd : decide ((k : Int) < (bs.length : Int)) = true := by simpa using hlt
    go_quiet (fail)
    go_wp2
    have hw : IntKind.i64.wrap (x + y) = x + y := IntWalk.i64_in _ (by omega)
    have s1 : 0 ≤ x + y := by omega
    go_quiet (fail)
    clear hw
    have hbd := bits255_bd (x + y)
    generalize bits .and .i64 (x + y) 255 = z at *
    go_wp2
    go_ret
    have h3 := setCell_block (i := 1) (v := .int .i64 ((k : Int) + 1)) hh1
    simp at h3
    refine ⟨z, rfl, hbd.1, hbd.2, ⟨_, bs, cap, (k : Int) + 1, h2, h3, Rd8.grown (g := g) hr1 (grownBy_trans (grownBy_dr (grownBy_refl w1 _)) (grownBy_set _ _ _ _)) (fun x hx' h0' => by have := hx x hx' h0'; omega), hx, hg, hl, by omega, by omega⟩, ?_⟩
    refine grownBy_trans ?_ (grownBy_set _ _ _ _)
    repeat first | exact gr1 | refine grownBy_dr ?_
  · have hd : decide (i < (bs.length : Int)) = false := by simpa using hlt
    go_quiet (fail)
    go_wp2
    go_ret
    refine ⟨x, rfl, x0, x1, ⟨a, bs, cap, i, h2, hh1, Rd8.grown (g := g) hr1 (grownBy_dr (grownBy_refl w1 _)) (fun x hx' h0' => by have := hx x hx' h0'; omega), hx, hg, hl, hi0, hi1⟩, ?_⟩
    repeat first | exact gr1 | refine grownBy_dr ?_

set_option maxHeartbeats 1000000 in
theorem l01Below_any (B g : Nat) (n : Int) (w : World) (hc : CurAt B w g) (h1 : 1 ≤ n) (h2 : n ≤ 256) :
    Calls Try.prog 88 #[.pointer (some ⟨g, 0, none⟩), .int .i64 n] w fun e w' => ∃ x : Int, e = .returned (.int .i64 x) ∧ 0 ≤ x ∧ x < n ∧ CurAt B w' g ∧ w.grownBy w' (some g) := by
  go_enter Try.func88, Try.ntmps88
  go_wp2_with fail
  refine (l01Byte_any B g w hc).mono ?_
  rintro e w1 ⟨x, rfl, x0, x1, hc1, hg1⟩
  have hn : (n == 0) = false := by rw [beq_eq_false_iff_ne]; omega
  go_wp2
  go_ret
  refine ⟨_, rfl, ?_, ?_, hc1, hg1⟩
  · exact Int.emod_nonneg _ (by omega)
  · exact Int.emod_lt_of_pos _ (by omega)

set_option maxRecDepth 100000 in
set_option maxHeartbeats 1000000 in
theorem l01New_any (a : Option Addr) (cap : Nat) (bs : List Int) (w : World) (hr : Rd8 w a bs) (hl : bs.length ≤ 1048576) :
    Calls Try.prog 79 #[.slice a bs.length cap] w fun e w' => ∃ g, w.heap.size ≤ g ∧ e = .returned (.pointer (some ⟨g, 0, none⟩)) ∧ CurAt w.heap.size w' g ∧ Below w.heap.size w w' := by
  have hx : ∀ x, a = some x → 0 < bs.length → x.block < w.heap.size := fun x hx' h0 => by
    obtain ⟨b, off, e, hc, _⟩ := hr 0 h0
    have := World.block_lt_of_cell? w _ hc
    rw [e] at hx'; cases hx'; simpa using this
  go_enter Try.func79, Try.ntmps79
  go_wp2
  go_loopw [3, 4] (fun h i wr => ∃ (k : Nat) (q : Int), k ≤ bs.length ∧ i = .int .i64 k ∧ h = .int .i64 q ∧ 0 ≤ q ∧ q ≤ 10000000000 ∧ Below w.heap.size w wr) (fun _ i _ => bs.length - (intOf i).toNat)
  case atStart => exact ⟨0, _, Nat.zero_le _, rfl, rfl, by omega, by omega, (by repeat first | exact Below.refl _ _ | assumption | (refine belA ?_) | (refine belD ?_) | (refine belN ?_) | (refine belS ?_ (by simp <;> omega)) | (refine belT ?_ (by assumption)))⟩
  case round =>
    obtain ⟨k, q, hk, rfl, rfl, q0, q1, hbel⟩ := hrel
    by_cases hlt : k < bs.length
    · by_cases h4 : k < 4000
      · obtain ⟨b, off, rfl, cb, y0, y1⟩ := hr.below hbel k hlt
        generalize bs.getD k 0 = y at *
        have hbd := bitsM (q * 131 + y + 7)
        go_wp2
        generalize bits .and .i64 (q * 131 + y + 7) 1073741823 = z at *
        go_roundw
        case rel => exact ⟨k + 1, z, by omega, by go_num, rfl, hbd.1, by omega, (by repeat first | exact Below.refl _ _ | assumption | (refine belA ?_) | (refine belD ?_) | (refine belN ?_) | (refine belS ?_ (by simp <;> omega)) | (refine belT ?_ (by assumption)))⟩
        case measure => simp [intOf]; omega
      · go_wp2
        go_ret
        refine ⟨_, hbel.size, rfl, ⟨a, bs, cap, 0, q, ?_, hr.below (hbel.trans ((Below.refl _ _).alloc hbel.size _)), hx, hbel.size, hl, by omega, by omega⟩, (by repeat first | exact Below.refl _ _ | assumption | (refine belA ?_) | (refine belD ?_) | (refine belN ?_) | (refine belS ?_ (by simp <;> omega)) | (refine belT ?_ (by assumption)))⟩
        show (wr.heap.push _)[wr.heap.size]? = _
        simp
    · go_wp2
      go_ret
      refine ⟨_, hbel.size, rfl, ⟨a, bs, cap, 0, q, ?_, hr.below (hbel.trans ((Below.refl _ _).alloc hbel.size _)), hx, hbel.size, hl, by omega, by omega⟩, (by repeat first | exact Below.refl _ _ | assumption | (refine belA ?_) | (refine belD ?_) | (refine belN ?_) | (refine belS ?_ (by simp <;> omega)) | (refine belT ?_ (by assumption)))⟩
      show (wr.heap.push _)[wr.heap.size]? = _
      simp

theorem big_any (a : Option Addr) (n cap : Nat) (w : World) (hm : n ≤ 9223372036854775807) :
    Calls Try.prog 46 #[.slice a n cap] w fun e w' => e = .returned (.bool (decide (1048576 < n))) ∧ w = w' := by
  go_enter Try.func46, Try.ntmps46
  go_wp2
  go_ret
  exact ⟨ret_bool (by simp; try omega), rfl⟩

theorem at_any (a : Option Addr) (cap : Nat) (bs : List Int) (i : Int) (w : World) (hr : Rd8 w a bs) (hl : bs.length ≤ 1048576) (h0 : 0 ≤ i) (h1 : i ≤ 100) :
    Calls Try.prog 48 #[.slice a bs.length cap, .int .i64 i] w fun e w' => (∃ x : Int, e = .returned (.int .i64 x) ∧ 0 ≤ x ∧ x ≤ 255) ∧ w = w' := by
  by_cases hb : bs.length = 0
  · have hz : ((bs.length : Int) == 0) = true := by simp [hb]
    go_enter Try.func48, Try.ntmps48
    go_wp2
    go_ret
    exact ⟨⟨0, rfl, by omega, by omega⟩, rfl⟩
  · have hz : ((bs.length : Int) == 0) = false := by rw [beq_eq_false_iff_ne]; omega
    have hp : (0 : Int) < bs.length := by omega
    have m0 := Int.emod_nonneg (i * 5 + 1) (show (bs.length : Int) ≠ 0 by omega)
    have m1 := Int.emod_lt_of_pos (i * 5 + 1) hp
    obtain ⟨k, hk⟩ := Int.eq_ofNat_of_zero_le m0
    obtain ⟨b, off, rfl, cb, y0, y1⟩ := hr k (by omega)
    have e1 : (i * 5 + 1).tmod (bs.length : Int) = (k : Int) := by rw [Int.tmod_eq_emod_of_nonneg (by omega)]; exact hk
    have hkl : (k : Int) < bs.length := by omega
    have hk0 : (0 : Int) ≤ (k : Int) := by omega
    clear m0 m1
    generalize bs.getD k 0 = y at *
    go_enter Try.func48, Try.ntmps48
    go_wp2
    go_ret
    exact ⟨⟨_, rfl, y0, y1⟩, rfl⟩

end Go.Proofs.Ytjcoajaoofjjmaa
