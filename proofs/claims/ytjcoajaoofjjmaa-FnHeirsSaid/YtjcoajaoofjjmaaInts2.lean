/- Slices of ints: compared, marked, held. -/
import Derived.Test.YtjcoajaoofjjmaaInts
namespace Go.Proofs.Ytjcoajaoofjjmaa
set_option linter.unusedSimpArgs false
set_option linter.unusedVariables false
open Go.RowKit

theorem beq_drop (xs ys : List Int) (k : Nat) (h : k < xs.length) (h' : k < ys.length) : (xs.drop k == ys.drop k) = ((xs.getD k 0 == ys.getD k 0) && (xs.drop (k + 1) == ys.drop (k + 1))) := by
  rw [drop_getD xs k h, drop_getD ys k h']; rfl

theorem eqIntS_any (a a' : Option Addr) (cap cap' : Nat) (xs ys : List Int) (w : World) (hc : Rd w a xs) (hc' : Rd w a' ys) (hn : xs.length ≤ 1048576) :
    Calls Try.prog 33 #[.slice a xs.length cap, .slice a' ys.length cap'] w fun e w' => Rets w (.bool (xs == ys)) e w' := by
  by_cases hlen : xs.length = ys.length
  · have hl1 : ((xs.length : Int) == (ys.length : Int)) = true := by simp [hlen]
    have hl2 : ((xs.length : Int) != (ys.length : Int)) = false := by simp [hlen]
    have HL := hide hlen
    clear hlen
    go_enter Try.func33, Try.ntmps33
    go_wp2
    clear hl1 hl2
    go_loopw [5] (fun i wr => ∃ k : Nat, k ≤ xs.length ∧ i = .int .i64 k ∧ (xs == ys) = (xs.drop k == ys.drop k) ∧ Below w.heap.size w wr) (fun i _ => xs.length - (intOf i).toNat)
    case atStart => exact ⟨0, Nat.zero_le _, rfl, rfl, Below.refl _ _⟩
    case round =>
      obtain ⟨k, hk, rfl, hr, hbel⟩ := hrel
      have HR := hide hr
      clear hr
      by_cases hlt : k < xs.length
      · have hlt' : k < ys.length := by rw [← HL.out]; exact hlt
        obtain ⟨b, off, rfl, hcell⟩ := hc.below hbel k hlt
        obtain ⟨b', off', rfl, hcell'⟩ := hc'.below hbel k hlt'
        have HD := hide (beq_drop xs ys k hlt hlt')
        generalize xs.getD k 0 = x at *
        generalize ys.getD k 0 = y at *
        have i1 : (0 : Int) ≤ (k : Int) := by omega
        have i2 : (k : Int) < (xs.length : Int) := by omega
        have i3 : (k : Int) < (ys.length : Int) := by omega
        go_wp2
        go_quiet (fail)
        go_wp2
        · go_ret
          exact ⟨ret_bool (by rw [HR.out, HD.out]; simp_all), (by repeat first | exact Below.refl _ _ | assumption | (refine belA ?_) | (refine belD ?_) | (refine belN ?_) | (refine belS ?_ (by simp <;> omega)) | (refine belT ?_ (by assumption)))⟩
        · go_roundw
          case rel => exact ⟨k + 1, by omega, by go_num, by rw [HR.out, HD.out]; simp_all, (by repeat first | exact Below.refl _ _ | assumption | (refine belA ?_) | (refine belD ?_) | (refine belN ?_) | (refine belS ?_ (by simp <;> omega)) | (refine belT ?_ (by assumption)))⟩
          case measure => simp [intOf]; omega
      · go_wp2
        go_ret
        have h1 : xs.drop k = [] := List.drop_of_length_le (by omega)
        have h2 : ys.drop k = [] := List.drop_of_length_le (by rw [← HL.out]; omega)
        exact ⟨ret_bool (by rw [HR.out, h1, h2]; rfl), hbel⟩
  · have hl1 : ((xs.length : Int) == (ys.length : Int)) = false := by simp; omega
    have hl2 : ((xs.length : Int) != (ys.length : Int)) = true := by simp; omega
    have hne : (xs == ys) = false := by
      rw [beq_eq_false_iff_ne]; intro h; exact hlen (by rw [h])
    have HN := hide hne
    clear hne hlen
    go_enter Try.func33, Try.ntmps33
    go_wp2
    go_ret
    exact ⟨ret_bool HN.out.symm, Below.refl _ _⟩

/-- Block g, the call's own: its first cells hold xs. -/
def OwnP (w : World) (g : Nat) (T : TypeId) (xs : List Int) : Prop :=
  ∃ C : List Value, w.heap[g]? = some (.cells C.toArray T (0, 0)) ∧ C.take xs.length = xs.map (Value.int .i64)

theorem OwnI.ownP {w : World} {g : Nat} {T : TypeId} {xs : List Int} (h : OwnI w g T xs) : OwnP w g T xs :=
  ⟨xs.map (Value.int .i64), h, List.take_of_length_le (by rw [List.length_map]; exact Nat.le_refl _)⟩

theorem OwnP.cell {w : World} {g : Nat} {T : TypeId} {xs : List Int} (h : OwnP w g T xs) (j : Nat) (hj : j < xs.length) : w.cell? ⟨g, j, none⟩ = some (.int .i64 (xs.getD j 0)) := by
  obtain ⟨C, h1, h2⟩ := h
  rw [cell_of_block h1]
  have h3 : C.toArray[j]? = (C.take xs.length)[j]? := by simp [List.getElem?_take, hj]
  rw [h3, h2]
  simp [hj, List.getD_eq_getElem?_getD]

theorem OwnP.frozen {w : World} {g : Nat} {T : TypeId} {xs : List Int} (h : OwnP w g T xs) (j : Nat) : w.frozen? ⟨g, j, none⟩ = false := by
  obtain ⟨C, h1, h2⟩ := h; exact frozen_of_block h1 j

theorem OwnP.rd {w : World} {g : Nat} {T : TypeId} {xs : List Int} (h : OwnP w g T xs) : Rd w (some ⟨g, 0, none⟩) xs :=
  fun j hj => ⟨g, 0, rfl, by simpa using h.cell j hj⟩

theorem OwnP.set {w : World} {g : Nat} {T : TypeId} {xs : List Int} (h : OwnP w g T xs) (j : Nat) (x : Int) : OwnP (w.setCell ⟨g, j, none⟩ (.int .i64 x)) g T (xs.set j x) := by
  obtain ⟨C, h1, h2⟩ := h
  refine ⟨C.set j (.int .i64 x), ?_, ?_⟩
  · rw [setCell_block (i := j) (v := .int .i64 x) h1]; simp
  · rw [List.length_set, List.take_set, h2, List.map_set]

theorem OwnP.lt {w : World} {g : Nat} {T : TypeId} {xs : List Int} (h : OwnP w g T xs) : g < w.heap.size := by
  obtain ⟨C, h1, h2⟩ := h; exact (Array.getElem?_eq_some_iff.1 h1).1

theorem OwnP.of_block {w w' : World} {g : Nat} {T : TypeId} {xs : List Int} (h : OwnP w g T xs) (e : w'.heap[g]? = w.heap[g]?) : OwnP w' g T xs := by
  obtain ⟨C, h1, h2⟩ := h; exact ⟨C, by rw [e]; exact h1, h2⟩

theorem OwnP.below {w w' : World} {g : Nat} {T : TypeId} {xs : List Int} (h : OwnP w g T xs) (hb : Below w.heap.size w w') : OwnP w' g T xs := h.of_block (hb.block g h.lt)
theorem OwnP.grown {w w' : World} {g g' : Nat} {T : TypeId} {xs : List Int} (h : OwnP w g T xs) (hb : w.grownBy w' (some g')) (hne : g ≠ g') : OwnP w' g T xs :=
  h.of_block (hb.block g h.lt (by simpa using hne))

theorem OwnP.take {w : World} {g : Nat} {T : TypeId} {xs : List Int} (h : OwnP w g T xs) (n : Nat) (hn : n ≤ xs.length) : OwnP w g T (xs.take n) := by
  obtain ⟨C, h1, h2⟩ := h
  refine ⟨C, h1, ?_⟩
  have hl : (xs.take n).length = n := by simp; omega
  rw [hl, List.map_take, ← h2, List.take_take, Nat.min_eq_left hn]

theorem rd_grown {w w' : World} {a : Option Addr} {xs : List Int} {g : Nat} (h : Rd w a xs) (hb : w.grownBy w' (some g)) (hne : ∀ x, a = some x → x.block ≠ g) : Rd w' a xs := by
  intro j hj
  obtain ⟨b, off, ha, hc⟩ := h j hj
  exact ⟨b, off, ha, hb.cell hc (by have := hne _ ha; simpa using this)⟩

theorem grownBy_set (w : World) (g j : Nat) (v : Value) : w.grownBy (w.setCell ⟨g, j, none⟩ v) (some g) :=
  ⟨rfl, rfl, rfl, by simp [World.setCell], fun k _ hk => Below.heap_setCell _ _ _ _ (by intro e; exact hk (by rw [e]))⟩
theorem grownBy_trans {a b c : World} {r : Option Nat} (h : a.grownBy b r) (k : b.grownBy c r) : a.grownBy c r :=
  ⟨k.os.trans h.os, k.tape.trans h.tape, k.output.trans h.output, Nat.le_trans h.size k.size, fun i hi hr => (k.block i (Nat.lt_of_lt_of_le hi h.size) hr).trans (h.block i hi hr)⟩
theorem grownBy_refl (a : World) (r : Option Nat) : a.grownBy a r := ⟨rfl, rfl, rfl, Nat.le_refl _, fun _ _ _ => rfl⟩
theorem belG {w w1 w2 : World} {g : Nat} (h : Below w.heap.size w w1) (hb : w1.grownBy w2 (some g)) (hg : w.heap.size ≤ g) : Below w.heap.size w w2 :=
  h.grown hb h.size (fun k hk => by injection hk with hk; omega)

/-- n numbers from k on. -/
def fromI (k : Int) (n : Nat) : List Int := (List.range n).map fun i => k + (i : Nat)
theorem fromI_length (k : Int) (n : Nat) : (fromI k n).length = n := by simp [fromI]
theorem fromI_getD (k : Int) (n j : Nat) (h : j < n) : (fromI k n).getD j 0 = k + j := by simp [fromI, List.getD_eq_getElem?_getD, h]

theorem mark_step (xs : List Int) (k0 : Int) (k : Nat) (h : k < xs.length) :
    (fromI k0 k ++ xs.drop k).set k (k0 + k) = fromI k0 (k + 1) ++ xs.drop (k + 1) := by
  rw [drop_getD xs k h, List.set_append_right _ _ (by simp [fromI_length]), fromI_length, Nat.sub_self, List.set_cons_zero]
  simp [fromI, List.range_succ]

theorem markIntS_nil (k0 : Int) (w : World) (cap : Nat) (a : Option Addr) :
    Calls Try.prog 35 #[.slice a 0 cap, .int .i64 k0] w fun e w' => e = .returned (.int .i64 k0) ∧ w = w' := by
  go_enter Try.func35, Try.ntmps35
  go_wp2
  refine wp_loop_rounds 1 ?_
  rw [rounds_succ]
  go_wp2
  go_ret
  exact ⟨rfl, rfl⟩

theorem markIntS_any (g cap : Nat) (T : TypeId) (xs : List Int) (k0 : Int) (w : World) (ho : OwnP w g T xs) (hn : xs.length ≤ 1048576) (h0 : 0 ≤ k0) (h1 : k0 ≤ 1000000) :
    Calls Try.prog 35 #[.slice (some ⟨g, 0, none⟩) xs.length cap, .int .i64 k0] w fun e w' => e = .returned (.int .i64 (k0 + xs.length)) ∧ OwnP w' g T (fromI k0 xs.length) ∧ w.grownBy w' (some g) := by
  go_enter Try.func35, Try.ntmps35
  go_wp2
  go_loopw [1, 5] (fun q i wr => ∃ k : Nat, k ≤ xs.length ∧ i = .int .i64 k ∧ q = .int .i64 (k0 + k) ∧ OwnP wr g T (fromI k0 k ++ xs.drop k) ∧ w.grownBy wr (some g)) (fun q i _ => xs.length - (intOf i).toNat)
  case atStart => exact ⟨0, Nat.zero_le _, rfl, by simp, by simpa [fromI] using ho, grownBy_refl _ _⟩
  case round =>
    obtain ⟨k, hk, rfl, rfl, hown, hgr⟩ := hrel
    by_cases hlt : k < xs.length
    · have hset := hown.set k (k0 + k)
      rw [mark_step xs k0 k hlt] at hset
      have hcell := hown.cell k (by simp [fromI_length]; omega)
      have hf := hown.frozen k
      generalize List.getD _ k 0 = y at hcell
      go_wp2
      go_roundw
      case rel => exact ⟨k + 1, by omega, by go_num, by go_num, hset, grownBy_trans hgr (grownBy_set _ _ _ _)⟩
      case measure => simp [intOf]; omega
    · have hkk : k = xs.length := by omega
      subst hkk
      go_wp2
      go_ret
      exact ⟨rfl, by simpa using hown, hgr⟩

theorem heldIntS_any (a : Option Addr) (cap n : Nat) (k0 : Int) (w : World) (hc : Rd w a (fromI k0 n)) (hn : n ≤ 1048576) (h0 : 0 ≤ k0) (h1 : k0 ≤ 1000000) :
    Calls Try.prog 36 #[.slice a n cap, .int .i64 k0] w fun e w' => e = .returned (.int .i64 (k0 + n)) ∧ w = w' := by
  go_enter Try.func36, Try.ntmps36
  go_wp2
  go_loop [1, 5] (fun q i => ∃ k : Nat, k ≤ n ∧ i = .int .i64 k ∧ q = .int .i64 (k0 + k)) (fun q i => n - (intOf i).toNat)
  case atStart => exact ⟨0, Nat.zero_le _, rfl, by simp⟩
  case round =>
    obtain ⟨k, hk, rfl, rfl⟩ := hrel
    by_cases hlt : k < n
    · obtain ⟨b, off, rfl, hcell⟩ := hc k (by rw [fromI_length]; exact hlt)
      rw [fromI_getD _ _ _ hlt] at hcell
      go_wp2
      go_round
      case rel => exact ⟨k + 1, by omega, by go_num, by go_num⟩
      case measure => simp [intOf]; omega
    · have hkk : k = n := by omega
      subst hkk
      go_wp2
      go_ret
      exact ⟨rfl, rfl⟩

end Go.Proofs.Ytjcoajaoofjjmaa
