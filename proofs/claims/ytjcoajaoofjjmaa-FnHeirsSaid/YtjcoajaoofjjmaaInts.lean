/- Slices of ints: what is read, what is owned; contracts of the small loops over them. -/
import Derived.Test.YtjcoajaoofjjmaaBase
import Derived.Test.YtjcoajaoofjjmaaReg2
import Derived.Laws.MakeOwn
namespace Go.Proofs.Ytjcoajaoofjjmaa
set_option linter.unusedSimpArgs false
set_option linter.unusedVariables false
open Go.RowKit

/-- At the slice's address a lie the numbers xs. -/
def Rd (w : World) (a : Option Addr) (xs : List Int) : Prop :=
  ∀ j, j < xs.length → ∃ b off, a = some ⟨b, off, none⟩ ∧ w.cell? ⟨b, off + j, none⟩ = some (.int .i64 (xs.getD j 0))

theorem Rd.below {w w' : World} {a : Option Addr} {xs : List Int} (h : Rd w a xs) (hb : Below w.heap.size w w') : Rd w' a xs := by
  intro j hj
  obtain ⟨b, off, ha, hc⟩ := h j hj
  exact ⟨b, off, ha, by rw [hb.cell (World.block_lt_of_cell? w _ hc)]; exact hc⟩

theorem rd_of_row {w : World} {x : Addr} {len : Nat} {zs : List Int} (hl : len ≤ zs.length) (h : ∀ i, i < zs.length → w.cell? (x.add i) = some (.int .i64 (zs.getD i 0))) : Rd w (some x) (zs.take len) := by
  intro j hj
  have hj' : j < len := by simp at hj; omega
  obtain ⟨b, off, spot⟩ := x
  have h0 := h 0 (by omega)
  have hs : spot = none := by simpa [Addr.add] using World.cell?_spot h0
  subst hs
  refine ⟨b, off, rfl, ?_⟩
  have h1 := h j (by omega)
  have e : (zs.take len).getD j 0 = zs.getD j 0 := by simp [List.getD_eq_getElem?_getD, List.getElem?_take, hj']
  rw [e]
  simp only [Addr.add] at h1
  split at h1
  · rename_i h2; subst h2; simpa using h1
  · exact h1

theorem getD_mem' {xs : List Int} {k : Nat} (h : k < xs.length) : xs.getD k 0 ∈ xs := by simp [List.getD_eq_getElem?_getD, h]

theorem drop_getD (xs : List Int) (k : Nat) (h : k < xs.length) : xs.drop k = xs.getD k 0 :: xs.drop (k + 1) := by
  rw [List.drop_eq_getElem_cons h]; simp [List.getD_eq_getElem?_getD, h]

/-- Block g, the call's own, holds the numbers xs. -/
def OwnI (w : World) (g : Nat) (T : TypeId) (xs : List Int) : Prop := w.heap[g]? = some (.cells (xs.map (Value.int .i64)).toArray T (0, 0))

theorem OwnI.cell {w : World} {g : Nat} {T : TypeId} {xs : List Int} (h : OwnI w g T xs) (j : Nat) (hj : j < xs.length) : w.cell? ⟨g, j, none⟩ = some (.int .i64 (xs.getD j 0)) := by
  rw [cell_of_block h]; simp [hj, List.getD_eq_getElem?_getD]

theorem OwnI.rd {w : World} {g : Nat} {T : TypeId} {xs : List Int} (h : OwnI w g T xs) : Rd w (some ⟨g, 0, none⟩) xs :=
  fun j hj => ⟨g, 0, rfl, by simpa using h.cell j hj⟩

theorem OwnI.set {w : World} {g : Nat} {T : TypeId} {xs : List Int} (h : OwnI w g T xs) (j : Nat) (x : Int) : OwnI (w.setCell ⟨g, j, none⟩ (.int .i64 x)) g T (xs.set j x) := by
  have := setCell_block (i := j) (v := .int .i64 x) h
  unfold OwnI
  rw [this]
  simp [List.map_set]

theorem OwnI.below {w w' : World} {g : Nat} {T : TypeId} {xs : List Int} (h : OwnI w g T xs) (hb : Below w.heap.size w w') : OwnI w' g T xs := heap_grow h hb
theorem OwnI.lt {w : World} {g : Nat} {T : TypeId} {xs : List Int} (h : OwnI w g T xs) : g < w.heap.size := (Array.getElem?_eq_some_iff.1 h).1
theorem OwnI.other {w : World} {g : Nat} {T : TypeId} {xs : List Int} (h : OwnI w g T xs) (p : Addr) (hp : p.block ≠ g) (v : Value) : OwnI (w.setCell p v) g T xs := by
  unfold OwnI at *
  rw [Below.heap_setCell w p v g (Ne.symm hp)]; exact h

def allB (xs : List Int) (lo hi : Int) : Bool := xs.all fun x => inB x lo hi



theorem zeros_eq (n : Nat) : madeCells #[Value.int .i64 0] n = ((List.replicate n (0 : Int)).map (Value.int .i64)).toArray := by
  apply Array.toList_inj.1
  rw [toList_madeCells_one]; simp

theorem infoInt : (Try.prog.info? 3).map (fun i => (i.zero, i.size, i.bytes)) = some (some (.int .i64 0), 1, 8) := by kernel_rfl

theorem make_ints (t : TypeId) (ht : Try.prog.underlying t = some (.slice 3)) (n : Nat) (hn : n ≤ 1048576) (w : World) :
    (Instr.makeSlice t (.int .i64 (n : Int)) (.int .i64 (n : Int))).run Try.prog w = .ok (.slice (some ⟨w.heap.size, 0, none⟩) n n) (w.alloc (.cells ((List.replicate n (0 : Int)).map (Value.int .i64)).toArray 3)) := by
  obtain ⟨i, hi, hz, hs, hb⟩ := info_parts infoInt
  have h := run_make (P := Try.prog) w t 3 i (.int .i64 0) ht hi hz .i64 .i64 (n : Int) (n : Int) (by omega) (by omega) (by rw [hb]; omega) (by omega)
  rw [hs] at h
  simp only [Int.toNat_natCast, Nat.mul_one] at h
  rw [h]
  rw [show (Value.int IntKind.i64 0).cells = #[Value.int .i64 0] from rfl, zeros_eq]

theorem own_new (w : World) (T : TypeId) (xs : List Int) : OwnI (w.alloc (.cells (xs.map (Value.int .i64)).toArray T)) w.heap.size T xs := by
  show (w.heap.push _)[w.heap.size]? = _
  simp

theorem own_zero (w : World) (T : TypeId) (n : Nat) : OwnI (w.alloc (.cells (Array.replicate n (Value.int .i64 0)) T)) w.heap.size T (List.replicate n 0) := by
  show (w.heap.push _)[w.heap.size]? = _
  simp

theorem fill_step (xs : List Int) (k : Nat) (h : k < xs.length) (n : Nat) (hn : n = xs.length) :
    (xs.take k ++ List.replicate (n - k) 0).set k (xs.getD k 0) = xs.take (k + 1) ++ List.replicate (n - (k + 1)) 0 := by
  subst hn
  have hl : (xs.take k).length = k := by simp; omega
  rw [show xs.length - k = (xs.length - (k + 1)) + 1 by omega, List.replicate_succ, List.set_append_right _ _ (by omega), hl, Nat.sub_self, List.set_cons_zero,
    List.take_succ_eq_append_getElem h, List.append_assoc]
  simp only [List.cons_append, List.nil_append]
  congr 2
  simp [List.getD_eq_getElem?_getD, h]

theorem toIntS_any (a : Option Addr) (cap : Nat) (xs : List Int) (w : World) (hc : Rd w a xs) (hn : xs.length ≤ 1048576) :
    Calls Try.prog 44 #[.slice a xs.length cap] w fun e w' => ∃ g, w.heap.size ≤ g ∧ e = .returned (.slice (some ⟨g, 0, none⟩) xs.length xs.length) ∧ OwnI w' g 3 xs ∧ Below w.heap.size w w' := by
  have hmk := make_ints 35 Try.underlying35 xs.length hn
  go_enter Try.func44, Try.ntmps44
  go_wp2
  clear hmk
  go_loopw [4] (fun i wr => ∃ k : Nat, k ≤ xs.length ∧ i = .int .i64 k ∧ OwnI wr w.heap.size 3 (xs.take k ++ List.replicate (xs.length - k) 0) ∧ Below w.heap.size w wr) (fun i _ => xs.length - (intOf i).toNat)
  case atStart => exact ⟨0, Nat.zero_le _, rfl, by simpa using own_zero w _ _, (by repeat first | exact Below.refl _ _ | assumption | (refine belA ?_) | (refine belD ?_) | (refine belN ?_) | (refine belS ?_ (by simp <;> omega)) | (refine belT ?_ (by assumption)))⟩
  case round =>
    obtain ⟨k, hk, rfl, hown, hbel⟩ := hrel
    by_cases hlt : k < xs.length
    · obtain ⟨b, off, rfl, hcell⟩ := hc.below hbel k hlt
      have hset := hown.set k (xs.getD k 0)
      rw [fill_step xs k hlt _ rfl] at hset
      have ho := hown.cell k (by simp; omega)
      have hf := frozen_of_block hown k
      generalize xs.getD k 0 = x at *
      generalize List.getD _ k 0 = y at ho
      go_wp2
      go_roundw
      case rel => exact ⟨k + 1, by omega, by go_num, hset, (by repeat first | exact Below.refl _ _ | assumption | (refine belA ?_) | (refine belD ?_) | (refine belN ?_) | (refine belS ?_ (by simp <;> omega)) | (refine belT ?_ (by assumption)))⟩
      case measure => simp [intOf]; omega
    · go_wp2
      go_ret
      refine ⟨w.heap.size, Nat.le_refl _, rfl, ?_, hbel⟩
      have : k = xs.length := by omega
      subst this
      simpa using hown

end Go.Proofs.Ytjcoajaoofjjmaa
