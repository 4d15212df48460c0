/- Rows of rights in a block of the call's own: append in place, copy and clear over three cells an element. -/
import Derived.Test.YtjcoajaoofjjmaaT3b
import Derived.Test.YtjcoajaoofjjmaaAppL
import Derived.Laws.CopyRow
import Derived.Lib.AppendZerosOnto
import Derived.Lib.Overlaps
import Derived.Deep.RegionLaw
namespace Go.Proofs.Ytjcoajaoofjjmaa
set_option linter.unusedSimpArgs false
set_option linter.unusedVariables false
open Go.RowKit

def splc {α : Type} (cur : List α) (o : Nat) (cs : List α) : List α := cur.take o ++ cs ++ cur.drop (o + cs.length)

theorem splc_length {α : Type} (cur : List α) (o : Nat) (cs : List α) (h : o + cs.length ≤ cur.length) : (splc cur o cs).length = cur.length := by
  simp [splc]; omega
theorem splc_take {α : Type} (cur : List α) (o m : Nat) (cs : List α) (h : o + cs.length ≤ cur.length) (hm : m ≤ o) : (splc cur o cs).take m = cur.take m := by
  unfold splc
  rw [List.append_assoc, List.take_append_of_le_length (by simp; omega), List.take_take, Nat.min_eq_left hm]
theorem splc_take2 {α : Type} (cur : List α) (o : Nat) (cs : List α) (h : o + cs.length ≤ cur.length) : (splc cur o cs).take (o + cs.length) = cur.take o ++ cs := by
  unfold splc
  exact List.take_left' (by simp; omega)
theorem splc_take3 {α : Type} (cur : List α) (o m : Nat) (cs : List α) (h : o + cs.length ≤ m) (hm : m ≤ cur.length) : (splc cur o cs).take m = splc (cur.take m) o cs := by
  unfold splc
  have l1 : (cur.take o ++ cs).length = o + cs.length := by simp; omega
  obtain ⟨d, rfl⟩ : ∃ d, m = o + cs.length + d := ⟨m - (o + cs.length), by omega⟩
  rw [List.take_append, l1, List.take_of_length_le (by rw [l1]; omega), List.take_take, Nat.min_eq_left (by omega)]
  congr 1
  rw [List.drop_take]

theorem flat_take : ∀ (ts : List T3) (k : Nat), (flat ts).take (k * 3) = flat (ts.take k)
  | [], k => by simp [flat]
  | t :: r, 0 => by simp [flat]
  | t :: r, k + 1 => by
    rw [show (k + 1) * 3 = k * 3 + 3 by omega]
    simp only [flat, List.take_succ_cons]
    have := flat_take r k
    simp only [List.take_succ_cons, this]
theorem flat_drop : ∀ (ts : List T3) (k : Nat), (flat ts).drop (k * 3) = flat (ts.drop k)
  | [], k => by simp [flat]
  | t :: r, 0 => by simp
  | t :: r, k + 1 => by
    rw [show (k + 1) * 3 = k * 3 + 3 by omega]
    simp only [flat, List.drop_succ_cons]
    exact flat_drop r k

def cellsT (ts : List T3) : List Value := (flat ts).map (Value.int .i64)
theorem cellsT_length (ts : List T3) : (cellsT ts).length = ts.length * 3 := by simp [cellsT, flat_length]
theorem cellsT_append (ts us : List T3) : cellsT (ts ++ us) = cellsT ts ++ cellsT us := by simp [cellsT, flat_append]
theorem cellsT_take (ts : List T3) (k : Nat) : (cellsT ts).take (k * 3) = cellsT (ts.take k) := by simp [cellsT, ← flat_take, List.map_take]
theorem cellsT_drop (ts : List T3) (k : Nat) : (cellsT ts).drop (k * 3) = cellsT (ts.drop k) := by simp [cellsT, ← flat_drop, List.map_drop]
theorem cellsT_one (ts : List T3) : ∀ u ∈ cellsT ts, u.oneCell' = true := by
  intro u hu; simp [cellsT] at hu; obtain ⟨y, _, rfl⟩ := hu; rfl
theorem cellsT_splc (ts : List T3) (j : Nat) (us : List T3) : splc (cellsT ts) (j * 3) (cellsT us) = cellsT (splc ts j us) := by
  unfold splc
  rw [cellsT_append, cellsT_append, cellsT_take, cellsT_length, ← Nat.add_mul, cellsT_drop]

/-- Block g is a row of room for c elements of type T; the first of them are ts. -/
structure RowT (T : TypeId) (w : World) (g c : Nat) (ts : List T3) : Prop where
  cells : ∃ cur : Array Value, w.heap[g]? = some (.cells cur T (0, 0)) ∧ cur.size = c * 3 ∧ cur.toList.take (ts.length * 3) = cellsT ts
  room : ts.length ≤ c
  small : c ≤ maxLen

theorem RowT.owns {T : TypeId} {w : World} {g c base : Nat} {ts : List T3} (h : RowT T w g c ts) (hb : base ≤ g) : OwnsT T base w (.slice (some ⟨g, 0, none⟩) ts.length c) ts := by
  obtain ⟨cur, h1, h2, h3⟩ := h.cells
  refine ⟨by simp [flat_length], .inr ⟨g, c, cur, rfl, hb, h1, h.room, h.small, h2, h3⟩⟩
theorem OwnsT.row {T : TypeId} {w : World} {g n c base : Nat} {ts : List T3} (h : OwnsT T base w (.slice (some ⟨g, 0, none⟩) n c) ts) : RowT T w g c ts ∧ base ≤ g ∧ n = ts.length := by
  obtain ⟨h1, h2⟩ := h
  rcases h2 with ⟨hv, _⟩ | ⟨g', cap, cur, hv, hg, hh, hnc, hm, hcs, ht⟩
  · cases hv
  · cases hv
    exact ⟨⟨⟨cur, hh, hcs, ht⟩, hnc, hm⟩, hg, rfl⟩
theorem OwnsT.some_row {T : TypeId} {w : World} {v : Value} {base : Nat} {ts : List T3} (h : OwnsT T base w v ts) (hn : ts ≠ []) : ∃ g c, v = .slice (some ⟨g, 0, none⟩) ts.length c ∧ base ≤ g ∧ RowT T w g c ts := by
  rcases h.cases with ⟨_, h0⟩ | ⟨g, c, rfl, hg, _⟩
  · exact absurd h0 hn
  · exact ⟨g, c, rfl, hg, h.row.1⟩
theorem RowT.kept {T : TypeId} {w w' : World} {g c : Nat} {ts : List T3} {r : Option Nat} (h : RowT T w g c ts) (hg : w.grownBy w' r) (hne : some g ≠ r) : RowT T w' g c ts := by
  obtain ⟨cur, h1, h2, h3⟩ := h.cells
  exact ⟨⟨cur, grown_heap hg h1 (Ne.symm hne), h2, h3⟩, h.room, h.small⟩
theorem RowT.below {T : TypeId} {w w' : World} {g c : Nat} {ts : List T3} (h : RowT T w g c ts) (hb : Below w.heap.size w w') : RowT T w' g c ts := h.kept (grownR (r := none) hb) (by simp)
theorem RowT.first {T : TypeId} {w : World} {g c : Nat} {ts : List T3} (h : RowT T w g c ts) (k : Nat) : RowT T w g c (ts.take k) := by
  obtain ⟨cur, h1, h2, h3⟩ := h.cells
  refine ⟨⟨cur, h1, h2, ?_⟩, by have := h.room; simp; omega, h.small⟩
  have e : (ts.take k).length * 3 = min (k * 3) (ts.length * 3) := by rw [List.length_take]; omega
  rw [e, ← List.take_take, h3, cellsT_take]
theorem RowT.lt {T : TypeId} {w : World} {g c : Nat} {ts : List T3} (h : RowT T w g c ts) : g < w.heap.size := by
  obtain ⟨cur, h1, _⟩ := h.cells
  exact (Array.getElem?_eq_some_iff.1 h1).1
theorem RowT.at {T : TypeId} {w : World} {g c : Nat} {ts : List T3} (h : RowT T w g c ts) (j : Nat) (u : Value) (hj : (cellsT ts)[j]? = some u) : w.cell? ⟨g, j, none⟩ = some u := by
  obtain ⟨cur, h1, h2, h3⟩ := h.cells
  rw [← h3] at hj
  have hj2 : cur[j]? = some u := by
    rw [List.getElem?_take] at hj
    split at hj
    · simpa using hj
    · cases hj
  rw [cell_of_block h1]; exact hj2
theorem RowT.drop_at {T : TypeId} {w : World} {g c : Nat} {ts : List T3} (h : RowT T w g c ts) (k j : Nat) (u : Value) (hj : (cellsT (ts.drop k))[j]? = some u) : w.cell? ((⟨g, k * 3, none⟩ : Addr).add j) = some u := by
  have : (⟨g, k * 3, none⟩ : Addr).add j = ⟨g, k * 3 + j, none⟩ := by simp [Addr.add]
  rw [this]
  refine h.at _ u ?_
  rw [← cellsT_drop, List.getElem?_drop] at hj
  exact hj

/-- What is written over a row from element j on. -/
theorem RowT.splc {T : TypeId} {w : World} {g c : Nat} {ts : List T3} (h : RowT T w g c ts) (cur : Array Value) (hc : w.heap[g]? = some (.cells cur T (0, 0))) (j : Nat) (us : List T3) (hj : j ≤ ts.length) (hr : j + us.length ≤ c) :
    RowT T (w.setRow g (splc cur.toList (j * 3) (cellsT us)).toArray) g c (Go.Proofs.Ytjcoajaoofjjmaa.splc ts j us) ∧ w.grownBy (w.setRow g (Go.Proofs.Ytjcoajaoofjjmaa.splc cur.toList (j * 3) (cellsT us)).toArray) (some g) := by
  obtain ⟨cur', h1, h2, h3⟩ := h.cells
  rw [hc] at h1
  cases h1
  have l0 : cur.toList.length = c * 3 := by simpa using h2
  have l1 : j * 3 + (cellsT us).length ≤ cur.toList.length := by rw [cellsT_length, l0]; omega
  have hroom := h.room
  refine ⟨⟨⟨_, setRow_heap w g cur _ T _ hc, ?_, ?_⟩, ?_, h.small⟩, ⟨rfl, rfl, rfl, by simp [World.setRow], fun k _ hk => setRow_other w g k _ (fun e => hk (by rw [e]))⟩⟩
  · simp only [List.size_toArray]; rw [splc_length _ _ _ l1, l0]
  · rw [List.toList_toArray]
    rcases Nat.lt_or_ge (j + us.length) ts.length with hl | hl
    · have e1 : (Go.Proofs.Ytjcoajaoofjjmaa.splc ts j us).length = ts.length := splc_length _ _ _ (by omega)
      rw [e1, splc_take3 _ _ _ _ (by rw [cellsT_length]; omega) (by rw [l0]; omega), h3, cellsT_splc]
    · have e0 : Go.Proofs.Ytjcoajaoofjjmaa.splc ts j us = ts.take j ++ us := by
        unfold Go.Proofs.Ytjcoajaoofjjmaa.splc; rw [List.drop_of_length_le hl, List.append_nil]
      have e1 : (Go.Proofs.Ytjcoajaoofjjmaa.splc ts j us).length * 3 = j * 3 + (cellsT us).length := by
        rw [e0, cellsT_length]; simp; omega
      rw [e1, splc_take2 _ _ _ l1, e0, cellsT_append, ← cellsT_take, ← h3, List.take_take]
      rw [Nat.min_eq_left (by omega)]
  · rcases Nat.lt_or_ge (j + us.length) ts.length with hl | hl
    · rw [splc_length _ _ _ (by omega)]; exact hroom
    · unfold Go.Proofs.Ytjcoajaoofjjmaa.splc; rw [List.drop_of_length_le hl]; simp; omega

section
variable {P : Program}

theorem run_copyT {T : TypeId} {w : World} {g c : Nat} {ts : List T3} (h : RowT T w g c ts) (dT sT ty : TypeId) (hu : P.underlying dT = some (.slice T)) (hs : (P.info? T).map (·.size) = some 3)
    (j dLen dCap : Nat) (a : Addr) (sLen sCap : Nat) (us : List T3) (hl : us.length = Nat.min sLen dLen) (hsrc : ∀ i u, (cellsT us)[i]? = some u → w.cell? (a.add i) = some u) (hj : j ≤ ts.length) (hr : j + us.length ≤ c) :
    ∃ w', (Builtin.copy_ #[dT, sT] ty #[.slice (some ⟨g, j * 3, none⟩) dLen dCap, .slice (some a) sLen sCap]).run P w = .ok (goInt us.length) w' ∧ RowT T w' g c (splc ts j us) ∧ w.grownBy w' (some g) := by
  obtain ⟨cur, h1, h2, h3⟩ := h.cells
  have := h.splc cur h1 j us hj hr
  refine ⟨_, ?_, this⟩
  have hf := fun size (hz : (cellsT us).length = us.length * size) => run_firstCells_some (P := P) w size us.length a sLen sCap (cellsT us) hz hsrc
  have hst := run_storeCells_at P g (j * 3) T (cellsT us) 0 cur w h1 (by rw [cellsT_length, h2]; omega) (cellsT_one us)
  simp only [Nat.add_zero] at hst
  cases hq : P.info? T with
  | none => simp [hq] at hs
  | some i =>
    have hi : i.size = 3 := by simpa [hq] using hs
    have hf3 := hf 3 (cellsT_length us)
    simp [Builtin.copy_, run_underlying hu, Builtin.lenOf, sizeOf, typeInfo, hq, hi, ← hl, hf3, hst, splc]

theorem run_appT {T : TypeId} {w : World} {g c : Nat} {ts : List T3} (h : RowT T w g c ts) (t ty : TypeId) (hu : P.underlying t = some (.slice T)) (i0 : TypeInfo) (hi : P.info? T = some i0) (hs : i0.size = 3)
    (j : Nat) (a : Addr) (sLen sCap : Nat) (us : List T3) (hl : us.length = sLen) (hsrc : ∀ i u, (cellsT us)[i]? = some u → w.cell? (a.add i) = some u) (hj : j ≤ ts.length) (hr : j + us.length ≤ c) :
    ∃ w', (Builtin.append_ #[t, t] ty #[.slice (some ⟨g, 0, none⟩) j c, .slice (some a) sLen sCap]).run P w = .ok (.slice (some ⟨g, 0, none⟩) (j + sLen) c) w' ∧ RowT T w' g c (splc ts j us) ∧ w.grownBy w' (some g) := by
  obtain ⟨cur, h1, h2, h3⟩ := h.cells
  have := h.splc cur h1 j us hj hr
  refine ⟨_, ?_, this⟩
  have hr := run_append_room (P := P) w t ty T i0 hu hi g j c cur h1 a sLen sCap (cellsT us) (by rw [cellsT_length, hl, hs]) hsrc (cellsT_one us) (by omega) (by rw [hs, cellsT_length, h2]; omega)
  rw [hs] at hr
  exact hr

theorem run_clearT {T : TypeId} {w : World} {g c : Nat} {ts : List T3} (h : RowT T w g c ts) (t ty : TypeId) (hu : P.underlying t = some (.slice T)) (i0 : TypeInfo) (hi : P.info? T = some i0) (z : Value) (hz : i0.zero = some z) (hzc : z.cells = #[.int .i64 0, .int .i64 0, .int .i64 0])
    (j n cap : Nat) (hj : j = ts.length) (hr : j + n ≤ c) (hn : 0 < n) :
    ∃ w', (Builtin.clear_ #[t] ty #[.slice (some ⟨g, j * 3, none⟩) n cap]).run P w = .ok (.tuple #[]) w' ∧ RowT T w' g c ts ∧ w.grownBy w' (some g) := by
  obtain ⟨cur, h1, h2, h3⟩ := h.cells
  have hzl : (Builtin.zeroCells z.cells n).toList = cellsT (List.replicate n (0, 0, 0)) := by
    rw [hzc, cellsT, flat_zero]
    apply List.ext_getElem
    · simp [Builtin.zeroCells]
    · intro i x1 x2
      simp only [Builtin.zeroCells, Array.getElem_toList, Array.getElem_ofFn]
      have h4 : i % 3 < 3 := Nat.mod_lt _ (by omega)
      simp
      have : i % 3 = 0 ∨ i % 3 = 1 ∨ i % 3 = 2 := by omega
      rcases this with e | e | e <;> simp [e]
  obtain ⟨r1, r2⟩ := h.splc cur h1 j (List.replicate n (0, 0, 0)) (by omega) (by simp; omega)
  have e : (Go.Proofs.Ytjcoajaoofjjmaa.splc ts j (List.replicate n (0, 0, 0))).take ts.length = ts := by
    unfold Go.Proofs.Ytjcoajaoofjjmaa.splc; rw [hj, List.take_of_length_le (Nat.le_refl _), List.append_assoc, List.take_left]
  have r3 := r1.first ts.length
  rw [e] at r3
  refine ⟨_, ?_, r3, r2⟩
  have hst := run_storeCells_at P g (j * 3) T (cellsT (List.replicate n (0, 0, 0))) 0 cur w h1 (by rw [cellsT_length, h2]; simp; omega) (cellsT_one _)
  simp only [Nat.add_zero] at hst
  obtain ⟨m, rfl⟩ : ∃ m, n = m + 1 := ⟨n - 1, by omega⟩
  have hzv : ∀ w, (zeroValue T).run P w = .ok z w := fun w => by simp [zeroValue, typeInfo, hi, hz]
  simp [Builtin.clear_, run_underlying hu, hzv, hzl, hst, splc]
end

end Go.Proofs.Ytjcoajaoofjjmaa
