/- A share is added to an owner's right, or put in. -/
import Derived.Test.YtjcoajaoofjjmaaIns3
import Derived.Test.YtjcoajaoofjjmaaLess
namespace Go.Proofs.Ytjcoajaoofjjmaa
set_option linter.unusedSimpArgs false
set_option linter.unusedVariables false
set_option linter.unnecessarySimpa false
open Go.RowKit

theorem cellsT_set (ts : List T3) (j : Nat) (y z : Int) : ((cellsT ts).set (j * 3 + 1) (.int .i64 y)).set (j * 3 + 2) (.int .i64 z) = cellsT (ts.set j ((ts.getD j default).1, y, z)) := by
  unfold cellsT
  rw [← flat_set, List.map_set, List.map_set, List.map_set]
  congr 2
  symm
  rw [← List.map_set]
  congr 1
  rcases Nat.lt_or_ge j ts.length with h | h
  · apply List.ext_getElem?
    intro i
    rw [List.getElem?_set]
    split
    · rename_i e
      subst e
      have hl : j * 3 < (flat ts).length := by rw [flat_length]; omega
      have := flat_get0 ts j
      rw [if_pos hl, ← this, List.getD_eq_getElem?_getD, List.getElem?_eq_getElem hl]; rfl
    · rfl
  · rw [List.set_eq_of_length_le (by rw [flat_length]; omega)]

theorem RowT.rd3 {T : TypeId} {w : World} {g c : Nat} {ts : List T3} (h : RowT T w g c ts) : Rd3 w (some ⟨g, 0, none⟩) ts := by
  obtain ⟨a, cap, e, r⟩ := (h.owns (Nat.zero_le _)).slice
  cases e; exact r
theorem RowT.cell3 {T : TypeId} {w : World} {g c : Nat} {ts : List T3} (h : RowT T w g c ts) (j : Nat) (hj : j < ts.length) :
    w.cell? ⟨g, j * 3, none⟩ = some (.int .i64 (ts.getD j default).1) ∧ w.cell? ⟨g, j * 3 + 1, none⟩ = some (.int .i64 (ts.getD j default).2.1) ∧ w.cell? ⟨g, j * 3 + 2, none⟩ = some (.int .i64 (ts.getD j default).2.2) := by
  obtain ⟨b, off, e, h1, h2, h3⟩ := h.rd3 j hj
  cases e
  rw [Nat.zero_add] at h1 h2 h3
  exact ⟨h1, h2, h3⟩
theorem RowT.frozen {T : TypeId} {w : World} {g c : Nat} {ts : List T3} (h : RowT T w g c ts) (j : Nat) : w.frozen? ⟨g, j, none⟩ = false := by
  obtain ⟨cur, h1, _⟩ := h.cells
  exact frozen_of_block h1 j

theorem RowT.set2 {T : TypeId} {w : World} {g c : Nat} {ts : List T3} (h : RowT T w g c ts) (j : Nat) (y z : Int) :
    RowT T ((w.setCell ⟨g, j * 3 + 1, none⟩ (.int .i64 y)).setCell ⟨g, j * 3 + 2, none⟩ (.int .i64 z)) g c (ts.set j ((ts.getD j default).1, y, z)) := by
  obtain ⟨cur, h1, h2, h3⟩ := h.cells
  refine ⟨⟨_, setCell_block (setCell_block h1), by simpa using h2, ?_⟩, by simpa using h.room, h.small⟩
  rw [List.length_set, ← cellsT_set, ← h3]
  simp [List.take_set]

/-- What 'addShare' hands back. -/
def AddsTo (g : Nat) (us : Option (List T3)) (w : World) (e : Ending) (w' : World) : Prop :=
  ∃ g' c' m b, e = .returned (.tuple #[.slice (some ⟨g', 0, none⟩) m c', .bool b]) ∧ w.grownBy w' (some g) ∧ (g' = g ∨ w.heap.size ≤ g') ∧ (match us with | some vs => b = true ∧ m = vs.length ∧ RowT 56 w' g' c' vs | none => b = false)

set_option maxHeartbeats 1000000 in
theorem addShare_zero (g c n : Nat) (ts : List T3) (o q : Int) (w : World) (h : RowT 56 w g c ts) (hl : ts.length = n) :
    Calls Try.prog 74 #[.slice (some ⟨g, 0, none⟩) n c, .int .i64 o, .agg #[.int .i64 0, .int .i64 q]] w fun e w' => AddsTo g (some ts) w e w' := by
  go_enter Try.func74, Try.ntmps74
  go_wp2
  refine bodyPost_ret (by simp [results, Try.results74, go_sem, *]; try rfl) rfl ?_
  exact ⟨g, c, n, true, rfl, grownR ((Below.refl _ _).alloc (Nat.le_refl _) _), .inl rfl, rfl, hl.symm, h.below ((Below.refl _ _).alloc (Nat.le_refl _) _)⟩
set_option maxHeartbeats 1000000 in
theorem addShare_some (g c n k : Nat) (ts : List T3) (o p q : Int) (w : World) (h : RowT 56 w g c ts) (hl : ts.length = n) (hn : n ≤ 1000) (hp : ¬ p = 0) (hk : idxO o ts = k) (hkn : k < n) (t0 t1 t2 : Int) (ht : ts.getD k default = (t0, t1, t2)) (A : Option (Int × Int)) (hA : addM t1 t2 p q = A) :
    Calls Try.prog 74 #[.slice (some ⟨g, 0, none⟩) n c, .int .i64 o, .agg #[.int .i64 p, .int .i64 q]] w fun e w' => AddsTo g (A.map fun s => ts.set k (t0, s.1, s.2)) w e w' := by
  have HC := hide (fun W (hb : Below w.heap.size w W) => show Calls Try.prog 70 #[.slice (some ⟨g, 0, none⟩) n c, .int .i64 o] W fun e w' => Rets W (.int .i64 k) e w' from by
    have := rightOf_any (some ⟨g, 0, none⟩) c ts o W ((h.below hb).rd3) (by omega)
    rw [hl, idxV, hk, hl, if_pos hkn] at this
    exact this)
  go_enter Try.func74, Try.ntmps74
  go_wp2_with fail
  have bA : Below w.heap.size w (w.alloc (.cells #[.int .i64 p, .int .i64 q] 25)) := (Below.refl _ _).alloc (Nat.le_refl _) _
  (with_reducible refine (HC.out _ bA).mono ?_)
  rintro e w1 ⟨rfl, hb1⟩
  have bB := belT bA hb1
  have hbx := heap_grow (blk_new w #[.int .i64 p, .int .i64 q] 25) hb1
  have x0 := cell_of_block hbx 0
  have x1 := cell_of_block hbx 1
  simp at x0 x1
  obtain ⟨r0, r1, r2⟩ := (h.below bB).cell3 k (by omega)
  have rl := (h.below bB).room
  have f1 := (h.below bB).frozen (k * 3 + 1)
  have f2 := (h.below bB).frozen (k * 3 + 2)
  have hg := h.lt
  have HA := hide (fun W => implAddFractions_any t1 t2 p q W)
  rw [hA] at HA
  have bl : g < w1.heap.size := Nat.lt_of_lt_of_le hg bB.size
  have bl0 : w.heap.size < w1.heap.size := (Array.getElem?_eq_some_iff.1 hbx).1
  have HH := hide (fun W (hb : Below w.heap.size w W) => (h.below hb).set2 k)
  have HH3 := hide (fun W (hb : Below w.heap.size w W) => (h.below hb).cell3 k (by omega))
  rw [ht] at HH HH3 r0 r1 r2
  simp only at r0 r1 r2
  clear ht hA
  clear HC bA hb1 hbx
  have i1 : (0 : Int) ≤ (k : Int) := by omega
  have i2 : (k : Int) < (n : Int) := by omega
  go_wp2
  (refine wp_region_g [0, 1, 2, 3, 4, 5, 6, 7, 8, 9] [10, 11, 12] (by kernel_rfl) (by kernel_rfl) ?_; simp only [pick, List.map_cons, List.map_nil, Array.getD_eq_getD_getElem?, List.getElem?_toArray, List.getElem?_cons_zero, List.getElem?_cons_succ, Option.getD_some]; (iterate 10 (refine wpG_step (fun K hK => ?_); go_simp; first | (refine hK _ ?_; clear hK K) | (apply Exists.intro; refine ⟨fun _ => ?_, hK _ ?_⟩; ((go_at_call 55; exact HA.out _)); clear hK K))); refine wpG_nil ?_)
  (refine wpT_alloc (C := #[.int .i64 0, .int .i64 0]) (T := 25) rfl (fun w => by go_simp) ?_; intro bs hbbs; simp only [Act.put, List.setIfInBounds_toArray, List.set_cons_zero, List.set_cons_succ]; refine wpT_store (C' := #[.int .i64 (oT A), .int .i64 (oB A)]) rfl hbbs (fun wq hwq => ⟨_, by (have hcq := cell_of_block hwq; have hfq := frozen_of_block hwq; go_simp), store_two hwq⟩) ?_; simp only [Act.put, List.setIfInBounds_toArray, List.set_cons_zero, List.set_cons_succ]; refine wpT_pure (up_block _ _) rfl (fun w => by (go_simp; rfl)) ?_; simp only [Act.put, List.setIfInBounds_toArray, List.set_cons_zero, List.set_cons_succ]; refine wpT_end ?_; intro w2 hbw2 hhw2; have hcw2 := cell_of_block hhw2; have hfw2 := frozen_of_block hhw2; have hlw2 : bs < w2.heap.size := (Array.getElem?_eq_some_iff.1 hhw2).1; obtain ⟨hcb, hfb⟩ := bcell hbw2; have hzw2 := hbw2.size; (try simp at hzw2); (try (refine ltk (a := w.heap.size) (b := w2.heap.size) ?_ ?_; (focus omega); intro _ _)); (try (refine ltk (a := w.heap.size + 1) (b := w2.heap.size) ?_ ?_; (focus omega); intro _ _)); (try (refine ltk (a := w.heap.size + 2) (b := w2.heap.size) ?_ ?_; (focus omega); intro _ _)); (try (refine ltk (a := w.heap.size + 3) (b := w2.heap.size) ?_ ?_; (focus omega); intro _ _)); (try (refine ltk (a := bs) (b := w2.heap.size) ?_ ?_; (focus omega); intro _ _)))
  have bC := belT bB hbw2
  have HR := hide (HH.out _ bC)
  obtain ⟨r0, r1, r2⟩ := HH3.out _ bC
  have f1 := (h.below bC).frozen (k * 3 + 1)
  have f2 := (h.below bC).frozen (k * 3 + 2)
  have e00 := hcw2 0
  have e01 := hcw2 1
  simp at e00 e01
  have hg2 : g < w2.heap.size := Nat.lt_of_lt_of_le hg bC.size
  clear hcw2 hcb hfb x0 x1
  go_wp2
  refine bodyPost_ret (by simp [results, Try.results74, go_sem, *]; try rfl) rfl ?_
  refine ⟨g, c, n, A.isSome, rfl, (grownBy_trans (grownR bC) (grownBy_trans (grownBy_set _ _ _ _) (grownBy_set _ _ _ _))), .inl rfl, ?_⟩
  cases A with
  | none => rfl
  | some s => exact ⟨rfl, by simp [hl], HR.out s.1 s.2⟩

set_option maxHeartbeats 1000000 in
theorem addShare_none (g c n : Nat) (ts : List T3) (o p q : Int) (w : World) (h : RowT 56 w g c ts) (hl : ts.length = n) (hn : n ≤ 1000) (hp : ¬ p = 0) (hk : idxO o ts = n) :
    Calls Try.prog 74 #[.slice (some ⟨g, 0, none⟩) n c, .int .i64 o, .agg #[.int .i64 p, .int .i64 q]] w fun e w' => AddsTo g (some (insM ts (atM o ts) (o, p, q))) w e w' := by
  have HC := hide (fun W (hb : Below w.heap.size w W) => show Calls Try.prog 70 #[.slice (some ⟨g, 0, none⟩) n c, .int .i64 o] W fun e w' => Rets W (.int .i64 (-1)) e w' from by
    have := rightOf_any (some ⟨g, 0, none⟩) c ts o W ((h.below hb).rd3) (by omega)
    rw [hl, idxV, hk, hl, if_neg (by omega)] at this
    exact this)
  have hat := atM_le o ts
  have hg := h.lt
  have hrm := h.room
  go_enter Try.func74, Try.ntmps74
  go_wp2_with fail
  have bA : Below w.heap.size w (w.alloc (.cells #[.int .i64 p, .int .i64 q] 25)) := (Below.refl _ _).alloc (Nat.le_refl _) _
  (with_reducible refine (HC.out _ bA).mono ?_)
  rintro e w1 ⟨rfl, hb1⟩
  have bB := belT bA hb1
  have hbx := heap_grow (blk_new w #[.int .i64 p, .int .i64 q] 25) hb1
  have HR1 := hide (h.below bB)
  clear HC bA hb1
  go_wp2
  go_loopw [11] (fun i wr => ∃ (k : Nat), k ≤ n ∧ i = .int .i64 k ∧ atM o ts = k + atM o (ts.drop k) ∧ Below w1.heap.size w1 wr) (fun i _ => n - (intOf i).toNat)
  case atStart => exact ⟨0, Nat.zero_le _, rfl, by simp, Below.refl _ _⟩
  case round =>
    obtain ⟨k, hkn, rfl, hr, hbel⟩ := hrel
    have HR := hide hr
    clear hr
    have hbr := heap_grow hbx hbel
    have x0 := cell_of_block hbr 0
    have x1 := cell_of_block hbr 1
    simp at x0 x1
    have HRW := hide (HR1.out.below hbel)
    have bl0 : w.heap.size < wr.heap.size := (Array.getElem?_eq_some_iff.1 hbr).1
    have bW := belT bB hbel
    have hgr : g < wr.heap.size := by omega
    have FIN : k = atM o ts → ∀ e w', (∃ g' c', e = Ending.returned (.slice (some ⟨g', 0, none⟩) (n + 1) c') ∧ RowT 56 w' g' c' (insM ts k (o, p, q)) ∧ (wr.alloc (.cells #[.int .i64 o, .int .i64 p, .int .i64 q] 56)).grownBy w' (some g) ∧ (g' = g ∨ g' = (wr.alloc (.cells #[.int .i64 o, .int .i64 p, .int .i64 q] 56)).heap.size)) →
        ∃ g' c', e = Ending.returned (.slice (some ⟨g', 0, none⟩) (n + 1) c') ∧ AddsTo g (some (insM ts (atM o ts) (o, p, q))) w (.returned (.tuple #[.slice (some ⟨g', 0, none⟩) (n + 1) c', .bool true])) w' := by
      rintro he e w' ⟨g', c', e1, e2, e3, e4⟩
      refine ⟨g', c', e1, g', c', n + 1, true, rfl, grownBy_trans (grownR (belA bW)) e3, ?_, rfl, ?_, by rw [← he]; exact e2⟩
      · rcases e4 with e4 | e4
        · exact .inl e4
        · right; simp at e4; omega
      · simp [insM]; omega
    have INS := hide (fun (hkn : k ≤ n) => insert_any g c n k wr.heap.size ts o p q (wr.alloc (.cells #[.int .i64 o, .int .i64 p, .int .i64 q] 56)) (HRW.out.below ((Below.refl _ _).alloc (Nat.le_refl _) _)) hl hkn (by omega) (blk_new _ _ _) (by omega))
    have FIN := hide FIN
    clear hbr hbx
    by_cases hlt : k < n
    · obtain ⟨r0, r1, r2⟩ := HRW.out.cell3 k (by omega)
      have HS := hide (atM_step o ts k (by omega))
      generalize ts.getD k default = t at *
      obtain ⟨t0, t1, t2⟩ := t
      simp only at r0 r1 r2 HS
      by_cases hq : t0 < o
      · go_wp2
        go_roundw
        case rel => exact ⟨k + 1, by omega, by go_num, by rw [HR.out, HS.out, if_pos hq]; omega, (by repeat first | exact Below.refl _ _ | assumption | (refine belA ?_) | (refine belD ?_) | (refine belN ?_) | (refine belS ?_ (by simp <;> omega)) | (refine belT ?_ (by assumption)))⟩
        case measure => simp [intOf]; omega
      · go_wp2_with fail
        (with_reducible refine (INS.out hkn).mono ?_)
        intro e w2 he
        obtain ⟨g', c', rfl, hpost⟩ := FIN.out (by rw [HR.out, HS.out, if_neg (by omega)]; omega) e w2 he
        clear he
        go_wp2
        refine bodyPost_ret (by simp [results, Try.results74, go_sem, *]; try rfl) rfl ?_
        exact hpost
    · go_wp2_with fail
      (with_reducible refine (INS.out hkn).mono ?_)
      intro e w2 he
      obtain ⟨g', c', rfl, hpost⟩ := FIN.out (by rw [HR.out, List.drop_of_length_le (by omega)]; simp [atM]) e w2 he
      clear he
      go_wp2
      refine bodyPost_ret (by simp [results, Try.results74, go_sem, *]; try rfl) rfl ?_
      exact hpost

theorem addShare_any (g c n : Nat) (ts : List T3) (o p q pr : Int) (w : World) (h : RowT 56 w g c ts) (hl : ts.length = n) (hn : n ≤ 1000) (hs : srt pr ts) :
    Calls Try.prog 74 #[.slice (some ⟨g, 0, none⟩) n c, .int .i64 o, .agg #[.int .i64 p, .int .i64 q]] w fun e w' => AddsTo g (sellTo ts o (p, q)) w e w' := by
  by_cases hp : p = 0
  · subst hp
    exact addShare_zero g c n ts o q w h hl
  · simp only [sellTo, if_neg hp, addShM]
    by_cases hk : atM o ts < ts.length ∧ (ts.getD (atM o ts) default).1 = o
    · rw [if_pos hk]
      have e := srt_yesAt hs hk
      exact addShare_some g c n (atM o ts) ts o p q w h hl hn hp e (by omega) o (ts.getD (atM o ts) default).2.1 (ts.getD (atM o ts) default).2.2 (by conv => rhs; arg 1; rw [← hk.2]) _ rfl
    · rw [if_neg hk]
      exact addShare_none g c n ts o p q w h hl hn hp (by rw [srt_noAt hs hk, hl])

end Go.Proofs.Ytjcoajaoofjjmaa
