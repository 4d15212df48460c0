/- Slices of structs of three ints: what is read, what is owned. -/
import Derived.Test.YteimcbhnjhkkbaaInts2
import Derived.IntWalk
namespace Go.Proofs.Yteimcbhnjhkkbaa
set_option linter.unusedSimpArgs false
set_option linter.unusedVariables false
open Go.RowKit

abbrev T3 := Int × Int × Int

/-- At the slice's address a lie the structs ts, three numbers each. -/
def Rd3 (w : World) (a : Option Addr) (ts : List T3) : Prop :=
  ∀ j, j < ts.length → ∃ b off, a = some ⟨b, off, none⟩ ∧ w.cell? ⟨b, off + j * 3, none⟩ = some (.int .i64 (ts.getD j default).1)
    ∧ w.cell? ⟨b, off + j * 3 + 1, none⟩ = some (.int .i64 (ts.getD j default).2.1) ∧ w.cell? ⟨b, off + j * 3 + 2, none⟩ = some (.int .i64 (ts.getD j default).2.2)

theorem Rd3.below {w w' : World} {a : Option Addr} {ts : List T3} (h : Rd3 w a ts) (hb : Below w.heap.size w w') : Rd3 w' a ts := by
  intro j hj
  obtain ⟨b, off, ha, hc, hc1, hc2⟩ := h j hj
  refine ⟨b, off, ha, ?_, ?_, ?_⟩
  · rw [hb.cell (World.block_lt_of_cell? w _ hc)]; exact hc
  · rw [hb.cell (World.block_lt_of_cell? w _ hc1)]; exact hc1
  · rw [hb.cell (World.block_lt_of_cell? w _ hc2)]; exact hc2

theorem drop_getD3 (ts : List T3) (k : Nat) (h : k < ts.length) : ts.drop k = ts.getD k default :: ts.drop (k + 1) := by
  rw [List.drop_eq_getElem_cons h]; simp [List.getD_eq_getElem?_getD, h]

def agg3 (t : T3) : Value := .agg #[.int .i64 t.1, .int .i64 t.2.1, .int .i64 t.2.2]

def flat : List T3 → List Int
  | [] => []
  | t :: r => t.1 :: t.2.1 :: t.2.2 :: flat r

theorem flat_length : ∀ ts : List T3, (flat ts).length = ts.length * 3
  | [] => rfl
  | t :: r => by simp [flat, flat_length r]; omega
theorem flat_append : ∀ ts us : List T3, flat (ts ++ us) = flat ts ++ flat us
  | [], us => rfl
  | t :: r, us => by simp [flat, flat_append r us]
theorem flat_get0 : ∀ (ts : List T3) (j : Nat), (flat ts).getD (j * 3) 0 = (ts.getD j default).1
  | [], j => by simp [flat]; rfl
  | t :: r, 0 => by simp [flat]
  | t :: r, j + 1 => by simpa [flat, Nat.add_mul] using flat_get0 r j
theorem flat_get1 : ∀ (ts : List T3) (j : Nat), (flat ts).getD (j * 3 + 1) 0 = (ts.getD j default).2.1
  | [], j => by simp [flat]; rfl
  | t :: r, 0 => by simp [flat]
  | t :: r, j + 1 => by have := flat_get1 r j; rw [show (j + 1) * 3 + 1 = j * 3 + 1 + 3 by omega]; simpa [flat] using this
theorem flat_get2 : ∀ (ts : List T3) (j : Nat), (flat ts).getD (j * 3 + 2) 0 = (ts.getD j default).2.2
  | [], j => by simp [flat]; rfl
  | t :: r, 0 => by simp [flat]
  | t :: r, j + 1 => by have := flat_get2 r j; rw [show (j + 1) * 3 + 2 = j * 3 + 2 + 3 by omega]; simpa [flat] using this
theorem flat_set : ∀ (ts : List T3) (j : Nat) (x y z : Int), (((flat ts).set (j * 3) x).set (j * 3 + 1) y).set (j * 3 + 2) z = flat (ts.set j (x, y, z))
  | [], j, x, y, z => by simp [flat]
  | t :: r, 0, x, y, z => by simp [flat]
  | t :: r, j + 1, x, y, z => by
    have := flat_set r j x y z
    rw [show (j + 1) * 3 = j * 3 + 3 by omega]
    simp only [flat, List.set_cons_succ, List.set_cons_zero, List.cons.injEq, true_and]
    exact this
theorem flat_set0 : ∀ (ts : List T3) (j : Nat) (x : Int), (flat ts).set (j * 3) x = flat (ts.set j (x, (ts.getD j default).2))
  | [], j, x => by simp [flat]
  | t :: r, 0, x => by simp [flat]
  | t :: r, j + 1, x => by
    have := flat_set0 r j x
    rw [show (j + 1) * 3 = j * 3 + 3 by omega]
    simp only [flat, List.set_cons_succ, List.set_cons_zero, List.cons.injEq, true_and]
    simpa using this

theorem OwnP.cell0 {w : World} {g : Nat} {T : TypeId} {ts : List T3} (h : OwnP w g T (flat ts)) (j : Nat) (hj : j < ts.length) : w.cell? ⟨g, j * 3, none⟩ = some (.int .i64 (ts.getD j default).1) := by
  rw [← flat_get0]; exact h.cell _ (by rw [flat_length]; omega)
theorem OwnP.cell1 {w : World} {g : Nat} {T : TypeId} {ts : List T3} (h : OwnP w g T (flat ts)) (j : Nat) (hj : j < ts.length) : w.cell? ⟨g, j * 3 + 1, none⟩ = some (.int .i64 (ts.getD j default).2.1) := by
  rw [← flat_get1]; exact h.cell _ (by rw [flat_length]; omega)
theorem OwnP.cell2 {w : World} {g : Nat} {T : TypeId} {ts : List T3} (h : OwnP w g T (flat ts)) (j : Nat) (hj : j < ts.length) : w.cell? ⟨g, j * 3 + 2, none⟩ = some (.int .i64 (ts.getD j default).2.2) := by
  rw [← flat_get2]; exact h.cell _ (by rw [flat_length]; omega)
theorem OwnP.rd3 {w : World} {g : Nat} {T : TypeId} {ts : List T3} (h : OwnP w g T (flat ts)) : Rd3 w (some ⟨g, 0, none⟩) ts :=
  fun j hj => ⟨g, 0, rfl, by simpa using h.cell0 j hj, by simpa using h.cell1 j hj, by simpa using h.cell2 j hj⟩
theorem OwnP.set3 {w : World} {g : Nat} {T : TypeId} {ts : List T3} (h : OwnP w g T (flat ts)) (j : Nat) (x y z : Int) :
    OwnP (((w.setCell ⟨g, j * 3, none⟩ (.int .i64 x)).setCell ⟨g, j * 3 + 1, none⟩ (.int .i64 y)).setCell ⟨g, j * 3 + 2, none⟩ (.int .i64 z)) g T (flat (ts.set j (x, y, z))) := by
  rw [← flat_set]; exact ((h.set _ x).set _ y).set _ z
theorem rd3_grown {w w' : World} {a : Option Addr} {ts : List T3} {g : Nat} (h : Rd3 w a ts) (hb : w.grownBy w' (some g)) (hne : ∀ x, a = some x → x.block ≠ g) : Rd3 w' a ts := by
  intro j hj
  obtain ⟨b, off, ha, hc, hc1, hc2⟩ := h j hj
  have hn := hne _ ha
  exact ⟨b, off, ha, hb.cell hc (by simpa using hn), hb.cell hc1 (by simpa using hn), hb.cell hc2 (by simpa using hn)⟩

theorem fill_step3 (ts : List T3) (k : Nat) (h : k < ts.length) (n : Nat) (hn : n = ts.length) :
    (ts.take k ++ List.replicate (n - k) ((0 : Int), (0 : Int), (0 : Int))).set k (ts.getD k default) = ts.take (k + 1) ++ List.replicate (n - (k + 1)) (0, 0, 0) := by
  subst hn
  have hl : (ts.take k).length = k := by simp; omega
  rw [show ts.length - k = (ts.length - (k + 1)) + 1 by omega, List.replicate_succ, List.set_append_right _ _ (by omega), hl, Nat.sub_self, List.set_cons_zero,
    List.take_succ_eq_append_getElem h, List.append_assoc]
  simp only [List.cons_append, List.nil_append]
  congr 2
  simp [List.getD_eq_getElem?_getD, h]

theorem beq_drop3 (xs ys : List T3) (k : Nat) (h : k < xs.length) (h' : k < ys.length) : (xs.drop k == ys.drop k) = ((xs.getD k default == ys.getD k default) && (xs.drop (k + 1) == ys.drop (k + 1))) := by
  rw [drop_getD3 xs k h, drop_getD3 ys k h']; rfl

theorem flat_zero : ∀ n : Nat, flat (List.replicate n ((0 : Int), (0 : Int), (0 : Int))) = List.replicate (n * 3) 0
  | 0 => rfl
  | n + 1 => by rw [List.replicate_succ, show (n + 1) * 3 = n * 3 + 1 + 1 + 1 by omega, List.replicate_succ, List.replicate_succ, List.replicate_succ, flat, flat_zero n]

theorem zeros3_eq (n : Nat) : madeCells #[Value.int .i64 0, .int .i64 0, .int .i64 0] (n * 3) = ((flat (List.replicate n ((0 : Int), (0 : Int), (0 : Int)))).map (Value.int .i64)).toArray := by
  apply Array.toList_inj.1
  rw [flat_zero]
  apply List.ext_getElem
  · simp [size_madeCells]
  · intro k h1 h2
    have hk : k % 3 = 0 ∨ k % 3 = 1 ∨ k % 3 = 2 := by omega
    rcases hk with e | e | e <;> simp [madeCells, e]

theorem own_newP (w : World) (T : TypeId) (xs : List Int) : OwnP (w.alloc (.cells (xs.map (Value.int .i64)).toArray T)) w.heap.size T xs :=
  OwnI.ownP (by show (w.heap.push _)[w.heap.size]? = _; simp)

theorem toPipe_any (x y z : Int) (w : World) :
    Calls Try.prog 58 #[.agg #[.int .i64 x, .int .i64 y, .int .i64 z]] w fun e w' => Rets w (.agg #[.int .i64 x, .int .i64 y, .int .i64 z]) e w' := by
  go_enter Try.func58, Try.ntmps58
  go_wp2
  go_returns
  exact ⟨rfl, (by repeat first | exact Below.refl _ _ | assumption | (refine belA ?_) | (refine belD ?_) | (refine belN ?_) | (refine belS ?_ (by simp <;> omega)) | (refine belT ?_ (by assumption)))⟩
theorem eqPipe_any (x y z x' y' z' : Int) (w : World) :
    Calls Try.prog 59 #[.agg #[.int .i64 x, .int .i64 y, .int .i64 z], .agg #[.int .i64 x', .int .i64 y', .int .i64 z']] w fun e w' => Rets w (.bool ((x, y, z) == (x', y', z'))) e w' := by
  go_enter Try.func59, Try.ntmps59
  go_wp2
  all_goals go_returns
  all_goals exact ⟨ret_bool (by simp_all), (by repeat first | exact Below.refl _ _ | assumption | (refine belA ?_) | (refine belD ?_) | (refine belN ?_) | (refine belS ?_ (by simp <;> omega)) | (refine belT ?_ (by assumption)))⟩
theorem infoPipe : (Try.prog.info? 60).map (fun i => (i.zero, i.size, i.bytes)) = some (some (.agg #[.int .i64 0, .int .i64 0, .int .i64 0]), 3, 24) := by kernel_rfl

theorem make_Pipes (t : TypeId) (ht : Try.prog.underlying t = some (.slice 60)) (n : Nat) (hn : n ≤ 1048576) (w : World) :
    (Instr.makeSlice t (.int .i64 (n : Int)) (.int .i64 (n : Int))).run Try.prog w = .ok (.slice (some ⟨w.heap.size, 0, none⟩) n n) (w.alloc (.cells ((flat (List.replicate n ((0 : Int), (0 : Int), (0 : Int)))).map (Value.int .i64)).toArray 60)) := by
  obtain ⟨i, hi, hz, hs, hb⟩ := info_parts infoPipe
  have h := run_make (P := Try.prog) w t 60 i (.agg #[.int .i64 0, .int .i64 0, .int .i64 0]) ht hi hz .i64 .i64 (n : Int) (n : Int) (by omega) (by omega) (by rw [hb]; omega) (by omega)
  rw [hs] at h
  simp only [Int.toNat_natCast] at h
  rw [h, ← zeros3_eq]
  simp only [Value.cells]

theorem toPipeS_any (a : Option Addr) (cap : Nat) (ts : List T3) (w : World) (hc : Rd3 w a ts) (hn : ts.length ≤ 1048576) :
    Calls Try.prog 52 #[.slice a ts.length cap] w fun e w' => ∃ g, w.heap.size ≤ g ∧ e = .returned (.slice (some ⟨g, 0, none⟩) ts.length ts.length) ∧ OwnP w' g 60 (flat ts) ∧ Below w.heap.size w w' := by
  have hmk := make_Pipes 24 Try.underlying24 ts.length hn
  have h0 : ∀ w : World, OwnP (w.alloc (.cells ((flat (List.replicate ts.length ((0 : Int), (0 : Int), (0 : Int)))).map (Value.int .i64)).toArray 60)) w.heap.size 60 (flat (List.replicate ts.length ((0 : Int), (0 : Int), (0 : Int)))) := fun w => own_newP w _ _
  generalize hzz : ((flat (List.replicate ts.length ((0 : Int), (0 : Int), (0 : Int)))).map (Value.int .i64)).toArray = Z at hmk h0
  clear hzz
  have H0 := hide h0
  clear h0
  go_enter Try.func52, Try.ntmps52
  go_wp2
  clear hmk
  go_loopw [4] (fun i wr => ∃ k : Nat, k ≤ ts.length ∧ i = .int .i64 k ∧ OwnP wr w.heap.size 60 (flat (ts.take k ++ List.replicate (ts.length - k) ((0 : Int), (0 : Int), (0 : Int)))) ∧ Below w.heap.size w wr) (fun i _ => ts.length - (intOf i).toNat)
  case atStart => exact ⟨0, Nat.zero_le _, rfl, by simpa using H0.out w, (by repeat first | exact Below.refl _ _ | assumption | (refine belA ?_) | (refine belD ?_) | (refine belN ?_) | (refine belS ?_ (by simp <;> omega)) | (refine belT ?_ (by assumption)))⟩
  case round =>
    obtain ⟨k, hk, rfl, hown, hbel⟩ := hrel
    by_cases hlt : k < ts.length
    · obtain ⟨b, off, rfl, hcell, hcell1, hcell2⟩ := hc.below hbel k hlt
      have HS := hide (fill_step3 ts k hlt _ rfl)
      generalize ts.getD k default = x at *
      obtain ⟨x, y, z⟩ := x
      simp only at hcell hcell1 hcell2
      have hl : w.heap.size < wr.heap.size := hown.lt
      have hkl : k < (ts.take k ++ List.replicate (ts.length - k) ((0 : Int), (0 : Int), (0 : Int))).length := by simp; omega
      generalize (ts.take k ++ List.replicate (ts.length - k) ((0 : Int), (0 : Int), (0 : Int))) = us at *
      go_wp2_with fail
      go_at_call 58
      refine (toPipe_any x y z _).mono ?_
      rintro e w2 ⟨rfl, hb2⟩
      have own2 := hown.below hb2
      have g0 := own2.cell0 k hkl
      have g1 := own2.cell1 k hkl
      have g2 := own2.cell2 k hkl
      have f0 := own2.frozen (k * 3)
      have f1 := own2.frozen (k * 3 + 1)
      have f2 := own2.frozen (k * 3 + 2)
      have hset := own2.set3 k x y z
      rw [HS.out] at hset
      have bel2 := belT hbel hb2
      clear own2 hown
      generalize us.getD k default = v at *
      obtain ⟨v0, v1, v2⟩ := v
      simp only at g0 g1 g2
      go_wp2
      go_roundw
      case rel => exact ⟨k + 1, by omega, by go_num, hset, (by repeat first | exact Below.refl _ _ | assumption | (refine belA ?_) | (refine belD ?_) | (refine belN ?_) | (refine belS ?_ (by simp <;> omega)) | (refine belT ?_ (by assumption)))⟩
      case measure => simp [intOf]; omega
    · go_wp2
      go_ret
      refine ⟨w.heap.size, Nat.le_refl _, rfl, ?_, hbel⟩
      have : k = ts.length := by omega
      subst this
      simpa using hown
theorem szPipeS_any (a : Option Addr) (cap n : Nat) (w : World) (hm : n ≤ 9223372036854775807) :
    Calls Try.prog 50 #[.slice a n cap, .int .i64 1048576] w fun e w' => e = .returned (.int .i64 (if n ≤ 1048576 then 1048576 - (n : Int) else -1)) ∧ w = w' := by
  go_enter Try.func50, Try.ntmps50
  go_wp2
  all_goals go_ret
  all_goals exact ⟨ret_int (by first | rfl | (split <;> omega)), rfl⟩
theorem eqPipeS_any (a a' : Option Addr) (cap cap' : Nat) (xs ys : List T3) (w : World) (hc : Rd3 w a xs) (hc' : Rd3 w a' ys) (hn : xs.length ≤ 1048576) :
    Calls Try.prog 53 #[.slice a xs.length cap, .slice a' ys.length cap'] w fun e w' => Rets w (.bool (xs == ys)) e w' := by
  by_cases hlen : xs.length = ys.length
  · have hl1 : ((xs.length : Int) == (ys.length : Int)) = true := by simp [hlen]
    have hl2 : ((xs.length : Int) != (ys.length : Int)) = false := by simp [hlen]
    have HL := hide hlen
    clear hlen
    go_enter Try.func53, Try.ntmps53
    go_wp2
    clear hl1 hl2
    go_loopw [5] (fun i wr => ∃ k : Nat, k ≤ xs.length ∧ i = .int .i64 k ∧ (xs == ys) = (xs.drop k == ys.drop k) ∧ Below w.heap.size w wr) (fun i _ => xs.length - (intOf i).toNat)
    case atStart => exact ⟨0, Nat.zero_le _, rfl, rfl, Below.refl _ _⟩
    case round =>
      obtain ⟨k, hk, rfl, hr, hbel⟩ := hrel
      have HR := hide hr
      clear hr
      by_cases hlt : k < xs.length
      · have hlt' : k < ys.length := by rw [← HL.out]; exact hlt
        obtain ⟨b, off, rfl, q0, q1, q2⟩ := hc.below hbel k hlt
        obtain ⟨b', off', rfl, r0, r1, r2⟩ := hc'.below hbel k hlt'
        have HD := hide (beq_drop3 xs ys k hlt hlt')
        generalize xs.getD k default = x at *
        generalize ys.getD k default = y at *
        obtain ⟨x0, x1, x2⟩ := x
        obtain ⟨y0, y1, y2⟩ := y
        simp only at q0 q1 q2 r0 r1 r2
        have bl := World.block_lt_of_cell? wr _ q0
        have bl' := World.block_lt_of_cell? wr _ r0
        simp at bl bl'
        have i1 : (0 : Int) ≤ (k : Int) := by omega
        have i2 : (k : Int) < (xs.length : Int) := by omega
        have i3 : (k : Int) < (ys.length : Int) := by omega
        go_wp2
        (refine wp_region_g [0, 1, 2, 3, 4, 5, 6, 7, 8, 9] [] (by kernel_rfl) (by kernel_rfl) ?_; simp only [pick, List.map_cons, List.map_nil, Array.getD_eq_getD_getElem?, List.getElem?_toArray, List.getElem?_cons_zero, List.getElem?_cons_succ, Option.getD_some]; (iterate 10 (refine wpG_step (fun K hK => ?_); go_simp; first | (refine hK _ ?_; clear hK K) | (apply Exists.intro; refine ⟨fun _ => ?_, hK _ ?_⟩; ((go_at_call 59; exact eqPipe_any _ _ _ _ _ _ _)); clear hK K))); refine wpG_nil ?_)
        (refine wpT_end ?_; intro w2 hbr _; obtain ⟨hcb, hfb⟩ := bcell hbr; have hzr := hbr.size; (try simp at hzr); (try (refine ltk (a := w.heap.size) (b := w2.heap.size) ?_ ?_; (focus omega); intro _ _)); (try (refine ltk (a := w.heap.size + 1) (b := w2.heap.size) ?_ ?_; (focus omega); intro _ _)); (try (refine ltk (a := w.heap.size + 2) (b := w2.heap.size) ?_ ?_; (focus omega); intro _ _)); (try (refine ltk (a := w.heap.size + 3) (b := w2.heap.size) ?_ ?_; (focus omega); intro _ _)); (try (refine ltk (a := b) (b := w2.heap.size) ?_ ?_; (focus omega); intro _ _)); (try (refine ltk (a := b') (b := w2.heap.size) ?_ ?_; (focus omega); intro _ _)))
        go_wp2
        · go_ret
          exact ⟨ret_bool (by rw [HR.out, HD.out]; simp_all), (by repeat first | exact Below.refl _ _ | assumption | (refine belA ?_) | (refine belD ?_) | (refine belN ?_) | (refine belS ?_ (by simp <;> omega)) | (refine belT ?_ (by assumption)))⟩
        · go_roundw
          case rel => exact ⟨k + 1, by omega, by go_num, by rw [HR.out, HD.out]; simp_all, (by repeat first | exact Below.refl _ _ | assumption | (refine belA ?_) | (refine belD ?_) | (refine belN ?_) | (refine belS ?_ (by simp <;> omega)) | (refine belT ?_ (by assumption)))⟩
          case measure => simp [intOf]; omega
      · go_wp2
        go_ret
        have h1 : xs.drop k = [] := List.drop_of_length_le (by omega)
        have h2 : ys.drop k = [] := List.drop_of_length_le (by rw [← HL.out]; omega)
        exact ⟨ret_bool (by rw [HR.out, h1, h2]; rfl), hbel⟩
  · have hl1 : ((xs.length : Int) == (ys.length : Int)) = false := by simp; omega
    have hl2 : ((xs.length : Int) != (ys.length : Int)) = true := by simp; omega
    have hne : (xs == ys) = false := by
      rw [beq_eq_false_iff_ne]; intro h; exact hlen (by rw [h])
    have HN := hide hne
    clear hne hlen
    go_enter Try.func53, Try.ntmps53
    go_wp2
    go_ret
    exact ⟨ret_bool HN.out.symm, Below.refl _ _⟩
end Go.Proofs.Yteimcbhnjhkkbaa
