/- Nets: copied, compared, marked; valid nets, places. -/
import Derived.Test.YteimcbhnjhkkbaaT3b
import Derived.Test.YteimcbhnjhkkbaaGive
import Derived.IntWalk
namespace Go.Proofs.Yteimcbhnjhkkbaa
set_option linter.unusedSimpArgs false
set_option linter.unusedVariables false
open Go.RowKit

theorem blk_new (w : World) (C : Array Value) (T : TypeId) : (w.alloc (.cells C T)).heap[w.heap.size]? = some (.cells C T (0, 0)) := by
  show (w.heap.push _)[w.heap.size]? = _; simp
theorem blk_alloc {w : World} {b : Nat} {x o : Obj} (h : w.heap[b]? = some x) : (w.alloc o).heap[b]? = some x := heap_grow h ((Below.refl _ _).alloc (Nat.le_refl _) _)
theorem blk_other {w : World} {b c i : Nat} {x : Obj} {v : Value} (h : w.heap[b]? = some x) (hne : b ≠ c) : (w.setCell ⟨c, i, none⟩ v).heap[b]? = some x := by
  rw [Below.heap_setCell w ⟨c, i, none⟩ v b hne]; exact h

theorem OwnP.set_other {w : World} {g : Nat} {T : TypeId} {xs : List Int} {p : Addr} {v : Value} (h : OwnP w g T xs) (hp : p.block ≠ g) : OwnP (w.setCell p v) g T xs :=
  h.of_block (Below.heap_setCell w p v g (Ne.symm hp))

/-- A net as a value. -/
abbrev netV (p : Int) (a : Option Addr) (n cap : Nat) : Value := .agg #[.int .i64 p, .slice a n cap]

theorem toNet_any (p : Int) (a : Option Addr) (cap : Nat) (ts : List T3) (w : World) (hc : Rd3 w a ts) (hn : ts.length ≤ 1048576) :
    Calls Try.prog 23 #[.agg #[.int .i64 p, .slice a ts.length cap]] w fun e w' => ∃ g, w.heap.size ≤ g ∧ e = .returned (.agg #[.int .i64 p, .slice (some ⟨g, 0, none⟩) ts.length ts.length]) ∧ OwnP w' g 60 (flat ts) ∧ Below w.heap.size w w' := by
  have hca : ∀ W, Below w.heap.size w W → Rd3 W a ts := fun W hb => hc.below hb
  go_enter Try.func23, Try.ntmps23
  go_wp2_with fail
  refine (toPipeS_any a cap ts _ (hca _ (belA (belA (belA (Below.refl _ _))))) hn).mono ?_
  rintro e w2 ⟨g, hg, rfl, ho, hb⟩
  have b0 := belT (belA (belA (belA (Below.refl w.heap.size w)))) hb
  have hsz := hb.size
  simp at hsz hg
  obtain ⟨hcb, hfb⟩ := bcell hb
  have q1 := ho.lt
  go_wp2
  refine bodyPost_ret (by simp [results, Try.results23, go_sem, *]; try rfl) rfl ?_
  refine ⟨g, by omega, rfl, ?_, ?_⟩
  · repeat first | exact ho | refine OwnP.set_other ?_ (by simp only; omega)
  · clear hcb hfb ho hb
    repeat first | exact b0 | refine belS ?_ (by simp only; omega)

theorem szNet_any (p : Int) (a : Option Addr) (cap n : Nat) (w : World) (hm : n ≤ 9223372036854775807) :
    Calls Try.prog 21 #[.agg #[.int .i64 p, .slice a n cap], .int .i64 1048576] w fun e w' => Rets w (.int .i64 (if n ≤ 1048576 then 1048576 - (n : Int) else -1)) e w' := by
  have HS := hide (fun W => szPipeS_any a cap n W hm)
  have hv : (if n ≤ 1048576 then 1048576 - (n : Int) else -1) = -1 ∨ 0 ≤ (if n ≤ 1048576 then 1048576 - (n : Int) else -1) := by split <;> omega
  generalize (if n ≤ 1048576 then 1048576 - (n : Int) else -1) = v at *
  rcases hv with rfl | hv
  · go_enter Try.func21, Try.ntmps21
    go_wp2_with fail
    (with_reducible refine (HS.out _).mono ?_)
    rintro e w2 ⟨rfl, rfl⟩
    go_wp2
    go_ret
    exact ⟨rfl, (by repeat first | exact Below.refl _ _ | assumption | (refine belA ?_) | (refine belD ?_) | (refine belN ?_) | (refine belS ?_ (by simp <;> omega)) | (refine belT ?_ (by assumption)))⟩
  · go_enter Try.func21, Try.ntmps21
    go_wp2_with fail
    (with_reducible refine (HS.out _).mono ?_)
    rintro e w2 ⟨rfl, rfl⟩
    go_wp2
    go_ret
    exact ⟨rfl, (by repeat first | exact Below.refl _ _ | assumption | (refine belA ?_) | (refine belD ?_) | (refine belN ?_) | (refine belS ?_ (by simp <;> omega)) | (refine belT ?_ (by assumption)))⟩

theorem eqNet_any (p p' : Int) (a a' : Option Addr) (cap cap' : Nat) (xs ys : List T3) (w : World) (hc : Rd3 w a xs) (hc' : Rd3 w a' ys) (hn : xs.length ≤ 1048576) :
    Calls Try.prog 25 #[.agg #[.int .i64 p, .slice a xs.length cap], .agg #[.int .i64 p', .slice a' ys.length cap']] w fun e w' => Rets w (.bool (p == p' && xs == ys)) e w' := by
  have hca : ∀ W, Below w.heap.size w W → Rd3 W a xs := fun W hb => hc.below hb
  have hca' : ∀ W, Below w.heap.size w W → Rd3 W a' ys := fun W hb => hc'.below hb
  by_cases hp : p = p'
  · have h1 : (p == p') = true := by simpa using hp
    have h2 : (p != p') = false := by simpa using hp
    have HQ := hide (show (p == p' && xs == ys) = (xs == ys) by rw [h1]; rfl)
    have HE := hide (fun W (hb : Below w.heap.size w W) => eqPipeS_any a a' cap cap' xs ys W (hca W hb) (hca' W hb) hn)
    clear hp
    generalize (xs == ys) = q at *
    go_enter Try.func25, Try.ntmps25
    go_wp2_with fail
    (with_reducible refine (HE.out _ (belA (belA (Below.refl _ _)))).mono ?_)
    rintro e w2 ⟨rfl, hb⟩
    have b0 := belT (belA (belA (Below.refl w.heap.size w))) hb
    go_wp2
    all_goals go_ret
    all_goals exact ⟨ret_bool (by rw [HQ.out]; simp_all), b0⟩
  · have h1 : (p == p') = false := by simpa using hp
    have h2 : (p != p') = true := by simpa using hp
    have HQ := hide (show (p == p' && xs == ys) = false by rw [h1]; rfl)
    clear hp
    go_enter Try.func25, Try.ntmps25
    go_wp2
    go_ret
    exact ⟨ret_bool HQ.out.symm, (by repeat first | exact Below.refl _ _ | assumption | (refine belA ?_) | (refine belD ?_) | (refine belN ?_) | (refine belS ?_ (by simp <;> omega)) | (refine belT ?_ (by assumption)))⟩

/-- A pipe lies in the net. -/
def pipeOk (p : Int) (t : T3) : Bool := inB t.1 0 (p - 1) && inB t.2.1 0 (p - 1) && !(t.1 == t.2.1) && inB t.2.2 1 1000
def netOk (p : Int) (ts : List T3) : Bool := inB p 2 8 && decide (ts.length ≤ 20) && ts.all (pipeOk p)

theorem getD_mem3 {ts : List T3} {k : Nat} (h : k < ts.length) : ts.getD k default ∈ ts := by simp [List.getD_eq_getElem?_getD, h]
theorem pipeOk_iff {p : Int} {t : T3} : pipeOk p t = true ↔ 0 ≤ t.1 ∧ t.1 ≤ p - 1 ∧ 0 ≤ t.2.1 ∧ t.2.1 ≤ p - 1 ∧ t.1 ≠ t.2.1 ∧ 1 ≤ t.2.2 ∧ t.2.2 ≤ 1000 := by
  simp [pipeOk, inB]; omega
theorem netOk_parts {p : Int} {ts : List T3} (h : netOk p ts = true) : 2 ≤ p ∧ p ≤ 8 ∧ ts.length ≤ 20 ∧ ∀ t ∈ ts, pipeOk p t = true := by
  simp only [netOk, Bool.and_eq_true, decide_eq_true_eq, List.all_eq_true] at h
  have := inB_iff.1 h.1.1
  exact ⟨this.1, this.2, h.1.2, h.2⟩
theorem all_drop (f : T3 → Bool) (ts : List T3) (k : Nat) (h : k < ts.length) : (ts.drop k).all f = (f (ts.getD k default) && (ts.drop (k + 1)).all f) := by
  rw [drop_getD3 ts k h]; rfl

set_option maxHeartbeats 1000000 in
theorem implNetOk_any (p : Int) (a : Option Addr) (cap : Nat) (ts : List T3) (w : World) (hc : Rd3 w a ts) (hn : ts.length ≤ 1048576) :
    Calls Try.prog 42 #[.agg #[.int .i64 p, .slice a ts.length cap]] w fun e w' => Rets w (.bool (netOk p ts)) e w' := by
  by_cases hin : inB p 2 8 = true ∧ ts.length ≤ 20
  · obtain ⟨hp, hl⟩ := hin
    obtain ⟨p1, p2⟩ := inB_iff.1 hp
    have HM := hide (show netOk p ts = ts.all (pipeOk p) by simp [netOk, hp, hl])
    go_enter Try.func42, Try.ntmps42
    go_wp2_with (first | (go_at_call 43; refine (within_any _ _ _ _).mono ?_; rintro e w2 ⟨rfl, rfl⟩))
    clear hp
    have hB := hide (blk_new w #[.int .i64 p, .slice a ts.length cap] 26)
    go_loopw [18] (fun i wr => ∃ k : Nat, k ≤ ts.length ∧ i = .int .i64 k ∧ wr.heap[w.heap.size]? = some (.cells #[.int .i64 p, .slice a ts.length cap] 26 (0, 0)) ∧ ts.all (pipeOk p) = (ts.drop k).all (pipeOk p) ∧ Below w.heap.size w wr) (fun i _ => ts.length - (intOf i).toNat)
    case atStart => exact ⟨0, Nat.zero_le _, rfl, hB.out, rfl, (by repeat first | exact Below.refl _ _ | assumption | (refine belA ?_) | (refine belD ?_) | (refine belN ?_) | (refine belS ?_ (by simp <;> omega)) | (refine belT ?_ (by assumption)))⟩
    case round =>
      obtain ⟨k, hk, rfl, hbk, hr, hbel⟩ := hrel
      have HR := hide hr
      clear hr
      have hbl := (Array.getElem?_eq_some_iff.1 hbk).1
      have c0 := cell_of_block hbk 0
      have c1 := cell_of_block hbk 1
      simp at c0 c1
      by_cases hlt : k < ts.length
      · obtain ⟨b, off, rfl, hcell, hcell1, hcell2⟩ := hc.below hbel k hlt
        have HD := hide (all_drop (pipeOk p) ts k hlt)
        generalize ts.getD k default = x at *
        obtain ⟨x, y, z⟩ := x
        simp only at hcell hcell1 hcell2
        have bl := World.block_lt_of_cell? wr _ hcell
        simp at bl
        have HP := hide (show pipeOk p (x, y, z) = (inB x 0 (p - 1) && inB y 0 (p - 1) && !(x == y) && inB z 1 1000) from rfl)
        have hbk1 := blk_alloc (o := .cells #[.int .i64 x, .int .i64 y, .int .i64 z] 60) hbk
        go_wp2_with (first | (go_at_call 43; refine (within_any _ _ _ _).mono ?_; rintro e w2 ⟨rfl, rfl⟩))
        all_goals first
          | (go_ret; exact ⟨ret_bool (by rw [HM.out, HR.out, HD.out, HP.out]; simp_all), (by repeat first | exact Below.refl _ _ | assumption | (refine belA ?_) | (refine belD ?_) | (refine belN ?_) | (refine belS ?_ (by simp <;> omega)) | (refine belT ?_ (by assumption)))⟩)
          | (go_roundw
             case rel => exact ⟨k + 1, by omega, by go_num, hbk1, by rw [HR.out, HD.out, HP.out]; simp_all, (by repeat first | exact Below.refl _ _ | assumption | (refine belA ?_) | (refine belD ?_) | (refine belN ?_) | (refine belS ?_ (by simp <;> omega)) | (refine belT ?_ (by assumption)))⟩
             case measure => simp [intOf]; omega)
      · go_wp2
        go_ret
        exact ⟨ret_bool (by rw [HM.out, HR.out, List.drop_of_length_le (by omega)]; rfl), hbel⟩
  · have HM := hide (show netOk p ts = false by
      simp only [netOk]; rw [← Bool.not_eq_true]; intro h; simp only [Bool.and_eq_true, decide_eq_true_eq] at h; exact hin h.1)
    by_cases hp : inB p 2 8 = true
    · have hl : (20 : Int) < (ts.length : Int) := by
        have : ¬ ts.length ≤ 20 := fun h => hin ⟨hp, h⟩
        omega
      go_enter Try.func42, Try.ntmps42
      go_wp2_with (first | (go_at_call 43; refine (within_any _ _ _ _).mono ?_; rintro e w2 ⟨rfl, rfl⟩))
      go_ret
      exact ⟨ret_bool HM.out.symm, (by repeat first | exact Below.refl _ _ | assumption | (refine belA ?_) | (refine belD ?_) | (refine belN ?_) | (refine belS ?_ (by simp <;> omega)) | (refine belT ?_ (by assumption)))⟩
    · have hp' : inB p 2 8 = false := by simpa using hp
      go_enter Try.func42, Try.ntmps42
      go_wp2_with (first | (go_at_call 43; refine (within_any _ _ _ _).mono ?_; rintro e w2 ⟨rfl, rfl⟩))
      go_ret
      exact ⟨ret_bool HM.out.symm, (by repeat first | exact Below.refl _ _ | assumption | (refine belA ?_) | (refine belD ?_) | (refine belN ?_) | (refine belS ?_ (by simp <;> omega)) | (refine belT ?_ (by assumption)))⟩

end Go.Proofs.Yteimcbhnjhkkbaa
