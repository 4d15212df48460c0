/- Valid nets by the reference; places. -/
import Derived.Test.YteimcbhnjhkkbaaNet
namespace Go.Proofs.Yteimcbhnjhkkbaa
set_option linter.unusedSimpArgs false
set_option linter.unusedVariables false
open Go.RowKit

theorem wrapInB (p x : Int) : inB x 0 (IntKind.i64.wrap (p - 1)) = true → True := fun _ => trivial

/-- As the reference tests the pipes: whatever the places are. -/
theorem pipeOk_wrap {p : Int} (h : inB p 2 8 = true) : IntKind.i64.wrap (p - 1) = p - 1 := IntWalk.i64_in _ (by have := inB_iff.1 h; omega)

set_option maxHeartbeats 1000000 in
theorem specNetOk_any (p : Int) (a : Option Addr) (cap : Nat) (ts : List T3) (w : World) (hc : Rd3 w a ts) (hn : ts.length ≤ 1048576) :
    Calls Try.prog 47 #[.agg #[.int .i64 p, .slice a ts.length cap]] w fun e w' => Rets w (.bool (netOk p ts)) e w' := by
  by_cases hp : inB p 2 8 = true
  · obtain ⟨p1, p2⟩ := inB_iff.1 hp
    have HM := hide (show netOk p ts = (decide (ts.length ≤ 20) && ts.all (pipeOk p)) by simp [netOk, hp])
    have HP8 := hide hp
    clear hp
    go_enter Try.func47, Try.ntmps47
    go_wp2
    have hB := hide (blk_new w #[.int .i64 p, .slice a ts.length cap] 26)
    go_loopw [3] (fun i wr => ∃ k : Nat, k ≤ ts.length ∧ i = .int .i64 k ∧ wr.heap[w.heap.size]? = some (.cells #[.int .i64 p, .slice a ts.length cap] 26 (0, 0)) ∧ ts.all (pipeOk p) = (ts.drop k).all (pipeOk p) ∧ Below w.heap.size w wr) (fun i _ => ts.length - (intOf i).toNat)
    case atStart => exact ⟨0, Nat.zero_le _, rfl, hB.out, rfl, (by repeat first | exact Below.refl _ _ | assumption | (refine belA ?_) | (refine belD ?_) | (refine belN ?_) | (refine belS ?_ (by simp <;> omega)) | (refine belT ?_ (by assumption)))⟩
    case round =>
      obtain ⟨k, hk, rfl, hbk, hr, hbel⟩ := hrel
      have HR := hide hr
      clear hr
      have hbl := (Array.getElem?_eq_some_iff.1 hbk).1
      have c0 := cell_of_block hbk 0
      have c1 := cell_of_block hbk 1
      simp at c0 c1
      by_cases hlt : k < ts.length
      · obtain ⟨b, off, rfl, hcell, hcell1, hcell2⟩ := hc.below hbel k hlt
        have HD := hide (all_drop (pipeOk p) ts k hlt)
        generalize ts.getD k default = x at *
        obtain ⟨x, y, z⟩ := x
        simp only at hcell hcell1 hcell2
        have bl := World.block_lt_of_cell? wr _ hcell
        simp at bl
        have HP := hide (show pipeOk p (x, y, z) = (inB x 0 (p - 1) && inB y 0 (p - 1) && (x != y) && inB z 1 1000) from rfl)
        have hbk1 := blk_alloc (o := .cells #[.int .i64 x, .int .i64 y, .int .i64 z] 60) hbk
        go_wp2_with (first | (go_at_call 48; refine (l01In_any _ _ _ _).mono ?_; rintro e w2 ⟨rfl, rfl⟩))
        all_goals first
          | (go_ret; exact ⟨ret_bool (by rw [HM.out, HR.out, HD.out, HP.out]; simp_all), (by repeat first | exact Below.refl _ _ | assumption | (refine belA ?_) | (refine belD ?_) | (refine belN ?_) | (refine belS ?_ (by simp <;> omega)) | (refine belT ?_ (by assumption)))⟩)
          | (go_roundw
             case rel => exact ⟨k + 1, by omega, by go_num, hbk1, by rw [HR.out, HD.out, HP.out]; simp_all, (by repeat first | exact Below.refl _ _ | assumption | (refine belA ?_) | (refine belD ?_) | (refine belN ?_) | (refine belS ?_ (by simp <;> omega)) | (refine belT ?_ (by assumption)))⟩
             case measure => simp [intOf]; omega)
      · have hp8 := HP8.out
        go_wp2_with (first | (go_at_call 48; refine (l01In_any _ _ _ _).mono ?_; rintro e w2 ⟨rfl, rfl⟩))
        all_goals go_ret
        all_goals exact ⟨ret_bool (by rw [HM.out, HR.out, List.drop_of_length_le (by omega)]; simp; try omega), hbel⟩
  · have hp' : inB p 2 8 = false := by simpa using hp
    have HM := hide (show netOk p ts = false by simp [netOk, hp'])
    clear hp
    go_enter Try.func47, Try.ntmps47
    go_wp2
    have hB := hide (blk_new w #[.int .i64 p, .slice a ts.length cap] 26)
    go_loopw [3] (fun i wr => ∃ k : Nat, k ≤ ts.length ∧ i = .int .i64 k ∧ wr.heap[w.heap.size]? = some (.cells #[.int .i64 p, .slice a ts.length cap] 26 (0, 0)) ∧ Below w.heap.size w wr) (fun i _ => ts.length - (intOf i).toNat)
    case atStart => exact ⟨0, Nat.zero_le _, rfl, hB.out, (by repeat first | exact Below.refl _ _ | assumption | (refine belA ?_) | (refine belD ?_) | (refine belN ?_) | (refine belS ?_ (by simp <;> omega)) | (refine belT ?_ (by assumption)))⟩
    case round =>
      obtain ⟨k, hk, rfl, hbk, hbel⟩ := hrel
      have hbl := (Array.getElem?_eq_some_iff.1 hbk).1
      have c0 := cell_of_block hbk 0
      have c1 := cell_of_block hbk 1
      simp at c0 c1
      by_cases hlt : k < ts.length
      · obtain ⟨b, off, rfl, hcell, hcell1, hcell2⟩ := hc.below hbel k hlt
        generalize ts.getD k default = x at *
        obtain ⟨x, y, z⟩ := x
        simp only at hcell hcell1 hcell2
        have bl := World.block_lt_of_cell? wr _ hcell
        simp at bl
        have hbk1 := blk_alloc (o := .cells #[.int .i64 x, .int .i64 y, .int .i64 z] 60) hbk
        go_wp2_with (first | (go_at_call 48; refine (l01In_any _ _ _ _).mono ?_; rintro e w2 ⟨rfl, rfl⟩))
        all_goals first
          | (go_ret; exact ⟨ret_bool HM.out.symm, (by repeat first | exact Below.refl _ _ | assumption | (refine belA ?_) | (refine belD ?_) | (refine belN ?_) | (refine belS ?_ (by simp <;> omega)) | (refine belT ?_ (by assumption)))⟩)
          | (go_roundw
             case rel => exact ⟨k + 1, by omega, by go_num, hbk1, (by repeat first | exact Below.refl _ _ | assumption | (refine belA ?_) | (refine belD ?_) | (refine belN ?_) | (refine belS ?_ (by simp <;> omega)) | (refine belT ?_ (by assumption)))⟩
             case measure => simp [intOf]; omega)
      · go_wp2_with (first | (go_at_call 48; refine (l01In_any _ _ _ _).mono ?_; rintro e w2 ⟨rfl, rfl⟩))
        all_goals go_ret
        all_goals exact ⟨ret_bool HM.out.symm, hbel⟩

def placeM (p : Int) (ts : List T3) (x : Int) : Bool := netOk p ts && inB x 0 (p - 1)
def twoM (p : Int) (ts : List T3) (x y : Int) : Bool := netOk p ts && inB x 0 (p - 1) && inB y 0 (p - 1) && (x != y)

theorem isPlace_any (p : Int) (a : Option Addr) (cap : Nat) (ts : List T3) (x : Int) (w : World) (hc : Rd3 w a ts) (hn : ts.length ≤ 1048576) :
    Calls Try.prog 44 #[.agg #[.int .i64 p, .slice a ts.length cap], .int .i64 x] w fun e w' => Rets w (.bool (placeM p ts x)) e w' := by
  have HC := hide (fun W (hb : Below w.heap.size w W) => implNetOk_any p a cap ts W (hc.below hb) hn)
  cases hk : netOk p ts with
  | false =>
    have HM := hide (show placeM p ts x = false by simp [placeM, hk])
    rw [hk] at HC
    clear hk
    go_enter Try.func44, Try.ntmps44
    go_wp2_with fail
    (with_reducible refine (HC.out _ (belA (Below.refl _ _))).mono ?_)
    rintro e w2 ⟨rfl, hb⟩
    have b0 := belT (belA (Below.refl w.heap.size w)) hb
    go_wp2
    go_ret
    exact ⟨ret_bool HM.out.symm, b0⟩
  | true =>
    obtain ⟨p1, p2, _, _⟩ := netOk_parts hk
    have HM := hide (show placeM p ts x = inB x 0 (p - 1) by simp [placeM, hk])
    rw [hk] at HC
    clear hk
    go_enter Try.func44, Try.ntmps44
    go_wp2_with fail
    (with_reducible refine (HC.out _ (belA (Below.refl _ _))).mono ?_)
    rintro e w2 ⟨rfl, hb⟩
    have b0 := belT (belA (Below.refl w.heap.size w)) hb
    have hbk := heap_grow (blk_new w #[.int .i64 p, .slice a ts.length cap] 26) hb
    have c0 := cell_of_block hbk 0
    simp at c0
    go_wp2_with (first | (go_at_call 43; refine (within_any _ _ _ _).mono ?_; rintro e w2 ⟨rfl, rfl⟩))
    all_goals go_ret
    all_goals exact ⟨ret_bool (by rw [HM.out]), b0⟩

theorem twoPlaces_any (p : Int) (a : Option Addr) (cap : Nat) (ts : List T3) (x y : Int) (w : World) (hc : Rd3 w a ts) (hn : ts.length ≤ 1048576) :
    Calls Try.prog 39 #[.agg #[.int .i64 p, .slice a ts.length cap], .int .i64 x, .int .i64 y] w fun e w' => Rets w (.bool (twoM p ts x y)) e w' := by
  have HX := hide (fun W (hb : Below w.heap.size w W) => isPlace_any p a cap ts x W (hc.below hb) hn)
  have HY := hide (fun W (hb : Below w.heap.size w W) => isPlace_any p a cap ts y W (hc.below hb) hn)
  have HM := hide (show twoM p ts x y = (placeM p ts x && placeM p ts y && (x != y)) by
    simp only [twoM, placeM]; cases netOk p ts <;> cases inB x 0 (p - 1) <;> cases inB y 0 (p - 1) <;> rfl)
  generalize placeM p ts x = X at *
  generalize placeM p ts y = Y at *
  cases X
  · go_enter Try.func39, Try.ntmps39
    go_wp2_with fail
    (with_reducible refine (HX.out _ (belA (Below.refl _ _))).mono ?_)
    rintro e w2 ⟨rfl, hb⟩
    have b0 := belT (belA (Below.refl w.heap.size w)) hb
    go_wp2
    go_ret
    exact ⟨ret_bool (by rw [HM.out]; rfl), b0⟩
  · go_enter Try.func39, Try.ntmps39
    go_wp2_with fail
    (with_reducible refine (HX.out _ (belA (Below.refl _ _))).mono ?_)
    rintro e w2 ⟨rfl, hb⟩
    have b0 := belT (belA (Below.refl w.heap.size w)) hb
    have hbk := heap_grow (blk_new w #[.int .i64 p, .slice a ts.length cap] 26) hb
    have c0 := cell_of_block hbk 0
    have c1 := cell_of_block hbk 1
    simp at c0 c1
    go_wp2_with fail
    (with_reducible refine (HY.out _ b0).mono ?_)
    rintro e w3 ⟨rfl, hb3⟩
    have b3 := belT b0 hb3
    cases Y
    · go_wp2
      go_ret
      exact ⟨ret_bool (by rw [HM.out]; rfl), b3⟩
    · go_wp2
      all_goals go_ret
      all_goals exact ⟨ret_bool (by rw [HM.out]; simp), b3⟩

theorem l08Two_any (p : Int) (a : Option Addr) (cap : Nat) (ts : List T3) (x y : Int) (w : World) (hc : Rd3 w a ts) (hn : ts.length ≤ 1048576) :
    Calls Try.prog 37 #[.agg #[.int .i64 p, .slice a ts.length cap], .int .i64 x, .int .i64 y] w fun e w' => Rets w (.bool (twoM p ts x y)) e w' := by
  have HC := hide (fun W (hb : Below w.heap.size w W) => specNetOk_any p a cap ts W (hc.below hb) hn)
  cases hk : netOk p ts with
  | false =>
    have HM := hide (show twoM p ts x y = false by simp [twoM, hk])
    rw [hk] at HC
    clear hk
    go_enter Try.func37, Try.ntmps37
    go_wp2_with fail
    (with_reducible refine (HC.out _ (belA (Below.refl _ _))).mono ?_)
    rintro e w2 ⟨rfl, hb⟩
    have b0 := belT (belA (Below.refl w.heap.size w)) hb
    go_wp2
    go_ret
    exact ⟨ret_bool HM.out.symm, b0⟩
  | true =>
    obtain ⟨p1, p2, _, _⟩ := netOk_parts hk
    have HM := hide (show twoM p ts x y = (inB x 0 (p - 1) && inB y 0 (p - 1) && (x != y)) by simp [twoM, hk])
    rw [hk] at HC
    clear hk
    go_enter Try.func37, Try.ntmps37
    go_wp2_with fail
    (with_reducible refine (HC.out _ (belA (Below.refl _ _))).mono ?_)
    rintro e w2 ⟨rfl, hb⟩
    have b0 := belT (belA (Below.refl w.heap.size w)) hb
    have hbk := heap_grow (blk_new w #[.int .i64 p, .slice a ts.length cap] 26) hb
    have c0 := cell_of_block hbk 0
    simp at c0
    go_wp2_with (first | (go_at_call 48; refine (l01In_any _ _ _ _).mono ?_; rintro e w2 ⟨rfl, rfl⟩))
    all_goals go_ret
    all_goals exact ⟨ret_bool (by rw [HM.out]; simp_all), b0⟩

def usedM (n : Nat) (xs : List Int) (k : Int) : Bool := (xs.length == n) && inB k 0 ((xs.length : Int) - 1) && decide (0 < xs.getD k.toNat 0)



end Go.Proofs.Yteimcbhnjhkkbaa
