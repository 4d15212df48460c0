/- Divide: the program's function. -/
import Derived.Test.YtjcoajaoofjjmaaDivK
import Derived.Test.YtjcoajaoofjjmaaSort
import Derived.Test.YtjcoajaoofjjmaaAppL
import Derived.Test.YtjcoajaoofjjmaaRgt2
namespace Go.Proofs.Ytjcoajaoofjjmaa
set_option linter.unusedSimpArgs false
set_option linter.unusedVariables false
open Go.RowKit

theorem OwnsI.cap {base : Nat} {w : World} {g n cap : Nat} {xs : List Int} (h : OwnsI base w (.slice (some ⟨g, 0, none⟩) n cap) xs) : n ≤ cap ∧ cap ≤ maxLen := by
  rcases h.2 with ⟨h, _⟩ | ⟨g', cap', cur, hv, _, _, h1, h2, _⟩
  · cases h
  · cases hv
    have := h.ownP.2.1
    omega

structure DivI (base : Nat) (w0 : World) (ts : List T3) (W : Int) (k : Nat) (v u : Value) (x : Int) (wr : World) : Prop where
  own1 : OwnsI base wr v ((flsL W ts).take k)
  own2 : OwnsI base wr u ((List.range k).map fun i : Nat => (i : Int))
  two : v.ownBlock = none ∨ v.ownBlock ≠ u.ownBlock
  two' : u.ownBlock = none ∨ u.ownBlock ≠ v.ownBlock
  left : x = W - ((flsL W ts).take k).sum
  bel : Below base w0 wr
  bd : -10000000000 * (k : Int) ≤ x ∧ x ≤ 1000000

theorem two_boxes (w : World) (v1 v2 : Value) (t1 t2 : TypeId) (wz : World) (h : wz = (w.alloc (.cells #[v1] t1)).alloc (.cells #[v2] t2)) :
    wz.cell? ⟨w.heap.size, 0, none⟩ = some v1 ∧ wz.cell? ⟨w.heap.size + 1, 0, none⟩ = some v2 ∧ Below w.heap.size w wz ∧ wz.heap.size = w.heap.size + 2 := by
  subst h
  have A1 := blk_new w #[v1] t1
  have A2 := blk_new (w.alloc (.cells #[v1] t1)) #[v2] t2
  rw [World.size_alloc] at A2
  have B1 := blk_alloc (o := .cells #[v2] t2) A1
  refine ⟨?_, ?_, (by repeat first | exact Below.refl _ _ | assumption | (refine belA ?_) | (refine belD ?_) | (refine belN ?_) | (refine belS ?_ (by simp <;> omega)) | (refine belT ?_ (by assumption))), by simp⟩
  · simp [cell_of_block B1]
  · simp [cell_of_block A2]

theorem two_fr {w w1 : World} {C1 C2 : Array Value} {T1 T2 : TypeId} (h : ((w.alloc (.cells C1 T1)).alloc (.cells C2 T2)).drew = w1) :
    w1.heap[w.heap.size]? = some (.cells C1 T1 (0, 0)) ∧ w1.heap[w.heap.size + 1]? = some (.cells C2 T2 (0, 0)) ∧ Below w.heap.size w w1 ∧ w1.heap.size = w.heap.size + 2 := by
  subst h
  have A2 := blk_new (w.alloc (.cells C1 T1)) C2 T2
  rw [World.size_alloc] at A2
  exact ⟨blk_alloc (o := .cells C2 T2) (blk_new w C1 T1), A2, (by repeat first | exact Below.refl _ _ | assumption | (refine belA ?_) | (refine belD ?_) | (refine belN ?_) | (refine belS ?_ (by simp <;> omega)) | (refine belT ?_ (by assumption))), by simp [World.drew]⟩

set_option maxHeartbeats 1000000 in
theorem divCmp_any (b2 b3 cap : Nat) (a : Option Addr) (ts : List T3) (W : Int) (w : World) (k2 : w.cell? ⟨b2, 0, none⟩ = some (.slice a ts.length cap)) (k3 : w.cell? ⟨b3, 0, none⟩ = some (.int .i64 W))
    (hc : Rd3 w a ts) (DH : DivH ts) (hw : 0 ≤ W ∧ W ≤ 1000000) (x y : Int) (x0 : 0 ≤ x) (x1 : x < ts.length) (y0 : 0 ≤ y) (y1 : y < ts.length) :
    Calls Try.prog 65 (#[.int .i64 x, .int .i64 y] ++ #[.pointer (some ⟨b2, 0, none⟩), .pointer (some ⟨b3, 0, none⟩)]) w fun e w' => Rets w (.int .i64 (if keyM (rstL W ts) y * btD ts x < keyM (rstL W ts) x * btD ts y then -1 else if keyM (rstL W ts) x * btD ts y < keyM (rstL W ts) y * btD ts x then 1 else 0)) e w' := by
  obtain ⟨i, rfl⟩ := Int.eq_ofNat_of_zero_le x0
  obtain ⟨j, rfl⟩ := Int.eq_ofNat_of_zero_le y0
  have hi : i < ts.length := by omega
  have hj : j < ts.length := by omega
  have hl12 := DH.l2
  have ei : keyM (rstL W ts) (i : Int) = W * (ts.getD i default).2.1 % (ts.getD i default).2.2 := by rw [← rst_get W ts i hi]; simp [keyM]
  have ej : keyM (rstL W ts) (j : Int) = W * (ts.getD j default).2.1 % (ts.getD j default).2.2 := by rw [← rst_get W ts j hj]; simp [keyM]
  rw [ei, ej, bt_get ts i hi, bt_get ts j hj]
  obtain ⟨b, off, rfl, ci0, ci1, ci2⟩ := hc i hi
  obtain ⟨b', off', e', cj0, cj1, cj2⟩ := hc j hj
  cases e'
  obtain ⟨mi1, mi2, mi3, mi4, _⟩ := DH.mem _ (getD_mem3' hi)
  obtain ⟨mj1, mj2, mj3, mj4, _⟩ := DH.mem _ (getD_mem3' hj)
  clear ei ej DH ci0 cj0
  generalize ts.getD i default = ta at *
  generalize ts.getD j default = tb at *
  obtain ⟨_, pa, qa⟩ := ta
  obtain ⟨_, pb, qb⟩ := tb
  simp only at ci1 ci2 cj1 cj2 mi1 mi2 mi3 mi4 mj1 mj2 mj3 mj4
  have l2 := World.block_lt_of_cell? _ _ k2
  have l3 := World.block_lt_of_cell? _ _ k3
  have l6 := World.block_lt_of_cell? _ _ ci1
  simp at l2 l3 l6
  have ma := mulb hw.1 hw.2 (show 0 ≤ pa by omega) mi2
  have mb := mulb hw.1 hw.2 (show 0 ≤ pb by omega) mj2
  have s1 : IntKind.i64.wrap (W * pa) = W * pa := IntWalk.i64_in _ (by omega)
  have s2 : IntKind.i64.wrap (W * pb) = W * pb := IntWalk.i64_in _ (by omega)
  have s3 : ¬ qa = 0 := by omega
  have s3' : ¬ qb = 0 := by omega
  have s4 : (W * pa).tmod qa = W * pa % qa := Int.tmod_eq_emod_of_nonneg ma.1
  have s5 : (W * pb).tmod qb = W * pb % qb := Int.tmod_eq_emod_of_nonneg mb.1
  have r1 := Int.emod_nonneg (W * pa) s3
  have r2 := Int.emod_lt_of_pos (W * pa) (show 0 < qa by omega)
  have r3 := Int.emod_nonneg (W * pb) s3'
  have r4 := Int.emod_lt_of_pos (W * pb) (show 0 < qb by omega)
  have s6 : IntKind.i64.wrap (W * pa % qa) = W * pa % qa := IntWalk.i64_in _ (by omega)
  have s7 : IntKind.i64.wrap (W * pb % qb) = W * pb % qb := IntWalk.i64_in _ (by omega)
  have m1 := mulb r1 (show W * pa % qa ≤ 10000 by omega) (show 0 ≤ qb by omega) mj4
  have m2 := mulb r3 (show W * pb % qb ≤ 10000 by omega) (show 0 ≤ qa by omega) mi4
  have s8 : IntKind.i64.wrap (W * pa % qa * qb) = W * pa % qa * qb := IntWalk.i64_in _ (by omega)
  have s9 : IntKind.i64.wrap (W * pb % qb * qa) = W * pb % qb * qa := IntWalk.i64_in _ (by omega)
  have i1 : (i : Int) < (ts.length : Int) := by omega
  have i2 : (j : Int) < (ts.length : Int) := by omega
  go_enter Try.func65, Try.ntmps65
  go_wp2
  go_region
  all_goals
    generalize hwz : World.drew (World.alloc (World.alloc w _) _) = w1
    obtain ⟨hX, hZ, hb1, hsz⟩ := two_fr hwz
    clear hwz
    have k2' := cellB hb1 k2
    have k3' := cellB hb1 k3
    have x0' := cell_of_block hX 0
    have x1' := cell_of_block hX 1
    have z0' := cell_of_block hZ 0
    have z1' := cell_of_block hZ 1
    simp at x0' x1' z0' z1'
    have lx : w.heap.size < w1.heap.size := by omega
    have lz : w.heap.size + 1 < w1.heap.size := by omega
    have l2' : b2 < w1.heap.size := by omega
    have l3' : b3 < w1.heap.size := by omega
    clear k2 k3 ci1 ci2 cj1 cj2 hX hZ hsz
    go_wp2
    (refine wp_region_g [0, 1, 2, 3, 4, 5, 6, 7, 8, 9, 10, 11, 12, 13, 14, 15, 16, 17, 18, 19, 20, 21] [] (by kernel_rfl) (by kernel_rfl) ?_; simp only [pick, List.map_cons, List.map_nil, Array.getD_eq_getD_getElem?, List.getElem?_toArray, List.getElem?_cons_zero, List.getElem?_cons_succ, Option.getD_some]; (iterate 22 (refine wpG_step (fun K hK => ?_); go_simp; first | (refine hK _ ?_; clear hK K) | (apply Exists.intro; refine ⟨fun _ => ?_, hK _ ?_⟩; ((go_at_call 66; exact same_g (cmp_int _ _ _))); clear hK K))); refine wpG_nil ?_)
    intro w2 hb2
    go_wp2
    all_goals (go_ret; exact ⟨rfl, belT hb1 (below_of_inC hb2)⟩)

end Go.Proofs.Ytjcoajaoofjjmaa
