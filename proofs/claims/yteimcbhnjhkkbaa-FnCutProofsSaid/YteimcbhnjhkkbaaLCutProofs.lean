/- The walk of the law CutProofs. -/
import Derived.Test.YteimcbhnjhkkbaaCutL
import Derived.Test.YteimcbhnjhkkbaaNetDraw2
import Derived.Test.YteimcbhnjhkkbaaRegL
import Derived.Deep.DeepCutAuto
import Derived.Deep.CutBlock
namespace Go.Proofs.Yteimcbhnjhkkbaa
set_option linter.unusedSimpArgs false
set_option linter.unusedVariables false
open Go.RowKit

def atM (bs : List Int) (i : Int) : Int := if bs.length = 0 then 0 else bs.getD ((i * 5 + 1) % (bs.length : Int)).toNat 0
theorem atM_bd {w : World} {a : Option Addr} {bs : List Int} (hr : Rd8 w a bs) (i : Int) (h0 : 0 ≤ i) : 0 ≤ atM bs i ∧ atM bs i ≤ 255 := by
  unfold atM
  split
  · omega
  · rename_i hb
    have m0 := Int.emod_nonneg (i * 5 + 1) (show (bs.length : Int) ≠ 0 by omega)
    have m1 := Int.emod_lt_of_pos (i * 5 + 1) (show (0 : Int) < bs.length by omega)
    obtain ⟨b, off, _, _, y0, y1⟩ := hr ((i * 5 + 1) % (bs.length : Int)).toNat (by omega)
    exact ⟨y0, y1⟩
theorem atX (a : Option Addr) (cap : Nat) (bs : List Int) (i : Int) (w : World) (hr : Rd8 w a bs) (hl : bs.length ≤ 1048576) (h0 : 0 ≤ i) (h1 : i ≤ 100) :
    Calls Try.prog 17 #[.slice a bs.length cap, .int .i64 i] w fun e w' => e = .returned (.int .i64 (atM bs i)) ∧ w = w' := by
  by_cases hb : bs.length = 0
  · have hz : ((bs.length : Int) == 0) = true := by simp [hb]
    have HM := hide (show atM bs i = 0 by simp [atM, hb])
    go_enter Try.func17, Try.ntmps17
    go_wp2
    go_ret
    exact ⟨ret_int HM.out.symm, rfl⟩
  · have hz : ((bs.length : Int) == 0) = false := by rw [beq_eq_false_iff_ne]; omega
    have hp : (0 : Int) < bs.length := by omega
    have m0 := Int.emod_nonneg (i * 5 + 1) (show (bs.length : Int) ≠ 0 by omega)
    have m1 := Int.emod_lt_of_pos (i * 5 + 1) hp
    obtain ⟨k, hk⟩ := Int.eq_ofNat_of_zero_le m0
    have HM := hide (show atM bs i = bs.getD k 0 by unfold atM; rw [if_neg hb, hk, Int.toNat_natCast])
    obtain ⟨b, off, rfl, cb, y0, y1⟩ := hr k (by omega)
    have e1 : (i * 5 + 1).tmod (bs.length : Int) = (k : Int) := by rw [Int.tmod_eq_emod_of_nonneg (by omega)]; exact hk
    have hkl : (k : Int) < bs.length := by omega
    have hk0 : (0 : Int) ≤ (k : Int) := by omega
    clear m0 m1
    generalize bs.getD k 0 = y at *
    go_enter Try.func17, Try.ntmps17
    go_wp2
    go_ret
    exact ⟨ret_int HM.out.symm, rfl⟩

theorem has_any (a : Option Addr) (cap : Nat) (xs : List Int) (z : Int) (w : World) (hc : Rd w a xs) (hn : xs.length ≤ 1048576) :
    Calls Try.prog 20 #[.slice a xs.length cap, .int .i64 z] w fun e w' => e = .returned (.bool (decide (z ∈ xs))) ∧ w = w' := by
  go_enter Try.func20, Try.ntmps20
  go_wp2
  go_loop [5] (fun i => ∃ k : Nat, k ≤ xs.length ∧ i = .int .i64 k ∧ Hid (decide (z ∈ xs) = decide (z ∈ xs.drop k))) (fun i => xs.length - (intOf i).toNat)
  case atStart => exact ⟨0, Nat.zero_le _, rfl, hide rfl⟩
  case round =>
    obtain ⟨k, hk, rfl, HR⟩ := hrel
    by_cases hlt : k < xs.length
    · obtain ⟨b, off, rfl, hcell⟩ := hc k hlt
      have HD := hide (drop_getD xs k hlt)
      generalize xs.getD k 0 = x at *
      have kl : (k : Int) < (xs.length : Int) := by omega
      by_cases hx : x = z
      · subst hx
        go_wp2
        go_ret
        exact ⟨ret_bool (by rw [HR.out, HD.out]; simp), rfl⟩
      · have hb : (x == z) = false := by simp [hx]
        go_wp2
        go_round
        case rel => exact ⟨k + 1, by omega, by go_num, hide (by rw [HR.out, HD.out]; apply decide_eq_decide.2; simp; intro e; exact absurd e.symm hx)⟩
        case measure => simp [intOf]; omega
    · go_wp2
      go_ret
      exact ⟨ret_bool (by rw [HR.out, List.drop_of_length_le (by omega)]; simp), rfl⟩

set_option maxRecDepth 100000 in
set_option maxHeartbeats 40000000 in
theorem law_CutProofs (a : Option Addr) (cap : Nat) (bs : List Int) (w : World) (hr : Rd8 w a bs) (hm : bs.length ≤ 9223372036854775807) :
    Calls Try.prog 3 #[.slice a bs.length cap] w fun e w' => Rets w (.bool true) e w' := by
  by_cases hl : bs.length ≤ 1048576
  case neg =>
    have hd : decide (1048576 < bs.length) = true := by simp; omega
    have HB := hide (show ∀ W, Calls Try.prog 8 #[.slice a bs.length cap] W fun e w' => e = .returned (.bool true) ∧ W = w' from fun W => by rw [← hd]; exact big_any a bs.length cap W hm)
    clear hd
    go_enter Try.func3, Try.ntmps3
    go_wp2_with fail
    refine (HB.out _).mono ?_
    rintro e w' ⟨rfl, rfl⟩
    go_wp2
    go_ret
    exact ⟨rfl, Below.refl _ _⟩
  have hd : decide (1048576 < bs.length) = false := by simp; omega
  have HB := hide (show ∀ W, Calls Try.prog 8 #[.slice a bs.length cap] W fun e w' => e = .returned (.bool false) ∧ W = w' from fun W => by rw [← hd]; exact big_any a bs.length cap W hm)
  clear hd
  go_enter Try.func3, Try.ntmps3
  go_wp2_with fail
  refine (HB.out _).mono ?_
  rintro e w' ⟨rfl, rfl⟩
  go_wp2_with fail
  refine (DrawNetEnds_any a cap bs w hr hl).mono ?_
  rintro e w1 ⟨p, av, cv, ts, x, y, rfl, htw, n9, p6, hcv, hrd, hb1⟩
  have hn : ts.length ≤ 1048576 := by omega
  have hF := cut_ok htw
  obtain ⟨⟨p1, p2⟩, _, ⟨x0, x1⟩, ⟨y0, y1⟩, _⟩ := twoM_parts htw
  have hl' : (findM p ts x y).length = ts.length := hF.len
  have hg0 : 0 ≤ greatM p ts x y := by
    have := (great_bd p ts x y).1
    have h1 := (find_spec (netP_two htw).1).2.2
    simp only [greatM, htw, if_true, findM]; exact h1
  have HRD := hide (fun W (h : Below w1.heap.size w1 W) => hrd.below h)
  have CF := hide (fun W (h : Below w1.heap.size w1 W) => (show Calls Try.prog 11 #[.agg #[.int .i64 p, .slice av ts.length cv], .int .i64 x, .int .i64 y] W fun e w' => GivesIB (findM p ts x y) true W e w' by
    have := specFindFlow_any p x y av cv ts W (hrd.below h) hn; rw [htw] at this; exact this))
  have CG := hide (fun W (h : Below w1.heap.size w1 W) => specGreatest_any p x y av cv ts W (hrd.below h) hn)
  have CN := hide (fun W (h : Below w1.heap.size w1 W) => implNarrowestCut_any p x y av cv ts W (hrd.below h) hn)
  have CC := hide (fun W (h : Below w1.heap.size w1 W) (af : Option Addr) (capf : Nat) (hf : Rd W af (findM p ts x y)) => (show Calls Try.prog 13 #[.agg #[.int .i64 p, .slice av ts.length cv], .slice af ts.length capf, .int .i64 x, .int .i64 y] W fun e w' => Rets W (.int .i64 (cutOfM p ts (findM p ts x y) x y)) e w' by
    have := implCutOf_any p x y av af cv capf ts (findM p ts x y) W (hrd.below h) hf hn (by omega); rw [hl'] at this; exact this))
  have CP := hide (fun (s : Int) (hs : provesM p ts (findM p ts x y) s x y = true) W (h : Below w1.heap.size w1 W) (af : Option Addr) (capf : Nat) (hf : Rd W af (findM p ts x y)) => (show Calls Try.prog 16 #[.agg #[.int .i64 p, .slice av ts.length cv], .slice af ts.length capf, .int .i64 s, .int .i64 x, .int .i64 y] W fun e w' => Rets W (.bool true) e w' by
    have := implProvesGreatest_any p s x y av af cv capf ts (findM p ts x y) W (hrd.below h) hf hn (by omega); rw [hl', hs] at this; exact this))
  have CW := hide (fun (s v : Int) (hs : cutM p ts s = v) W (h : Below w1.heap.size w1 W) => (show Calls Try.prog 14 #[.agg #[.int .i64 p, .slice av ts.length cv], .int .i64 s] W fun e w' => Rets W (.int .i64 v) e w' by
    have := implCutWidth_any p s av cv ts W (hrd.below h) hn; rw [hs] at this; exact this))
  have CI := hide (fun (s : Int) (v : Bool) (hs : isCutM p ts s x y = v) W (h : Below w1.heap.size w1 W) => (show Calls Try.prog 15 #[.agg #[.int .i64 p, .slice av ts.length cv], .int .i64 s, .int .i64 x, .int .i64 y] W fun e w' => Rets W (.bool v) e w' by
    have := implIsCut_any p s x y av cv ts W (hrd.below h) hn; rw [hs] at this; exact this))
  have CD := hide (fun W (h : Below w1.heap.size w1 W) => implNeeded_any p x y av cv ts W (hrd.below h) hn)
  have CX := hide (fun W (k : Int) (h : Below w1.heap.size w1 W) => specWithoutPipe_any p k av cv ts W (hrd.below h) hn hcv)
  have CGX := hide (fun (W : World) (k : Nat) (a' : Option Addr) (c' : Nat) (h : Rd3 W a' (woutM p ts k)) => specGreatest_any p x y a' c' (woutM p ts k) W h (wout_length p ts k hn))
  have CH := hide (fun (W : World) (k : Nat) (hk : k < ts.length) (a' : Option Addr) (c' : Nat) (h : Rd W a' (needM p ts x y)) => (show Calls Try.prog 20 #[.slice a' (needM p ts x y).length c', .int .i64 k] W fun e w' => e = .returned (.bool (decide (greatM p (woutM p ts k) x y < greatM p ts x y))) ∧ W = w' by
    rw [← need_iff hg0 k hk]; exact has_any a' c' (needM p ts x y) k W h (needM_length p ts x y hn)))
  have HLF := hide hl'
  obtain ⟨s0, sw, sc, c0, cw, cc, pc, ps, hall, hnil, _⟩ := hF
  have CPc := hide (CP.out _ pc)
  have CPs := hide (CP.out _ ps)
  have CWs := hide (CW.out _ _ sw)
  have CWc := hide (CW.out _ _ cw)
  have CW0 := hide (CW.out _ _ hnil)
  have CIs := hide (CI.out _ _ sc)
  have CIc := hide (CI.out _ _ cc)
  have HAL := hide hall
  have HR8 := hide (hr.below hb1)
  have hv := atM_bd hr 0 (by omega)
  clear CP sw sc cw cc pc ps hnil hall htw hrd hr
  generalize findM p ts x y = fs at *
  generalize greatM p ts x y = G at *
  generalize cutOfM p ts fs x y = c at *
  generalize narrowM p ts x y = s at *
  have hbx := blk_new w1 #[.int .i64 p, .slice av ts.length cv] 26
  go_wp2_with fail
  (with_reducible refine (CG.out _ (belA (Below.refl _ _))).mono ?_)
  rintro e w2 ⟨rfl, hb2⟩
  have B2 := hide (belT (belA (Below.refl w1.heap.size w1)) hb2)
  have hx2 := heap_grow hbx hb2
  have CEL := hide (fun (W : World) (hW : Below w2.heap.size w2 W) => (show W.cell? ⟨w1.heap.size, 0, none⟩ = some (.int .i64 p) ∧ W.cell? ⟨w1.heap.size, 1, none⟩ = some (.slice av ts.length cv) by
    have h := heap_grow hx2 hW
    exact ⟨by have := cell_of_block h 0; simpa using this, by have := cell_of_block h 1; simpa using this⟩))
  obtain ⟨d0, d1⟩ := CEL.out w2 (Below.refl _ _)
  have cf := CF.out w2 B2.out
  clear hbx hb2 hx2 CG CF
  go_wp2_with fail
  (with_reducible refine cf.mono ?_)
  rintro e w3 ⟨vf, rfl, hof, hb3⟩
  obtain ⟨af, capf, rfl, hrf⟩ := hof.slice
  rw [HLF.out]
  have HRF := hide (fun W (h : Below w3.heap.size w3 W) => hrf.below h)
  have HX := hide (fun W (h : Below w3.heap.size w3 W) => (⟨B2.out.trans ((hb3.trans (h.mono hb3.size)).mono B2.out.size), hb3.trans (h.mono hb3.size)⟩ : Below w1.heap.size w1 W ∧ Below w2.heap.size w2 W))
  clear cf hof hrf d0 d1 hb3
  have HH3 := hide (Below.refl w3.heap.size w3)
  obtain ⟨d0, d1⟩ := CEL.out w3 (HX.out w3 HH3.out).2
  have ck := CN.out w3 (HX.out w3 HH3.out).1
  go_wp2_with fail
  (with_reducible refine ck.mono ?_)
  rintro e w4 ⟨rfl, hb⟩
  have HH4 := hide (HH3.out.trans (hb.mono HH3.out.size))
  clear ck hb d0 d1
  obtain ⟨d0, d1⟩ := CEL.out w4 (HX.out w4 HH4.out).2
  have ck := CC.out w4 (HX.out w4 HH4.out).1 af capf (HRF.out w4 HH4.out)
  go_wp2_with fail
  (with_reducible refine ck.mono ?_)
  rintro e w5 ⟨rfl, hb⟩
  have HH5 := hide (HH4.out.trans (hb.mono HH4.out.size))
  clear ck hb d0 d1
  obtain ⟨d0, d1⟩ := CEL.out w5 (HX.out w5 HH5.out).2
  have ck := CWs.out w5 (HX.out w5 HH5.out).1
  go_wp2_with fail
  (with_reducible refine ck.mono ?_)
  rintro e w6 ⟨rfl, hb⟩
  have HH6 := hide (HH5.out.trans (hb.mono HH5.out.size))
  clear ck hb d0 d1
  obtain ⟨d0, d1⟩ := CEL.out w6 (HX.out w6 HH6.out).2
  have ck := CIs.out w6 (HX.out w6 HH6.out).1
  go_wp2_with fail
  (with_reducible refine ck.mono ?_)
  rintro e w7 ⟨rfl, hb⟩
  have HH7 := hide (HH6.out.trans (hb.mono HH6.out.size))
  clear ck hb d0 d1
  obtain ⟨d0, d1⟩ := CEL.out w7 (HX.out w7 HH7.out).2
  have ck := CWc.out w7 (HX.out w7 HH7.out).1
  go_wp2_with fail
  (with_reducible refine ck.mono ?_)
  rintro e w8 ⟨rfl, hb⟩
  have HH8 := hide (HH7.out.trans (hb.mono HH7.out.size))
  clear ck hb d0 d1
  obtain ⟨d0, d1⟩ := CEL.out w8 (HX.out w8 HH8.out).2
  have ck := CPc.out w8 (HX.out w8 HH8.out).1 af capf (HRF.out w8 HH8.out)
  go_wp2_with fail
  (with_reducible refine ck.mono ?_)
  rintro e w9 ⟨rfl, hb⟩
  have HH9 := hide (HH8.out.trans (hb.mono HH8.out.size))
  clear ck hb d0 d1
  obtain ⟨d0, d1⟩ := CEL.out w9 (HX.out w9 HH9.out).2
  have ck := CPs.out w9 (HX.out w9 HH9.out).1 af capf (HRF.out w9 HH9.out)
  go_wp2_with fail
  (with_reducible refine ck.mono ?_)
  rintro e w10 ⟨rfl, hb⟩
  have HH10 := hide (HH9.out.trans (hb.mono HH9.out.size))
  clear ck hb d0 d1
  go_wp2
  obtain ⟨d0, d1⟩ := CEL.out w10 (HX.out w10 HH10.out).2
  have l0 := World.block_lt_of_cell? _ _ d0
  simp at l0
  obtain ⟨X1, X2⟩ := pow_bd x0 (show x ≤ 8 by omega)
  obtain ⟨P1, P2⟩ := pow_bd (show 0 ≤ p by omega) (show p ≤ 8 by omega)
  have HR10 := hide (fun W (h : Below w10.heap.size w10 W) => HR8.out.below ((HX.out w10 HH10.out).1.trans (h.mono (HX.out w10 HH10.out).1.size)))
  obtain ⟨v, hv'⟩ : ∃ v, v = atM bs 0 := ⟨_, rfl⟩
  have CA := hide (fun W (h : Below w10.heap.size w10 W) => (show Calls Try.prog 17 #[.slice a bs.length cap, .int .i64 0] W fun e w' => e = .returned (.int .i64 v) ∧ W = w' by rw [hv']; exact atX a cap bs 0 W (HR10.out W h) hl (by omega) (by omega)))
  rw [← hv'] at hv
  clear hv'
  have pz : ¬ (2 : Int) ^ p.toNat = 0 := by omega
  have wx : IntKind.i64.wrap (2 ^ x.toNat) = 2 ^ x.toNat := IntWalk.i64_in _ (by omega)
  have wp : IntKind.i64.wrap (2 ^ p.toNat) = 2 ^ p.toNat := IntWalk.i64_in _ (by omega)
  have tb : 0 ≤ v.tmod (2 ^ p.toNat) ∧ v.tmod (2 ^ p.toNat) ≤ 255 := by
    rw [Int.tmod_eq_emod_of_nonneg hv.1]
    have h1 := Int.emod_nonneg v pz
    have h2 := Int.emod_lt_of_pos v (show (0 : Int) < 2 ^ p.toNat by omega)
    omega
  have tw : IntKind.i64.wrap (v.tmod (2 ^ p.toNat)) = v.tmod (2 ^ p.toNat) := IntWalk.i64_in _ (by omega)
  (refine wp_region_g [0, 1, 2, 3, 4, 5, 6, 7, 8, 9] [] (by kernel_rfl) (by kernel_rfl) ?_; simp only [pick, List.map_cons, List.map_nil, Array.getD_eq_getD_getElem?, List.getElem?_toArray, List.getElem?_cons_zero, List.getElem?_cons_succ, Option.getD_some]; (iterate 10 (refine wpG_step (fun K hK => ?_); go_simp; first | (refine hK _ ?_; clear hK K) | (apply Exists.intro; refine ⟨fun _ => ?_, hK _ ?_⟩; ((go_at_call 17; exact same_g (CA.out _ (below_grew _ _)))); clear hK K))); refine wpG_nil ?_)
  intro w11 hb11'
  have HH11 := hide (HH10.out.trans ((below_of_inC hb11').mono HH10.out.size))
  clear hb11' d0 d1 l0
  clear wx wp tw tb pz X1 X2 P1 P2
  obtain ⟨q, hq⟩ : ∃ q, q = bits .or .i64 (2 ^ x.toNat) (v.tmod (2 ^ p.toNat)) := ⟨_, rfl⟩
  rw [← hq]
  clear hq
  obtain ⟨iq, hiq⟩ : ∃ iq, iq = isCutM p ts q x y := ⟨_, rfl⟩
  have ci := CI.out q iq hiq.symm w11 (HX.out w11 HH11.out).1
  have cwq := hide (CW.out q (cutM p ts q) rfl)
  have hal : iq = true → G ≤ cutM p ts q := fun e => by
    have := HAL.out q (by rw [← hiq]; exact e); omega
  clear hiq
  obtain ⟨d0, d1⟩ := CEL.out w11 (HX.out w11 HH11.out).2
  go_upto_region 11 with fail
  go_cut [110] (fun v wx => v = .bool false ∧ Hid (Below w3.heap.size w3 wx))
  case first =>
    go_wp2_with fail
    (with_reducible refine ci.mono ?_)
    rintro e w12 ⟨rfl, hb⟩
    have HH12 := hide (HH11.out.trans (hb.mono HH11.out.size))
    obtain ⟨e0, e1⟩ := CEL.out w12 (HX.out w12 HH12.out).2
    have ck := cwq.out w12 (HX.out w12 HH12.out).1
    clear hb d0 d1 ci
    cases iq with
    | false =>
      clear ck
      go_wp2
      go_meet
      case rel => exact ⟨rfl, HH12⟩
    | true =>
      have hge := hal rfl
      clear hal
      generalize cutM p ts q = qw at *
      go_wp2_with fail
      (with_reducible refine ck.mono ?_)
      rintro e w13 ⟨rfl, hb⟩
      have HH13 := hide (HH12.out.trans (hb.mono HH12.out.size))
      have hlt : decide (qw < G) = false := decide_eq_false (by omega)
      clear hb e0 e1 ck
      go_wp2
      go_meet
      case rel => exact ⟨rfl, HH13⟩
  case rest =>
  obtain ⟨rfl, HHc⟩ := hcut
  obtain ⟨e0, e1⟩ := CEL.out wc (HX.out wc HHc.out).2
  have cd := CD.out wc (HX.out wc HHc.out).1
  clear ci cwq hal d0 d1 HH11
  go_wp2_with fail
  (with_reducible refine cd.mono ?_)
  rintro e w14 ⟨vd, rfl, hod, hb⟩
  obtain ⟨ad, cd', rfl, hrdN⟩ := hod.slice
  have HH14 := hide (HHc.out.trans (hb.mono HHc.out.size))
  have HND := hide (fun W (h : Below w14.heap.size w14 W) => hrdN.below h)
  have CHk := hide (fun (W : World) (k : Nat) (hk : k < ts.length) (h : Below w14.heap.size w14 W) => CH.out W k hk ad cd' (hrdN.below h))
  clear hb hod hrdN cd e0 e1 CH CD
  generalize (needM p ts x y).length = nl at *
  go_wp2
  go_loopw [13] (fun i wr => ∃ k : Nat, k ≤ ts.length ∧ i = .int .i64 k ∧ Hid (Below w14.heap.size w14 wr)) (fun i _ => ts.length - (intOf i).toNat)
  case atStart => exact ⟨0, Nat.zero_le _, rfl, hide (Below.refl _ _)⟩
  case round =>
    obtain ⟨k, hk, rfl, HB⟩ := hrel
    have HHr := hide (HH14.out.trans (HB.out.mono HH14.out.size))
    obtain ⟨e0, e1⟩ := CEL.out wr (HX.out wr HHr.out).2
    have l0 := World.block_lt_of_cell? _ _ e0
    simp at l0
    by_cases hlt : k < ts.length
    · have cx := CX.out wr (k : Int) (HX.out wr HHr.out).1
      have gb := great_bd p (woutM p ts k) x y
      go_wp2_with fail
      (with_reducible refine cx.mono ?_)
      rintro e w15 ⟨vx, rfl, hh, hb⟩
      obtain ⟨ax, cx', rfl, hrx, _⟩ := hh.slice
      have H15 := hide (HB.out.trans (hb.mono HB.out.size))
      clear cx hb hh e0 e1 l0
      have chk := hide (fun (W : World) (h : Below w14.heap.size w14 W) => CHk.out W k hlt h)
      have cgx := hide (fun (W : World) (h : Rd3 W ax (woutM p ts k)) => CGX.out W k ax cx' h)
      generalize greatM p (woutM p ts k) x y = gk at *
      go_wp2
      obtain ⟨W16, hW16⟩ : ∃ W16, W16 = w15.alloc (.cells #[.int .i64 p, .slice ax (woutM p ts k).length cx'] 26) := ⟨_, rfl⟩
      have bw16 : Below w15.heap.size w15 W16 := by subst hW16; exact belA (Below.refl _ _)
      have hbk : W16.heap[w15.heap.size]? = some (.cells #[.int .i64 p, .slice ax (woutM p ts k).length cx'] 26 (0, 0)) := by subst hW16; exact blk_new w15 _ _
      rw [← hW16]
      clear hW16
      have H16 := hide (H15.out.trans (bw16.mono H15.out.size))
      have HRX := hide (fun W (h : Below W16.heap.size W16 W) => hrx.below (bw16.trans (h.mono bw16.size)))
      have k0 := cell_of_block hbk 0
      have k1 := cell_of_block hbk 1
      simp at k0 k1
      have l1 := World.block_lt_of_cell? _ _ k0
      simp at l1
      clear hbk hrx
      generalize w15.heap.size = xb at *
      (refine wp_region_g [0, 1, 2, 3, 4, 5, 6, 7, 8, 9] [] (by kernel_rfl) (by kernel_rfl) ?_; simp only [pick, List.map_cons, List.map_nil, Array.getD_eq_getD_getElem?, List.getElem?_toArray, List.getElem?_cons_zero, List.getElem?_cons_succ, Option.getD_some]; (iterate 10 (refine wpG_step (fun K hK => ?_); go_simp; first | (refine hK _ ?_; clear hK K) | (apply Exists.intro; refine ⟨fun _ => ?_, hK _ ?_⟩; ((first | (go_at_call 20; exact same_g (chk.out _ (H16.out.trans ((below_grew _ _).mono H16.out.size)))) | (go_at_call 10; exact cgx.out _ (HRX.out _ (below_grew _ _))))); clear hK K))); refine wpG_nil ?_)
      intro w17 hb17
      have H17 := hide (H16.out.trans ((below_of_inC hb17).mono H16.out.size))
      clear hb17 k0 k1 l1
      go_wp2
      go_roundw
      case rel => exact ⟨k + 1, by omega, by go_num, H17⟩
      case measure => simp [intOf]; omega
    · clear hk
      have ci := CIc.out wr (HX.out wr HHr.out).1
      go_wp2_with fail
      (with_reducible refine ci.mono ?_)
      rintro e w15 ⟨rfl, hb⟩
      have HH15 := hide (HHr.out.trans (hb.mono HHr.out.size))
      obtain ⟨d0, d1⟩ := CEL.out w15 (HX.out w15 HH15.out).2
      have ck := CW0.out w15 (HX.out w15 HH15.out).1
      clear ci hb e0 e1 l0
      go_wp2_with fail
      (with_reducible refine ck.mono ?_)
      rintro e w16 ⟨rfl, hb⟩
      have HH16 := hide (HH15.out.trans (hb.mono HH15.out.size))
      have BZ := hide (hb1.trans ((HX.out w16 HH16.out).1.mono hb1.size))
      clear ck hb d0 d1
      go_wp2
      go_ret
      exact ⟨rfl, BZ.out⟩

end Go.Proofs.Yteimcbhnjhkkbaa
