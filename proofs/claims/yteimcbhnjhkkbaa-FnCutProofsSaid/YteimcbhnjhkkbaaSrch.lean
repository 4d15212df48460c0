/- The breadth search of the reference. -/
import Derived.Test.YteimcbhnjhkkbaaSrchB
import Derived.Test.YteimcbhnjhkkbaaAppL
import Derived.Deep.DeepCutAuto
import Derived.Deep.CutBlock
namespace Go.Proofs.Yteimcbhnjhkkbaa
set_option linter.unusedSimpArgs false
set_option linter.unusedVariables false
open Go.RowKit

theorem fill1_step (n k : Nat) (h : k < n) : (List.replicate k (-1 : Int) ++ List.replicate (n - k) 0).set k (-1) = List.replicate (k + 1) (-1) ++ List.replicate (n - (k + 1)) 0 := by
  rw [show n - k = (n - (k + 1)) + 1 by omega, List.replicate_succ, List.set_append_right _ _ (by simp), List.length_replicate, Nat.sub_self, List.set_cons_zero, List.replicate_succ' (n := k), List.append_assoc]
  rfl

/-- Where the walk of the search stands: the net's box at b, what was found at b + 1, the list in its own blocks. -/
structure SrS (b : Nat) (w0 : World) (s : St) (v : Value) (M : Int) (wr : World) : Prop where
  own : OwnsI (b + 2) wr v s.1
  by_ : OwnI wr (b + 1) 3 s.2
  mask : MaskOk M s.1
  bel : Below (b + 1) w0 wr
  sz : b + 2 ≤ wr.heap.size

theorem OwnI.heap {w w' : World} {g : Nat} {T : TypeId} {xs : List Int} (h : OwnI w g T xs) (e : w'.heap[g]? = w.heap[g]?) : OwnI w' g T xs := by
  unfold OwnI at *; rw [e]; exact h

theorem SrS.below {b : Nat} {w0 wr wx : World} {s : St} {v : Value} {M : Int} (h : SrS b w0 s v M wr) (hb : Below wr.heap.size wr wx) : SrS b w0 s v M wx :=
  ⟨h.own.below hb, h.by_.below hb, h.mask, h.bel.trans (hb.mono (by have := h.sz; omega)), Nat.le_trans h.sz hb.size⟩

/-- A place z is found over code c: the bit, the code, the list. -/
theorem SrS.found {b : Nat} {w0 wr w2 : World} {s : St} {v : Value} {M : Int} {z c : Int} {g cap m : Nat} (h : SrS b w0 s v M wr) (z0 : 0 ≤ z) (z7 : z ≤ 7) (hm : m = s.1.length + 1)
    (hown : OwnsI (b + 2) w2 (.slice (some ⟨g, 0, none⟩) m cap) (s.1 ++ [z])) (hg : (wr.setCell ⟨b + 1, z.toNat, none⟩ (.int .i64 c)).grownBy w2 v.ownBlock) :
    SrS b w0 (s.1 ++ [z], s.2.set z.toNat c) (.slice (some ⟨g, 0, none⟩) m cap) (bits .or .i64 M (2 ^ z.toNat)) w2 := by
  have hsz := h.sz
  have hov : ∀ k, v.ownBlock = some k → b + 2 ≤ k := fun k hk => (h.own.lt k hk).1
  refine ⟨hown, ?_, h.mask.add z0 z7, ?_, ?_⟩
  · refine (h.by_.set z.toNat c).heap ?_
    exact hg.block (b + 1) (by simp; omega) (fun e => by have := hov (b + 1) e.symm; omega)
  · exact (h.bel.grown (grownBy_set _ (b + 1) z.toNat (.int .i64 c)) (by omega) (fun k hk => by injection hk with hk; omega)).grown hg (by simp; omega) (fun k hk => by have := hov k hk; omega)
  · have := hg.size; simp at this; omega

set_option maxRecDepth 100000 in
set_option maxHeartbeats 8000000 in
theorem l09Search_any (n : Nat) (x : Int) (a af : Option Addr) (cap capf : Nat) (ts : List T3) (fs : List Int) (w : World) (hc : Rd3 w a ts) (hf : Rd w af fs) (hk : netOk (n : Int) ts = true) (x0 : 0 ≤ x) (x1 : x ≤ n - 1) (hl : fs.length = ts.length) :
    Calls Try.prog 38 #[.agg #[.int .i64 n, .slice a ts.length cap], .slice af fs.length capf, .int .i64 x] w fun e w' => ∃ g, w.heap.size ≤ g ∧ e = .returned (.slice (some ⟨g, 0, none⟩) n n) ∧ OwnI w' g 3 (bfs n ts fs x).2 ∧ Below w.heap.size w w' := by
  obtain ⟨p1, p2, hl20, hall⟩ := netOk_parts hk
  have HA := hide hall
  have HP := hide (inP_of hk)
  have hmk := make_ints 30 Try.underlying30 n (by omega)
  have HF := hide (show bfs n ts fs x = bRun ts fs n 0 ([x], List.replicate n (-1)) from rfl)
  have HST := hide (start_inv ts fs (p := n) x0 (by omega))
  have HL := hide hl
  clear hall hk hl
  go_enter Try.func38, Try.ntmps38
  go_wp2
  have hz := own_zero (w.alloc (.cells #[.int .i64 n, .slice a ts.length cap] 26)) 3 n
  rw [World.size_alloc] at hz
  obtain ⟨wB, hwB⟩ : ∃ wB, wB = w.alloc (.cells #[.int .i64 n, .slice a ts.length cap] 26) := ⟨_, rfl⟩
  have hbx : BoxN wB w.heap.size n a ts.length cap := by subst hwB; exact blk_new w _ _
  have hwz : wB.heap.size = w.heap.size + 1 := by subst hwB; simp
  have hwb : Below w.heap.size w wB := by subst hwB; exact belA (Below.refl _ _)
  have hcB := hide (show Rd3 wB a ts from hc.below hwb)
  have hfB := hide (show Rd wB af fs from hf.below hwb)
  rw [← hwB] at hz ⊢
  clear hmk hwB hc hf
  generalize hb : w.heap.size = b at *
  have CEL := hide (fun (W : World) (hW : Below (b + 1) wB W) => (show W.cell? ⟨b, 0, none⟩ = some (.int .i64 n) ∧ W.cell? ⟨b, 1, none⟩ = some (.slice a ts.length cap) by
    have h := hbx.below hW (by omega)
    exact ⟨by have := cell_of_block h 0; simpa using this, by have := cell_of_block h 1; simpa using this⟩))
  go_loopw [8] (fun i wr => ∃ k : Nat, k ≤ n ∧ i = .int .i64 k ∧ OwnI wr (b + 1) 3 (List.replicate k (-1) ++ List.replicate (n - k) 0) ∧ Below (b + 1) wB wr ∧ b + 2 ≤ wr.heap.size) (fun i _ => n - (intOf i).toNat)
  case atStart => exact ⟨0, Nat.zero_le _, rfl, by simpa using hz, (Below.refl _ _).alloc (by omega) _, by simp; omega⟩
  case round =>
    clear hz
    obtain ⟨k, hk, rfl, hown, hbel, hsz⟩ := hrel
    obtain ⟨c0, c1⟩ := CEL.out _ hbel
    have l0 := World.block_lt_of_cell? _ _ c0
    simp at l0
    by_cases hlt : k < n
    · have hset := hown.set k (-1)
      rw [fill1_step n k hlt] at hset
      have ho := hown.cell k (by simp; omega)
      have hfz := frozen_of_block hown k
      generalize List.getD _ k 0 = y at ho
      have hbel2 : Below (b + 1) wB (wr.setCell ⟨b + 1, k, none⟩ (.int .i64 (-1))) := hbel.setCell (by simp) _
      go_wp2
      go_roundw
      case rel => exact ⟨k + 1, by omega, by go_num, hset, hbel2, by simpa using hsz⟩
      case measure => simp [intOf]; omega
    · have hkn : k = n := by omega
      subst hkn
      rw [show k - k = 0 by omega, List.replicate_zero, List.append_nil] at hown
      obtain ⟨w1, w2⟩ := pow_bd x0 (show x ≤ 8 by omega)
      go_wp2
      clear c0 c1 l0
      have own1 := OwnsI.one (b + 2) wr x hsz
      obtain ⟨wC, hwC⟩ : ∃ wC, wC = wr.alloc (.cells #[.int .i64 x] 3) := ⟨_, rfl⟩
      have hS : SrS b wB ([x], List.replicate k (-1)) (.slice (some ⟨wr.heap.size, 0, none⟩) 1 1) (2 ^ x.toNat) wC := by
        rw [← hwC] at own1
        refine ⟨own1, ?_, MaskOk.start x0 (by omega), ?_, ?_⟩
        · rw [hwC]; exact hown.below (belA (Below.refl _ _))
        · rw [hwC]; exact hbel.alloc (by omega) _
        · rw [hwC]; simp; omega
      rw [← hwC]
      clear own1 hwC hown
      have HS := hide hS
      clear hS
      generalize (2 : Int) ^ x.toNat = M0 at *
      go_loopw [9, 10, 11] (fun v m i wr => ∃ (j : Nat) (s : St) (M : Int), j ≤ s.1.length ∧ i = .int .i64 j ∧ m = .int .i64 M ∧ Hid (SrS b wB s v M wr) ∧ Hid (BInv k ts fs x s) ∧ Hid (bfs k ts fs x = bRun ts fs (k - j) j s)) (fun _ _ i _ => k - (intOf i).toNat)
      case atStart => exact ⟨0, _, M0, Nat.zero_le _, rfl, rfl, HS, HST, HF⟩
      case round =>
        clear HS HF
        obtain ⟨j, s, M, hj, rfl, rfl, HS, HI, HR⟩ := hrel
        have hsl := nodup_len k s.1 HI.out.nodup HI.out.rng
        by_cases hjs : j < s.1.length
        · rcases HS.out.own.cases with ⟨_, h0⟩ | ⟨g, cg, rfl, hgb, hown⟩
          · rw [h0] at hjs; simp at hjs
          have hcell := hown.cell j hjs
          have HAT := hide (show bfs k ts fs x = bRun ts fs (k - (j + 1)) (j + 1) (bAll (s.1.getD j 0) 0 ts fs s) by
            rw [HR.out, bRun_step ts fs _ _ s hjs (by omega)]; rfl)
          obtain ⟨hat0, hat7⟩ := HI.out.rng _ (getD_memI hjs)
          have jl : (j : Int) < (s.1.length : Int) := by omega
          have HAE := hide (all_inv0 HP.out HL.out HI.out hjs)
          have HSL := hide hjs
          have jk : j < k := by omega
          have HEX := hide (Ext.refl s)
          have HAT2 := hide (show s.1.getD j 0 = s.1.getD j 0 from rfl)
          clear HR hown hsl
          generalize hat : s.1.getD j 0 = at_ at *
          have HATE := hide hat
          clear hat
          go_wp2
          clear hcell
          have HB0 := hide (show bAll at_ 0 ts fs s = bAll at_ 0 (ts.drop 0) (fs.drop 0) s from rfl)
          go_loopw [9, 10, 13] (fun v m i wq => ∃ (q : Nat) (t : St) (M : Int), q ≤ ts.length ∧ i = .int .i64 q ∧ m = .int .i64 M ∧ Hid (SrS b wB t v M wq) ∧ Hid (BInv k ts fs x t) ∧ Hid (Ext s t) ∧ Hid (bAll at_ 0 ts fs s = bAll at_ q (ts.drop q) (fs.drop q) t)) (fun _ _ i _ => ts.length - (intOf i).toNat)
          case atStart => exact ⟨0, s, M, Nat.zero_le _, rfl, rfl, HS, HI, HEX, HB0⟩
          case round =>
            clear HS HI HEX HB0
            obtain ⟨q, t, M, hq, rfl, rfl, HS, HI, HEX, HB⟩ := hrel
            have hbw := HS.out.bel
            have hbsz := HS.out.sz
            obtain ⟨c0, c1⟩ := CEL.out _ hbw
            have l0 := World.block_lt_of_cell? _ _ c0
            simp at l0
            have hbq : Below wB.heap.size wB wr := by rw [hwz]; exact hbw
            by_cases hqt : q < ts.length
            · obtain ⟨b1, off1, rfl, hp0, hp1, hp2⟩ := hcB.out.below hbq q hqt
              obtain ⟨b2, off2, rfl, hf0⟩ := hfB.out.below hbq q (by rw [HL.out]; exact hqt)
              have HB2 := hide (show bAll at_ 0 ts fs s = bAll at_ (q + 1) (ts.drop (q + 1)) (fs.drop (q + 1)) (bBack at_ q (ts.getD q default) (fs.getD q 0) (bFwd at_ q (ts.getD q default) (fs.getD q 0) t)) by
                rw [HB.out, bAll_step at_ ts fs q t hqt (by rw [HL.out]; exact hqt), bOne_eq])
              have HF1 := hide (fwd_inv HI.out HP.out hqt (HEX.out.get HSL.out).1 ((HEX.out.get HSL.out).2.trans HATE.out))
              have HF2 := hide (back_inv HF1.out.1 HP.out hqt (HF1.out.2.get (HEX.out.get HSL.out).1).1 ((HF1.out.2.get (HEX.out.get HSL.out).1).2.trans ((HEX.out.get HSL.out).2.trans HATE.out)))
              obtain ⟨m1, m2, m3, m4, m5, m6, m7⟩ := pipeOk_iff.1 (HA.out _ (getD_mem3 hqt))
              have hfl : (q : Int) < (fs.length : Int) := by rw [HL.out]; omega
              have i0 : (0 : Int) ≤ (q : Int) := by omega
              have HTL := hide (nodup_len k t.1 HI.out.nodup HI.out.rng)
              have HI1 := HI
              clear HB HI
              generalize ts.getD q default = u at *
              generalize hfe : fs.getD q 0 = f at *
              have HFQ := hide hfe
              clear hfe
              obtain ⟨y1, y2, z⟩ := u
              simp only at hp0 hp1 hp2 m1 m2 m3 m4 m5 m6 m7
              obtain ⟨y1, rfl⟩ := Int.eq_ofNat_of_zero_le m1
              obtain ⟨y2, rfl⟩ := Int.eq_ofNat_of_zero_le m3
              have hm1 := memB_0 (HS.out.mask.mem m3 (show (y2 : Int) ≤ 7 by omega))
              rw [Int.toNat_natCast] at hm1
              have bl1 := World.block_lt_of_cell? _ _ hp0
              have bl2 := World.block_lt_of_cell? _ _ hf0
              simp at bl1 bl2
              have iq : (q : Int) < (ts.length : Int) := by omega
              go_wp2
              obtain ⟨w1, hw1⟩ : ∃ w1, w1 = wr.alloc (.cells #[.int .i64 y1, .int .i64 y2, .int .i64 z] 60) := ⟨_, rfl⟩
              have ka : w1.heap[wr.heap.size]? = some (.cells #[.int .i64 y1, .int .i64 y2, .int .i64 z] 60 (0, 0)) := by subst hw1; exact blk_new wr _ _
              have bw1 : Below wr.heap.size wr w1 := by subst hw1; exact belA (Below.refl _ _)
              rw [← hw1]
              clear hw1
              have HS1 := hide (HS.out.below bw1)
              have pb2 : b + 2 ≤ wr.heap.size := hbsz
              have hov : ∀ g, u9.ownBlock = some g → g < wr.heap.size := fun g hg => (HS.out.own.lt g hg).2
              have HOV := hide hov
              replace hf0 := cellB bw1 hf0
              clear hp0 hp1 hp2 hbq hbw hbsz c0 c1 l0 HS bw1 hov
              have k0 := cell_of_block ka 0
              have k1 := cell_of_block ka 1
              have k2 := cell_of_block ka 2
              simp at k0 k1 k2
              generalize wr.heap.size = pb at *
              have lp := World.block_lt_of_cell? _ _ k0
              have lf := World.block_lt_of_cell? _ _ hf0
              simp at lp lf
              have KA := hide ka
              clear ka bl1 bl2
              go_cut [73] (fun v wx => v = .bool (decide ((y1 : Int) = at_ ∧ f < z ∧ (y2 : Int) ∉ t.1)) ∧ Below w1.heap.size w1 wx)
              case first =>
                by_cases hA : (y1 : Int) = at_
                · have eA : ((y1 : Int) == at_) = true := by simp [hA]
                  by_cases hB : f < z
                  · by_cases hC : (y2 : Int) ∈ t.1
                    · have eC : (bits .and .i64 (M / 2 ^ y2) 1 == 0) = false := by simpa [hC] using hm1
                      have hv : decide ((y1 : Int) = at_ ∧ f < z ∧ (y2 : Int) ∉ t.1) = false := by simp [hA, hB, hC]
                      have HV := hide hv
                      clear hv hm1 hA hC
                      (refine wp_region_g [0, 1, 2, 3, 4, 5, 6, 7, 8, 9, 10, 11, 12, 13, 14, 15, 16, 17, 18, 19, 20] [] (by kernel_rfl) (by kernel_rfl) ?_; simp only [pick, List.map_cons, List.map_nil, Array.getD_eq_getD_getElem?, List.getElem?_toArray, List.getElem?_cons_zero, List.getElem?_cons_succ, Option.getD_some]; (iterate 21 (refine wpG_step (fun K hK => ?_); go_simp; first | (refine hK _ ?_; clear hK K) | (apply Exists.intro; refine ⟨fun _ => ?_, hK _ ?_⟩; (fail); clear hK K))); refine wpG_nil ?_)
                      intro w4 hb4
                      go_wp2
                      go_meet
                      case rel => exact ⟨congrArg Value.bool HV.out.symm, below_of_inC hb4⟩
                    · have eC : (bits .and .i64 (M / 2 ^ y2) 1 == 0) = true := by simpa [hC] using hm1
                      have hv : decide ((y1 : Int) = at_ ∧ f < z ∧ (y2 : Int) ∉ t.1) = true := by simp [hA, hB, hC]
                      have HV := hide hv
                      clear hv hm1 hA hC
                      (refine wp_region_g [0, 1, 2, 3, 4, 5, 6, 7, 8, 9, 10, 11, 12, 13, 14, 15, 16, 17, 18, 19, 20] [] (by kernel_rfl) (by kernel_rfl) ?_; simp only [pick, List.map_cons, List.map_nil, Array.getD_eq_getD_getElem?, List.getElem?_toArray, List.getElem?_cons_zero, List.getElem?_cons_succ, Option.getD_some]; (iterate 21 (refine wpG_step (fun K hK => ?_); go_simp; first | (refine hK _ ?_; clear hK K) | (apply Exists.intro; refine ⟨fun _ => ?_, hK _ ?_⟩; (fail); clear hK K))); refine wpG_nil ?_)
                      intro w4 hb4
                      go_wp2
                      go_meet
                      case rel => exact ⟨congrArg Value.bool HV.out.symm, below_of_inC hb4⟩
                  · have hv : decide ((y1 : Int) = at_ ∧ f < z ∧ (y2 : Int) ∉ t.1) = false := by simp [hB]
                    have eB : decide (f < z) = false := by simp; omega
                    have HV := hide hv
                    clear hv hm1 hA
                    (refine wp_region_g [0, 1, 2, 3, 4, 5, 6, 7, 8, 9, 10, 11, 12, 13, 14, 15, 16, 17, 18, 19, 20] [] (by kernel_rfl) (by kernel_rfl) ?_; simp only [pick, List.map_cons, List.map_nil, Array.getD_eq_getD_getElem?, List.getElem?_toArray, List.getElem?_cons_zero, List.getElem?_cons_succ, Option.getD_some]; (iterate 21 (refine wpG_step (fun K hK => ?_); go_simp; first | (refine hK _ ?_; clear hK K) | (apply Exists.intro; refine ⟨fun _ => ?_, hK _ ?_⟩; (fail); clear hK K))); refine wpG_nil ?_)
                    intro w4 hb4
                    go_wp2
                    go_meet
                    case rel => exact ⟨congrArg Value.bool HV.out.symm, below_of_inC hb4⟩
                · have eA : ((y1 : Int) == at_) = false := by simp [hA]
                  have hv : decide ((y1 : Int) = at_ ∧ f < z ∧ (y2 : Int) ∉ t.1) = false := by simp [hA]
                  have HV := hide hv
                  clear hv hm1 hA
                  (refine wp_region_g [0, 1, 2, 3, 4, 5, 6, 7, 8, 9, 10, 11, 12, 13, 14, 15, 16, 17, 18, 19, 20] [] (by kernel_rfl) (by kernel_rfl) ?_; simp only [pick, List.map_cons, List.map_nil, Array.getD_eq_getD_getElem?, List.getElem?_toArray, List.getElem?_cons_zero, List.getElem?_cons_succ, Option.getD_some]; (iterate 21 (refine wpG_step (fun K hK => ?_); go_simp; first | (refine hK _ ?_; clear hK K) | (apply Exists.intro; refine ⟨fun _ => ?_, hK _ ?_⟩; (fail); clear hK K))); refine wpG_nil ?_)
                  intro w4 hb4
                  go_wp2
                  go_meet
                  case rel => exact ⟨congrArg Value.bool HV.out.symm, below_of_inC hb4⟩
              case rest =>
                obtain ⟨rfl, hbx2⟩ := hcut
                have HS2 := hide (HS1.out.below hbx2)
                replace hf0 := cellB hbx2 hf0
                have KA2 := hide (heap_grow KA.out hbx2)
                clear k0 k1 k2 KA HS1 lp lf hm1 hbx2
                have HSO := hide HS2.out.sz
                have k0 := cell_of_block KA2.out 0
                have k1 := cell_of_block KA2.out 1
                have k2 := cell_of_block KA2.out 2
                simp at k0 k1 k2
                have lp := World.block_lt_of_cell? _ _ k0
                simp at lp
                have ho := HS2.out.by_.cell y2 (by rw [HI1.out.len]; omega)
                have hz := frozen_of_block HS2.out.by_ y2
                generalize t.2.getD y2 0 = old at ho
                have lb := World.block_lt_of_cell? _ _ ho
                simp at lb
                obtain ⟨M1, M2⟩ := HS2.out.mask.bd
                obtain ⟨w3, w4⟩ := pow_bd m3 (show (y2 : Int) ≤ 8 by omega)
                rw [Int.toNat_natCast] at w3 w4
                have OW := hide (HS2.out.own.kept (grownBy_set wc (b + 1) y2 (.int .i64 (2 * (q : Int)))) (.inr (fun e => by have := (HS2.out.own.lt (b + 1) e).1; omega)))
                have HTL1 := HTL.out
                have mo := (HS2.out.mask.add m3 (show (y2 : Int) ≤ 7 by omega)).bd
                rw [Int.toNat_natCast] at mo
                have HLN := hide (show t.1.length = t.1.length from rfl)
                have sz2 : b + 2 ≤ (wc.setCell ⟨b + 1, y2, none⟩ (.int .i64 (2 * (q : Int)))).heap.size := by simpa using HSO.out
                go_upto_if 73 with fail
                go_cut [9, 10] (fun v m wx => ∃ M' : Int, m = .int .i64 M' ∧ Hid (SrS b wB (bFwd at_ q ((y1 : Int), (y2 : Int), z) f t) v M' wx) ∧ Hid (wx.heap[pb]? = some (.cells #[.int .i64 y1, .int .i64 y2, .int .i64 z] 60 (0, 0))) ∧ Hid (v.ownBlock ≠ some pb))
                case first =>
                  by_cases hC : (y1 : Int) = at_ ∧ f < z ∧ (y2 : Int) ∉ t.1
                  · have HFE := hide (show bFwd at_ q ((y1 : Int), (y2 : Int), z) f t = (t.1 ++ [(y2 : Int)], t.2.set y2 (2 * (q : Int))) by unfold bFwd; rw [if_pos hC]; rfl)
                    have hd : decide ((y1 : Int) = at_ ∧ f < z ∧ (y2 : Int) ∉ t.1) = true := decide_eq_true hC
                    rw [hd]
                    clear hC hd HF1 HF2 HB2
                    go_wp2_with (first
                      | (at_builtin; refine append1B rfl _ _ rfl (b + 2) _ t.1 t.1.length (y2 : Int) wc.heap.size (by simp) OW.out rfl rfl rfl (by omega) sz2 ?_; intro g2 c2 w5 ow2 gr2 sh2)
                      | fail)
                    go_meet
                    case rel =>
                      refine ⟨_, rfl, ?_, grown_heap gr2 (grown_heap (grownBy_set wc (b + 1) y2 _) KA2.out (by simp; omega)) (fun e => by have := HOV.out pb e; omega), ?_⟩
                      · rw [HFE.out]
                        exact HS2.out.found m3 (show (y2 : Int) ≤ 7 by omega) rfl ow2 gr2
                      · intro e
                        rcases sh2 with sh2 | sh2
                        · have := HOV.out g2 sh2
                          have e2 : g2 = pb := by simpa [Value.ownBlock] using e
                          omega
                        · have e2 : g2 = pb := by simpa [Value.ownBlock] using e
                          simp at sh2
                          omega
                  · have HFE := hide (show bFwd at_ q ((y1 : Int), (y2 : Int), z) f t = t by unfold bFwd; rw [if_neg hC])
                    have hd : decide ((y1 : Int) = at_ ∧ f < z ∧ (y2 : Int) ∉ t.1) = false := decide_eq_false hC
                    rw [hd]
                    clear hC hd HF1 HF2 HB2
                    go_wp2
                    go_meet
                    case rel => exact ⟨M, rfl, by rw [HFE.out]; exact HS2, KA2, fun e => by have := HOV.out pb e; omega⟩
                case rest =>
                  obtain ⟨M', rfl, HS3, KA3, HN3⟩ := hcut
                  clear HS2 OW sz2 HSO k0 k1 k2 ho hz lb lp HOV HLN hf0 HI1 HTL1 mo w3 w4 HTL KA2 M1 M2 hat7
                  have hI3 := HF1.out.1
                  have HI3 := hide hI3
                  have hTL3 := nodup_len k _ hI3.nodup hI3.rng
                  have HE3 := hide (HEX.out.trans HF1.out.2)
                  clear hI3 HF1 HEX
                  generalize bFwd at_ q ((y1 : Int), (y2 : Int), z) f t = t1 at *
                  have hbq3 : Below wB.heap.size wB wc := by rw [hwz]; exact HS3.out.bel
                  obtain ⟨_, _, e, hf0⟩ := hfB.out.below hbq3 q (by rw [HL.out]; exact hqt)
                  cases e
                  rw [HFQ.out] at hf0
                  have k0 := cell_of_block KA3.out 0
                  have k1 := cell_of_block KA3.out 1
                  have k2 := cell_of_block KA3.out 2
                  simp at k0 k1 k2
                  have lp := World.block_lt_of_cell? _ _ k0
                  have lf := World.block_lt_of_cell? _ _ hf0
                  simp at lp lf
                  have hm1 := memB_0 (HS3.out.mask.mem m1 (show (y1 : Int) ≤ 7 by omega))
                  rw [Int.toNat_natCast] at hm1
                  clear hbq3
                  go_upto_region 20 with fail
                  obtain ⟨w1, hw1⟩ : ∃ w1, w1 = wc := ⟨_, rfl⟩
                  have HS4 := HS3
                  rw [← hw1] at HS4
                  go_cut [108] (fun v wx => v = .bool (decide ((y2 : Int) = at_ ∧ 0 < f ∧ (y1 : Int) ∉ t1.1)) ∧ Below w1.heap.size w1 wx)
                  case first =>
                    by_cases hA : (y2 : Int) = at_
                    · have eA : ((y2 : Int) == at_) = true := by simp [hA]
                      by_cases hB : 0 < f
                      · by_cases hC : (y1 : Int) ∈ t1.1
                        · have eC : (bits .and .i64 (M' / 2 ^ y1) 1 == 0) = false := by simpa [hC] using hm1
                          have HV := hide (show decide ((y2 : Int) = at_ ∧ 0 < f ∧ (y1 : Int) ∉ t1.1) = false by simp [hA, hB, hC])
                          clear hm1 hA hC
                          subst hw1
                          go_wp2
                          go_meet
                          case rel => exact ⟨congrArg Value.bool HV.out.symm, Below.refl _ _⟩
                        · have eC : (bits .and .i64 (M' / 2 ^ y1) 1 == 0) = true := by simpa [hC] using hm1
                          have HV := hide (show decide ((y2 : Int) = at_ ∧ 0 < f ∧ (y1 : Int) ∉ t1.1) = true by simp [hA, hB, hC])
                          clear hm1 hA hC
                          subst hw1
                          go_wp2
                          go_meet
                          case rel => exact ⟨congrArg Value.bool HV.out.symm, Below.refl _ _⟩
                      · have HV := hide (show decide ((y2 : Int) = at_ ∧ 0 < f ∧ (y1 : Int) ∉ t1.1) = false by simp [hB])
                        have eB : decide (0 < f) = false := by simp; omega
                        clear hm1 hA
                        subst hw1
                        go_wp2
                        go_meet
                        case rel => exact ⟨congrArg Value.bool HV.out.symm, Below.refl _ _⟩
                    · have eA : ((y2 : Int) == at_) = false := by simp [hA]
                      have HV := hide (show decide ((y2 : Int) = at_ ∧ 0 < f ∧ (y1 : Int) ∉ t1.1) = false by simp [hA])
                      clear hm1 hA
                      subst hw1
                      go_wp2
                      go_meet
                      case rel => exact ⟨congrArg Value.bool HV.out.symm, Below.refl _ _⟩
                  case rest =>
                    obtain ⟨rfl, hbx2⟩ := hcut
                    have HS5 := hide (HS4.out.below hbx2)
                    have KA5 := hide (heap_grow (by rw [hw1]; exact KA3.out : w1.heap[pb]? = _) hbx2)
                    clear hw1 HS3 HS4 KA3 k0 k1 k2 lp lf hm1 hf0 hbx2
                    have hsz5 := HS5.out.sz
                    have k0 := cell_of_block KA5.out 0
                    have k1 := cell_of_block KA5.out 1
                    have k2 := cell_of_block KA5.out 2
                    simp at k0 k1 k2
                    have lp := World.block_lt_of_cell? _ _ k0
                    simp at lp
                    have ho := HS5.out.by_.cell y1 (by rw [HI3.out.len]; omega)
                    have hz := frozen_of_block HS5.out.by_ y1
                    generalize t1.2.getD y1 0 = old at ho
                    have lb := World.block_lt_of_cell? _ _ ho
                    simp at lb
                    obtain ⟨M1, M2⟩ := HS5.out.mask.bd
                    obtain ⟨w3, w4⟩ := pow_bd m1 (show (y1 : Int) ≤ 8 by omega)
                    rw [Int.toNat_natCast] at w3 w4
                    have OW := hide (HS5.out.own.kept (grownBy_set wc (b + 1) y1 (.int .i64 (2 * (q : Int) + 1))) (.inr (fun e => by have := (HS5.out.own.lt (b + 1) e).1; omega)))
                    have mo := (HS5.out.mask.add m1 (show (y1 : Int) ≤ 7 by omega)).bd
                    rw [Int.toNat_natCast] at mo
                    have sz2 : b + 2 ≤ (wc.setCell ⟨b + 1, y1, none⟩ (.int .i64 (2 * (q : Int) + 1))).heap.size := by simpa using hsz5
                    have HE5 := hide (HE3.out.trans HF2.out.2)
                    have HI5 := hide HF2.out.1
                    clear HF2 HE3 HI3
                    by_cases hC : (y2 : Int) = at_ ∧ 0 < f ∧ (y1 : Int) ∉ t1.1
                    · have HFE : bBack at_ q ((y1 : Int), (y2 : Int), z) f t1 = (t1.1 ++ [(y1 : Int)], t1.2.set y1 (2 * (q : Int) + 1)) := by unfold bBack; rw [if_pos hC]; rfl
                      rw [HFE] at HB2 HE5 HI5
                      have hd : decide ((y2 : Int) = at_ ∧ 0 < f ∧ (y1 : Int) ∉ t1.1) = true := decide_eq_true hC
                      rw [hd]
                      clear hC hd HFE
                      go_wp2_with (first
                        | (at_builtin; refine append1B rfl _ _ rfl (b + 2) _ t1.1 t1.1.length (y1 : Int) wc.heap.size (by simp) OW.out rfl rfl rfl (by omega) sz2 ?_; intro g2 c2 w5 ow2 gr2 sh2)
                        | fail)
                      have HS6 := hide (HS5.out.found m1 (show (y1 : Int) ≤ 7 by omega) rfl ow2 gr2)
                      rw [Int.toNat_natCast] at HS6
                      go_roundw
                      case rel => exact ⟨q + 1, _, _, by omega, by go_num, rfl, HS6, HI5, HE5, HB2⟩
                      case measure => simp [intOf]; omega
                    · have HFE : bBack at_ q ((y1 : Int), (y2 : Int), z) f t1 = t1 := by unfold bBack; rw [if_neg hC]
                      rw [HFE] at HB2 HE5 HI5
                      have hd : decide ((y2 : Int) = at_ ∧ 0 < f ∧ (y1 : Int) ∉ t1.1) = false := decide_eq_false hC
                      rw [hd]
                      clear hC hd HFE
                      go_wp2
                      go_roundw
                      case rel => exact ⟨q + 1, t1, M', by omega, by go_num, rfl, HS5, HI5, HE5, HB2⟩
                      case measure => simp [intOf]; omega
            · have hqe : q = ts.length := by omega
              subst hqe
              have HAE2 := HAE.out
              rw [HB.out, bAll_end _ _ _ _ _ (Nat.le_refl _)] at HAE2
              have HR2 := hide (show bfs k ts fs x = bRun ts fs (k - (j + 1)) (j + 1) t by rw [HAT.out, HB.out, bAll_end _ _ _ _ _ (Nat.le_refl _)])
              have hlen := (HEX.out.get HSL.out).1
              go_wp2
              go_roundw
              case rel => exact ⟨j + 1, t, M, by omega, by go_num, rfl, HS, HI, HR2⟩
              case measure => simp [intOf]; omega
        · have hje : s.1.length ≤ j := by omega
          have HE := hide (show bfs k ts fs x = s by rw [HR.out]; exact bRun_end _ _ _ _ _ hje)
          obtain ⟨hv, cv, rfl, _⟩ := HS.out.own.slice
          clear HI HR
          go_wp2
          go_ret
          refine ⟨_, ?_, rfl, by rw [HE.out]; exact HS.out.by_, ?_⟩
          · omega
          · rw [hb]; exact hwb.trans (HS.out.bel.mono (by omega))

end Go.Proofs.Yteimcbhnjhkkbaa
