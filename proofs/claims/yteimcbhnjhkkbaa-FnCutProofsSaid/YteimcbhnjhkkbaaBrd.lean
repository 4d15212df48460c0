/- The breadth search of the program: a map of first steps. -/
import Derived.Test.YteimcbhnjhkkbaaCame
import Derived.Test.YteimcbhnjhkkbaaAppL
import Derived.Test.YteimcbhnjhkkbaaSrchB
import Derived.Deep.DeepCutAuto
import Derived.Deep.CutBlock
namespace Go.Proofs.Yteimcbhnjhkkbaa
set_option linter.unusedSimpArgs false
set_option linter.unusedVariables false
open Go.RowKit

/-- Where the walk of the search stands: the net's box at b, the map at b + 1, the list in its own blocks. -/
structure BrS (b : Nat) (w0 : World) (x : Int) (s : St) (v : Value) (wr : World) : Prop where
  own : OwnsI (b + 2) wr v s.1
  came : CameMap wr (b + 1) x s
  bel : Below (b + 1) w0 wr
  sz : b + 2 ≤ wr.heap.size

theorem BrS.below {b : Nat} {w0 wr wx : World} {x : Int} {s : St} {v : Value} (h : BrS b w0 x s v wr) (hb : Below wr.heap.size wr wx) : BrS b w0 x s v wx :=
  ⟨h.own.below hb, h.came.below hb, h.bel.trans (hb.mono (by have := h.sz; omega)), Nat.le_trans h.sz hb.size⟩

/-- A place z is found: the map has it, the list has it. -/
theorem BrS.found {b : Nat} {w0 wr w5 w6 : World} {x : Int} {s : St} {v : Value} {z : Nat} {c : Int} {g cap m : Nat} (h : BrS b w0 x s v wr) (hcm : CameMap w5 (b + 1) x (s.1 ++ [(z : Int)], s.2.set z c)) (hg5 : wr.grownBy w5 (some (b + 1)))
    (hown : OwnsI (b + 2) w6 (.slice (some ⟨g, 0, none⟩) m cap) (s.1 ++ [(z : Int)])) (hg : w5.grownBy w6 v.ownBlock) :
    BrS b w0 x (s.1 ++ [(z : Int)], s.2.set z c) (.slice (some ⟨g, 0, none⟩) m cap) w6 := by
  have hsz := h.sz
  have hov : ∀ k, v.ownBlock = some k → b + 2 ≤ k := fun k hk => (h.own.lt k hk).1
  have s5 := hg5.size
  have s6 := hg.size
  refine ⟨hown, hcm.kept hg (fun e => by have := hov (b + 1) e; omega), ?_, by omega⟩
  exact (h.bel.grown hg5 (by omega) (fun k hk => by injection hk with hk; omega)).grown hg (by omega) (fun k hk => by have := hov k hk; omega)

set_option maxRecDepth 100000 in
set_option maxHeartbeats 8000000 in
theorem breadth_any (n x : Nat) (a af : Option Addr) (cap capf : Nat) (ts : List T3) (fs : List Int) (w : World) (hc : Rd3 w a ts) (hf : Rd w af fs) (hk : netOk (n : Int) ts = true) (x1 : x < n) (hl : fs.length = ts.length) :
    Calls Try.prog 41 #[.agg #[.int .i64 n, .slice a ts.length cap], .slice af fs.length capf, .int .i64 x] w fun e w' => ∃ b, w.heap.size ≤ b ∧ e = .returned (.map (some b)) ∧ CameMap w' b x (bfs n ts fs x) ∧ Below w.heap.size w w' := by
  obtain ⟨p1, p2, hl20, hall⟩ := netOk_parts hk
  have HA := hide hall
  have HP := hide (inP_of hk)
  have HF := hide (show bfs n ts fs x = bRun ts fs n 0 ([(x : Int)], List.replicate n (-1)) from rfl)
  have HST := hide (start_inv ts fs (p := n) (x := (x : Int)) (by omega) (by omega))
  have HL := hide hl
  clear hall hk hl
  have hmm := @run_makeMap Try.prog
  obtain ⟨wM, hrun, hcm, hgm⟩ := CameMap.made (w := w.alloc (.cells #[.int .i64 n, .slice a ts.length cap] 26)) x (by omega) n (-1) false
  rw [World.size_alloc] at hrun hcm hgm
  go_enter Try.func41, Try.ntmps41
  go_wp2
  obtain ⟨wB, hwB⟩ : ∃ wB, wB = w.alloc (.cells #[.int .i64 n, .slice a ts.length cap] 26) := ⟨_, rfl⟩
  have hbx : BoxN wB w.heap.size n a ts.length cap := by subst hwB; exact blk_new w _ _
  have hwz : wB.heap.size = w.heap.size + 1 := by subst hwB; simp
  have hwb : Below w.heap.size w wB := by subst hwB; exact belA (Below.refl _ _)
  have hcB := hide (show Rd3 wB a ts from hc.below hwb)
  have hfB := hide (show Rd wB af fs from hf.below hwb)
  rw [← hwB] at hgm
  clear hmm hrun hwB hc hf
  generalize hb : w.heap.size = b at *
  have CEL := hide (fun (W : World) (hW : Below (b + 1) wB W) => (show W.cell? ⟨b, 0, none⟩ = some (.int .i64 n) ∧ W.cell? ⟨b, 1, none⟩ = some (.slice a ts.length cap) by
    have h := hbx.below hW (by omega)
    exact ⟨by have := cell_of_block h 0; simpa using this, by have := cell_of_block h 1; simpa using this⟩))
  have hszM : b + 2 ≤ wM.heap.size := by have := hgm.size; simp at this; omega
  have hbM : Below (b + 1) wB wM := ((Below.refl (b + 1) wB).alloc (by omega) (.map #[] 0)).grown hgm (by simp; omega) (fun k hk => by injection hk with hk; omega)
  have own1 := OwnsI.one (b + 2) wM x hszM
  have HS := hide (⟨own1, hcm.below (belA (Below.refl _ _)), hbM.alloc (by omega) _, by simp; omega⟩ : BrS b wB x ([(x : Int)], List.replicate n (-1)) _ (wM.alloc (.cells #[.int .i64 x] 3)))
  clear own1 hcm hgm hbM
  go_loopw [8, 9] (fun v i wr => ∃ (j : Nat) (s : St), j ≤ s.1.length ∧ i = .int .i64 j ∧ Hid (BrS b wB x s v wr) ∧ Hid (BInv n ts fs x s) ∧ Hid (bfs n ts fs x = bRun ts fs (n - j) j s)) (fun _ i _ => n - (intOf i).toNat)
  case atStart => exact ⟨0, _, Nat.zero_le _, rfl, HS, HST, HF⟩
  case round =>
    clear HS HF
    obtain ⟨j, s, hj, rfl, HS, HI, HR⟩ := hrel
    have hsl := nodup_len n s.1 HI.out.nodup HI.out.rng
    rcases HS.out.own.cases with ⟨_, h0⟩ | ⟨g, cg, rfl, hgb, hown⟩
    · have := HI.out.pos
      rw [h0] at this; simp at this
    by_cases hjs : j < s.1.length
    · have HAT := hide (show bfs n ts fs x = bRun ts fs (n - (j + 1)) (j + 1) (bAll (s.1.getD j 0) 0 ts fs s) by
        rw [HR.out, bRun_step ts fs _ _ s hjs (by omega)]; rfl)
      obtain ⟨hat0, hat7⟩ := HI.out.rng _ (getD_memI hjs)
      have jk : j < n := by omega
      have HSL := hide hjs
      have HEX := hide (Ext.refl s)
      obtain ⟨c0, c1⟩ := CEL.out _ HS.out.bel
      have l0 := World.block_lt_of_cell? _ _ c0
      simp at l0
      have jl : (j : Int) < (s.1.length : Int) := by omega
      clear HR hown hsl
      generalize hat : s.1.getD j 0 = at_ at *
      have HATE := hide hat
      clear hat
      have HB0 := hide (show bAll at_ 0 ts fs s = bAll at_ 0 (ts.drop 0) (fs.drop 0) s from rfl)
      go_wp2
      clear c0 c1 l0
      go_loopw [8, 31] (fun v i wq => ∃ (q : Nat) (t : St), q ≤ ts.length ∧ i = .int .i64 q ∧ Hid (BrS b wB x t v wq) ∧ Hid (BInv n ts fs x t) ∧ Hid (Ext s t) ∧ Hid (bAll at_ 0 ts fs s = bAll at_ q (ts.drop q) (fs.drop q) t)) (fun _ i _ => ts.length - (intOf i).toNat)
      case atStart => exact ⟨0, s, Nat.zero_le _, rfl, HS, HI, HEX, HB0⟩
      case round =>
        clear HS HI HEX HB0
        obtain ⟨q, t, hq, rfl, HS, HI, HEX, HB⟩ := hrel
        rcases HS.out.own.cases with ⟨_, h0⟩ | ⟨g, cg, rfl, hgb, hown⟩
        · have := HI.out.pos
          rw [h0] at this; simp at this
        by_cases hqt : q < ts.length
        · have hbq : Below wB.heap.size wB wr := by rw [hwz]; exact HS.out.bel
          have hbsz := HS.out.sz
          obtain ⟨b1, off1, rfl, hp0, hp1, hp2⟩ := hcB.out.below hbq q hqt
          obtain ⟨b2, off2, rfl, hf0⟩ := hfB.out.below hbq q (by rw [HL.out]; exact hqt)
          have HB2 := hide (show bAll at_ 0 ts fs s = bAll at_ (q + 1) (ts.drop (q + 1)) (fs.drop (q + 1)) (bBack at_ q (ts.getD q default) (fs.getD q 0) (bFwd at_ q (ts.getD q default) (fs.getD q 0) t)) by
            rw [HB.out, bAll_step at_ ts fs q t hqt (by rw [HL.out]; exact hqt), bOne_eq])
          have HF1 := hide (fwd_inv HI.out HP.out hqt (HEX.out.get HSL.out).1 ((HEX.out.get HSL.out).2.trans HATE.out))
          have HF2 := hide (back_inv HF1.out.1 HP.out hqt (HF1.out.2.get (HEX.out.get HSL.out).1).1 ((HF1.out.2.get (HEX.out.get HSL.out).1).2.trans ((HEX.out.get HSL.out).2.trans HATE.out)))
          obtain ⟨m1, m2, m3, m4, m5, m6, m7⟩ := pipeOk_iff.1 (HA.out _ (getD_mem3 hqt))
          have HTL := hide (nodup_len n t.1 HI.out.nodup HI.out.rng)
          have hlc := hown.cell j (HEX.out.get HSL.out).1
          rw [(HEX.out.get HSL.out).2, HATE.out] at hlc
          have jt : (j : Int) < (t.1.length : Int) := by have := (HEX.out.get HSL.out).1; omega
          clear HB
          generalize ts.getD q default = u at *
          generalize hfe : fs.getD q 0 = f at *
          have HFQ := hide hfe
          clear hfe
          obtain ⟨y1, y2, z⟩ := u
          simp only at hp0 hp1 hp2 m1 m2 m3 m4 m5 m6 m7
          obtain ⟨y1, rfl⟩ := Int.eq_ofNat_of_zero_le m1
          obtain ⟨y2, rfl⟩ := Int.eq_ofNat_of_zero_le m3
          have bl1 := World.block_lt_of_cell? _ _ hp0
          have bl2 := World.block_lt_of_cell? _ _ hf0
          have bl3 := World.block_lt_of_cell? _ _ hlc
          simp at bl1 bl2 bl3
          have iq : (q : Int) < (ts.length : Int) := by omega
          have iqf : (q : Int) < (fs.length : Int) := by rw [HL.out]; omega
          obtain ⟨sp, sk, hlk⟩ := (HS.out.came.below (belA (o := .cells #[.int .i64 y1, .int .i64 y2, .int .i64 z] 60) (Below.refl _ _))).look (z := y2) (by omega)
          obtain ⟨sb, hsb⟩ : ∃ sb, sb = decide ((y2 : Int) ∈ t.1) := ⟨_, rfl⟩
          rw [← hsb] at hlk
          have HSB := hide hsb
          clear hsb
          go_wp2
          obtain ⟨w1, hw1⟩ : ∃ w1, w1 = (wr.alloc (.cells #[.int .i64 y1, .int .i64 y2, .int .i64 z] 60)).alloc (.cells #[.int .i64 sp, .bool sk] 72) := ⟨_, rfl⟩
          have ka : w1.heap[wr.heap.size]? = some (.cells #[.int .i64 y1, .int .i64 y2, .int .i64 z] 60 (0, 0)) := by subst hw1; exact blk_alloc (blk_new wr _ _)
          have bw1 : Below wr.heap.size wr w1 := by subst hw1; exact belA (belA (Below.refl _ _))
          rw [← hw1]
          clear hw1 hlk
          have HS1 := hide (HS.out.below bw1)
          have HN := hide (show g ≠ wr.heap.size by omega)
          have pb2 : b + 2 ≤ wr.heap.size := hbsz
          replace hf0 := cellB bw1 hf0
          replace hlc := cellB bw1 hlc
          have HI1 := HI
          clear hp0 hp1 hp2 hbq hbsz HS bw1 hown HI
          have k0 := cell_of_block ka 0
          have k1 := cell_of_block ka 1
          have k2 := cell_of_block ka 2
          simp at k0 k1 k2
          generalize wr.heap.size = pb at *
          have lp := World.block_lt_of_cell? _ _ k0
          have lf := World.block_lt_of_cell? _ _ hf0
          have lg := World.block_lt_of_cell? _ _ hlc
          simp at lp lf lg
          have KA := hide ka
          clear ka bl1 bl2 bl3
          go_cut [62] (fun v wx => v = .bool (decide ((y1 : Int) = at_ ∧ f < z ∧ (y2 : Int) ∉ t.1)) ∧ Below w1.heap.size w1 wx)
          case first =>
            cases sb with
            | true =>
              have HV := hide (show decide ((y1 : Int) = at_ ∧ f < z ∧ (y2 : Int) ∉ t.1) = false by have := HSB.out.symm; simp at this; simp [this])
              (refine wp_region_g [0, 1, 2, 3, 4, 5, 6, 7, 8, 9, 10, 11, 12, 13, 14, 15, 16, 17, 18, 19] [] (by kernel_rfl) (by kernel_rfl) ?_; simp only [pick, List.map_cons, List.map_nil, Array.getD_eq_getD_getElem?, List.getElem?_toArray, List.getElem?_cons_zero, List.getElem?_cons_succ, Option.getD_some]; (iterate 20 (refine wpG_step (fun K hK => ?_); go_simp; first | (refine hK _ ?_; clear hK K) | (apply Exists.intro; refine ⟨fun _ => ?_, hK _ ?_⟩; (fail); clear hK K))); refine wpG_nil ?_)
              intro w4 hb4
              go_wp2
              go_meet
              case rel => exact ⟨congrArg Value.bool HV.out.symm, below_of_inC hb4⟩
            | false =>
              have hC : (y2 : Int) ∉ t.1 := by have := HSB.out.symm; simpa using this
              by_cases hA : (y1 : Int) = at_
              · have eA : ((y1 : Int) == at_) = true := by simp [hA]
                by_cases hB : f < z
                · have HV := hide (show decide ((y1 : Int) = at_ ∧ f < z ∧ (y2 : Int) ∉ t.1) = true by simp [hA, hB, hC])
                  clear hA hC
                  (refine wp_region_g [0, 1, 2, 3, 4, 5, 6, 7, 8, 9, 10, 11, 12, 13, 14, 15, 16, 17, 18, 19] [] (by kernel_rfl) (by kernel_rfl) ?_; simp only [pick, List.map_cons, List.map_nil, Array.getD_eq_getD_getElem?, List.getElem?_toArray, List.getElem?_cons_zero, List.getElem?_cons_succ, Option.getD_some]; (iterate 20 (refine wpG_step (fun K hK => ?_); go_simp; first | (refine hK _ ?_; clear hK K) | (apply Exists.intro; refine ⟨fun _ => ?_, hK _ ?_⟩; (fail); clear hK K))); refine wpG_nil ?_)
                  intro w4 hb4
                  go_wp2
                  go_meet
                  case rel => exact ⟨congrArg Value.bool HV.out.symm, below_of_inC hb4⟩
                · have HV := hide (show decide ((y1 : Int) = at_ ∧ f < z ∧ (y2 : Int) ∉ t.1) = false by simp [hB])
                  have eB : decide (f < z) = false := by simp; omega
                  clear hA hC
                  (refine wp_region_g [0, 1, 2, 3, 4, 5, 6, 7, 8, 9, 10, 11, 12, 13, 14, 15, 16, 17, 18, 19] [] (by kernel_rfl) (by kernel_rfl) ?_; simp only [pick, List.map_cons, List.map_nil, Array.getD_eq_getD_getElem?, List.getElem?_toArray, List.getElem?_cons_zero, List.getElem?_cons_succ, Option.getD_some]; (iterate 20 (refine wpG_step (fun K hK => ?_); go_simp; first | (refine hK _ ?_; clear hK K) | (apply Exists.intro; refine ⟨fun _ => ?_, hK _ ?_⟩; (fail); clear hK K))); refine wpG_nil ?_)
                  intro w4 hb4
                  go_wp2
                  go_meet
                  case rel => exact ⟨congrArg Value.bool HV.out.symm, below_of_inC hb4⟩
              · have eA : ((y1 : Int) == at_) = false := by simp [hA]
                have HV := hide (show decide ((y1 : Int) = at_ ∧ f < z ∧ (y2 : Int) ∉ t.1) = false by simp [hA])
                clear hA hC
                (refine wp_region_g [0, 1, 2, 3, 4, 5, 6, 7, 8, 9, 10, 11, 12, 13, 14, 15, 16, 17, 18, 19] [] (by kernel_rfl) (by kernel_rfl) ?_; simp only [pick, List.map_cons, List.map_nil, Array.getD_eq_getD_getElem?, List.getElem?_toArray, List.getElem?_cons_zero, List.getElem?_cons_succ, Option.getD_some]; (iterate 20 (refine wpG_step (fun K hK => ?_); go_simp; first | (refine hK _ ?_; clear hK K) | (apply Exists.intro; refine ⟨fun _ => ?_, hK _ ?_⟩; (fail); clear hK K))); refine wpG_nil ?_)
                intro w4 hb4
                go_wp2
                go_meet
                case rel => exact ⟨congrArg Value.bool HV.out.symm, below_of_inC hb4⟩
          case rest =>
            obtain ⟨rfl, hbx2⟩ := hcut
            have HS2 := hide (HS1.out.below hbx2)
            have KA2 := hide (heap_grow KA.out hbx2)
            clear hf0 hlc k0 k1 k2 KA HS1 lp lf lg hbx2 HSB
            have hsz2 := HS2.out.sz
            have k0 := cell_of_block KA2.out 0
            have k1 := cell_of_block KA2.out 1
            have k2 := cell_of_block KA2.out 2
            simp at k0 k1 k2
            have lp := World.block_lt_of_cell? _ _ k0
            simp at lp
            have HTL1 := HTL.out
            have HXM := hide (show (x : Int) ∈ t.1 by have := getD_memI HI1.out.pos; rw [HI1.out.head] at this; exact this)
            go_upto_if 62 with fail
            go_cut [8] (fun v wx => Hid (BrS b wB x (bFwd at_ q ((y1 : Int), (y2 : Int), z) f t) v wx) ∧ Hid (wx.heap[pb]? = some (.cells #[.int .i64 y1, .int .i64 y2, .int .i64 z] 60 (0, 0))) ∧ Hid (v.ownBlock ≠ some pb))
            case first =>
              by_cases hC : (y1 : Int) = at_ ∧ f < z ∧ (y2 : Int) ∉ t.1
              · have HFE := hide (show bFwd at_ q ((y1 : Int), (y2 : Int), z) f t = (t.1 ++ [(y2 : Int)], t.2.set y2 (2 * (q : Int))) by unfold bFwd; rw [if_pos hC]; rfl)
                have hd : decide ((y1 : Int) = at_ ∧ f < z ∧ (y2 : Int) ∉ t.1) = true := decide_eq_true hC
                obtain ⟨w5, hrun5, hcm5, hg5⟩ := HS2.out.came.store (z := y2) (by omega) hC.2.2 (fun e => hC.2.2 (by rw [e]; exact HXM.out)) (.inr (by rw [HI1.out.len]; omega)) (by omega) (q : Int) false
                rw [show 2 * (q : Int) + bI false = 2 * (q : Int) by simp [bI]] at hcm5
                have HCM := hide hcm5
                have HG5 := hide hg5
                have KA5 := hide (grown_heap hg5 KA2.out (by simp; omega))
                have k05 := cell_of_block KA5.out 0
                have k15 := cell_of_block KA5.out 1
                simp at k05 k15
                have OW := hide (HS2.out.own.kept hg5 (.inr (fun e => by have := (HS2.out.own.lt (b + 1) e).1; omega)))
                have sz5 : b + 2 ≤ w5.heap.size := Nat.le_trans hsz2 hg5.size
                have lp5 := World.block_lt_of_cell? _ _ k05
                simp at lp5
                rw [hd]
                clear hC hd HF1 HF2 HB2 hcm5 hg5
                go_wp2_with (first
                  | (at_builtin; refine append1B rfl _ _ rfl (b + 2) _ t.1 t.1.length (y2 : Int) w5.heap.size rfl OW.out rfl rfl rfl (by omega) sz5 ?_; intro g2 c2 w6 ow2 gr2 sh2)
                  | fail)
                go_meet
                case rel =>
                  refine ⟨?_, grown_heap gr2 KA5.out (fun e => HN.out (by simpa [Value.ownBlock] using e)), ?_⟩
                  · rw [HFE.out]
                    exact HS2.out.found HCM.out HG5.out ow2 gr2
                  · intro e
                    have e2 : g2 = pb := by simpa [Value.ownBlock] using e
                    rcases sh2 with sh2 | sh2
                    · have e3 : g = g2 := by simpa [Value.ownBlock] using sh2
                      exact HN.out (e3.trans e2)
                    · omega
              · have HFE := hide (show bFwd at_ q ((y1 : Int), (y2 : Int), z) f t = t by unfold bFwd; rw [if_neg hC])
                have hd : decide ((y1 : Int) = at_ ∧ f < z ∧ (y2 : Int) ∉ t.1) = false := decide_eq_false hC
                rw [hd]
                clear hC hd HF1 HF2 HB2
                go_wp2
                go_meet
                case rel => exact ⟨by rw [HFE.out]; exact HS2, KA2, fun e => HN.out (by simpa [Value.ownBlock] using e)⟩
            case rest =>
              obtain ⟨HS3, KA3, HN3⟩ := hcut
              clear HS2 k0 k1 k2 lp HN HI1 HTL1 HTL KA2 hat7 hsz2 HXM
              have HI3 := hide HF1.out.1
              have hTL3 := nodup_len n _ HI3.out.nodup HI3.out.rng
              have HE3 := hide (HEX.out.trans HF1.out.2)
              clear HF1 HEX
              generalize bFwd at_ q ((y1 : Int), (y2 : Int), z) f t = t1 at *
              rcases HS3.out.own.cases with ⟨_, h0⟩ | ⟨g3, cg3, rfl, hgb3, hown3⟩
              · have := HI3.out.pos
                rw [h0] at this; simp at this
              have hbq3 : Below wB.heap.size wB wc := by rw [hwz]; exact HS3.out.bel
              obtain ⟨_, _, e, hf0⟩ := hfB.out.below hbq3 q (by rw [HL.out]; exact hqt)
              cases e
              rw [HFQ.out] at hf0
              have hlc := hown3.cell j (HE3.out.get HSL.out).1
              rw [(HE3.out.get HSL.out).2, HATE.out] at hlc
              have jt3 : (j : Int) < (t1.1.length : Int) := by have := (HE3.out.get HSL.out).1; omega
              have k0 := cell_of_block KA3.out 0
              have k1 := cell_of_block KA3.out 1
              have k2 := cell_of_block KA3.out 2
              simp at k0 k1 k2
              have lp := World.block_lt_of_cell? _ _ k0
              have lf := World.block_lt_of_cell? _ _ hf0
              have lg := World.block_lt_of_cell? _ _ hlc
              simp at lp lf lg
              obtain ⟨sp2, sk2, hlk2⟩ := HS3.out.came.look (z := y1) (by omega)
              obtain ⟨sb2, hsb2⟩ : ∃ sb, sb = decide ((y1 : Int) ∈ t1.1) := ⟨_, rfl⟩
              rw [← hsb2] at hlk2
              have HSB2 := hide hsb2
              clear hsb2 hbq3 hown3
              have HN := hide (show g3 ≠ pb by intro e; exact HN3.out (by simp [Value.ownBlock, e]))
              clear HN3
              go_wp2
              obtain ⟨w1, hw1⟩ : ∃ w1, w1 = wc.alloc (.cells #[.int .i64 sp2, .bool sk2] 72) := ⟨_, rfl⟩
              have bw1 : Below wc.heap.size wc w1 := by subst hw1; exact belA (Below.refl _ _)
              rw [← hw1]
              clear hw1 hlk2
              have HS4 := hide (HS3.out.below bw1)
              replace hf0 := cellB bw1 hf0
              replace hlc := cellB bw1 hlc
              have KA4 := hide (heap_grow KA3.out bw1)
              replace k0 := cellB bw1 k0
              replace k1 := cellB bw1 k1
              replace k2 := cellB bw1 k2
              replace lp := Nat.lt_of_lt_of_le lp bw1.size
              replace lf := Nat.lt_of_lt_of_le lf bw1.size
              replace lg := Nat.lt_of_lt_of_le lg bw1.size
              clear HS3 KA3 bw1
              go_cut [97] (fun v wx => v = .bool (decide ((y2 : Int) = at_ ∧ 0 < f ∧ (y1 : Int) ∉ t1.1)) ∧ Below w1.heap.size w1 wx)
              case first =>
                cases sb2 with
                | true =>
                  have HV := hide (show decide ((y2 : Int) = at_ ∧ 0 < f ∧ (y1 : Int) ∉ t1.1) = false by have := HSB2.out.symm; simp at this; simp [this])
                  (refine wp_region_g [0, 1, 2, 3, 4, 5, 6, 7, 8, 9, 10, 11, 12, 13, 14, 15, 16, 17] [] (by kernel_rfl) (by kernel_rfl) ?_; simp only [pick, List.map_cons, List.map_nil, Array.getD_eq_getD_getElem?, List.getElem?_toArray, List.getElem?_cons_zero, List.getElem?_cons_succ, Option.getD_some]; (iterate 18 (refine wpG_step (fun K hK => ?_); go_simp; first | (refine hK _ ?_; clear hK K) | (apply Exists.intro; refine ⟨fun _ => ?_, hK _ ?_⟩; (fail); clear hK K))); refine wpG_nil ?_)
                  intro w4 hb4
                  go_wp2
                  go_meet
                  case rel => exact ⟨congrArg Value.bool HV.out.symm, below_of_inC hb4⟩
                | false =>
                  have hC : (y1 : Int) ∉ t1.1 := by have := HSB2.out.symm; simpa using this
                  by_cases hA : (y2 : Int) = at_
                  · have eA : ((y2 : Int) == at_) = true := by simp [hA]
                    by_cases hB : 0 < f
                    · have HV := hide (show decide ((y2 : Int) = at_ ∧ 0 < f ∧ (y1 : Int) ∉ t1.1) = true by simp [hA, hB, hC])
                      clear hA hC
                      (refine wp_region_g [0, 1, 2, 3, 4, 5, 6, 7, 8, 9, 10, 11, 12, 13, 14, 15, 16, 17] [] (by kernel_rfl) (by kernel_rfl) ?_; simp only [pick, List.map_cons, List.map_nil, Array.getD_eq_getD_getElem?, List.getElem?_toArray, List.getElem?_cons_zero, List.getElem?_cons_succ, Option.getD_some]; (iterate 18 (refine wpG_step (fun K hK => ?_); go_simp; first | (refine hK _ ?_; clear hK K) | (apply Exists.intro; refine ⟨fun _ => ?_, hK _ ?_⟩; (fail); clear hK K))); refine wpG_nil ?_)
                      intro w4 hb4
                      go_wp2
                      go_meet
                      case rel => exact ⟨congrArg Value.bool HV.out.symm, below_of_inC hb4⟩
                    · have HV := hide (show decide ((y2 : Int) = at_ ∧ 0 < f ∧ (y1 : Int) ∉ t1.1) = false by simp [hB])
                      have eB : decide (0 < f) = false := by simp; omega
                      clear hA hC
                      (refine wp_region_g [0, 1, 2, 3, 4, 5, 6, 7, 8, 9, 10, 11, 12, 13, 14, 15, 16, 17] [] (by kernel_rfl) (by kernel_rfl) ?_; simp only [pick, List.map_cons, List.map_nil, Array.getD_eq_getD_getElem?, List.getElem?_toArray, List.getElem?_cons_zero, List.getElem?_cons_succ, Option.getD_some]; (iterate 18 (refine wpG_step (fun K hK => ?_); go_simp; first | (refine hK _ ?_; clear hK K) | (apply Exists.intro; refine ⟨fun _ => ?_, hK _ ?_⟩; (fail); clear hK K))); refine wpG_nil ?_)
                      intro w4 hb4
                      go_wp2
                      go_meet
                      case rel => exact ⟨congrArg Value.bool HV.out.symm, below_of_inC hb4⟩
                  · have eA : ((y2 : Int) == at_) = false := by simp [hA]
                    have HV := hide (show decide ((y2 : Int) = at_ ∧ 0 < f ∧ (y1 : Int) ∉ t1.1) = false by simp [hA])
                    clear hA hC
                    (refine wp_region_g [0, 1, 2, 3, 4, 5, 6, 7, 8, 9, 10, 11, 12, 13, 14, 15, 16, 17] [] (by kernel_rfl) (by kernel_rfl) ?_; simp only [pick, List.map_cons, List.map_nil, Array.getD_eq_getD_getElem?, List.getElem?_toArray, List.getElem?_cons_zero, List.getElem?_cons_succ, Option.getD_some]; (iterate 18 (refine wpG_step (fun K hK => ?_); go_simp; first | (refine hK _ ?_; clear hK K) | (apply Exists.intro; refine ⟨fun _ => ?_, hK _ ?_⟩; (fail); clear hK K))); refine wpG_nil ?_)
                    intro w4 hb4
                    go_wp2
                    go_meet
                    case rel => exact ⟨congrArg Value.bool HV.out.symm, below_of_inC hb4⟩
              case rest =>
                obtain ⟨rfl, hbx2⟩ := hcut
                have HS5 := hide (HS4.out.below hbx2)
                have KA5 := hide (heap_grow KA4.out hbx2)
                clear hf0 hlc k0 k1 k2 KA4 HS4 lp lf lg hbx2 HSB2
                have hsz2 := HS5.out.sz
                have k0 := cell_of_block KA5.out 0
                have k1 := cell_of_block KA5.out 1
                simp at k0 k1
                have lp := World.block_lt_of_cell? _ _ k0
                simp at lp
                have HXM := hide (show (x : Int) ∈ t1.1 by have := getD_memI HI3.out.pos; rw [HI3.out.head] at this; exact this)
                have HLN := hide HI3.out.len
                have HE5 := hide (HE3.out.trans HF2.out.2)
                have HI5 := hide HF2.out.1
                clear HF2 HE3 HI3
                by_cases hC : (y2 : Int) = at_ ∧ 0 < f ∧ (y1 : Int) ∉ t1.1
                · have HFE : bBack at_ q ((y1 : Int), (y2 : Int), z) f t1 = (t1.1 ++ [(y1 : Int)], t1.2.set y1 (2 * (q : Int) + 1)) := by unfold bBack; rw [if_pos hC]; rfl
                  rw [HFE] at HB2 HE5 HI5
                  have hd : decide ((y2 : Int) = at_ ∧ 0 < f ∧ (y1 : Int) ∉ t1.1) = true := decide_eq_true hC
                  obtain ⟨w5, hrun5, hcm5, hg5⟩ := HS5.out.came.store (z := y1) (by omega) hC.2.2 (fun e => hC.2.2 (by rw [e]; exact HXM.out)) (.inr (by rw [HLN.out]; omega)) (by omega) (q : Int) true
                  rw [show 2 * (q : Int) + bI true = 2 * (q : Int) + 1 by simp [bI]] at hcm5
                  have HCM := hide hcm5
                  have HG5 := hide hg5
                  have KA6 := hide (grown_heap hg5 KA5.out (by simp; omega))
                  have k05 := cell_of_block KA6.out 0
                  simp at k05
                  have OW := hide (HS5.out.own.kept hg5 (.inr (fun e => by have := (HS5.out.own.lt (b + 1) e).1; omega)))
                  have sz5 : b + 2 ≤ w5.heap.size := Nat.le_trans hsz2 hg5.size
                  have lp5 := World.block_lt_of_cell? _ _ k05
                  simp at lp5
                  rw [hd]
                  clear hC hd HFE hcm5 hg5
                  go_wp2_with (first
                    | (at_builtin; refine append1B rfl _ _ rfl (b + 2) _ t1.1 t1.1.length (y1 : Int) w5.heap.size rfl OW.out rfl rfl rfl (by omega) sz5 ?_; intro g2 c2 w6 ow2 gr2 sh2)
                    | fail)
                  have HS6 := hide (HS5.out.found HCM.out HG5.out ow2 gr2)
                  go_roundw
                  case rel => exact ⟨q + 1, _, by omega, by go_num, HS6, HI5, HE5, HB2⟩
                  case measure => simp [intOf]; omega
                · have HFE : bBack at_ q ((y1 : Int), (y2 : Int), z) f t1 = t1 := by unfold bBack; rw [if_neg hC]
                  rw [HFE] at HB2 HE5 HI5
                  have hd : decide ((y2 : Int) = at_ ∧ 0 < f ∧ (y1 : Int) ∉ t1.1) = false := decide_eq_false hC
                  rw [hd]
                  clear hC hd HFE
                  go_wp2
                  go_roundw
                  case rel => exact ⟨q + 1, t1, by omega, by go_num, HS5, HI5, HE5, HB2⟩
                  case measure => simp [intOf]; omega
        · have hqe : q = ts.length := by omega
          subst hqe
          have HR2 := hide (show bfs n ts fs x = bRun ts fs (n - (j + 1)) (j + 1) t by rw [HAT.out, HB.out, bAll_end _ _ _ _ _ (Nat.le_refl _)])
          have hlen := (HEX.out.get HSL.out).1
          clear hown
          go_wp2
          go_roundw
          case rel => exact ⟨j + 1, t, by omega, by go_num, HS, HI, HR2⟩
          case measure => simp [intOf]; omega
    · have hje : s.1.length ≤ j := by omega
      have HE := hide (show bfs n ts fs x = s by rw [HR.out]; exact bRun_end _ _ _ _ _ hje)
      clear HI HR
      go_wp2
      go_ret
      refine ⟨b + 1, ?_, rfl, by rw [HE.out]; exact HS.out.came, ?_⟩
      · omega
      · rw [hb]; exact hwb.trans (HS.out.bel.mono (by omega))

end Go.Proofs.Yteimcbhnjhkkbaa
