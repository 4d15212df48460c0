/- FindFlow: the program's. -/
import Derived.Test.YteimcbhnjhkkbaaBrd
import Derived.Test.YteimcbhnjhkkbaaWay
import Derived.Test.YteimcbhnjhkkbaaCut3
namespace Go.Proofs.Yteimcbhnjhkkbaa
set_option linter.unusedSimpArgs false
set_option linter.unusedVariables false
open Go.RowKit

def findM (p : Int) (ts : List T3) (x y : Int) : List Int := if twoM p ts x y then findL p.toNat ts x y else []
/-- The call hands back numbers in a slice that it made itself, and a bool. -/
def GivesIB (xs : List Int) (ok : Bool) (w : World) (e : Ending) (w' : World) : Prop := ∃ v, e = .returned (.tuple #[v, .bool ok]) ∧ OwnsI w.heap.size w' v xs ∧ Below w.heap.size w w'

theorem OwnI.owns {base : Nat} {w : World} {g n : Nat} {xs : List Int} (h : OwnI w g 3 xs) (hb : base ≤ g) (hl : xs.length = n) (hn : n ≤ 1048576) : OwnsI base w (.slice (some ⟨g, 0, none⟩) n n) xs := by
  subst hl
  exact ⟨by simp, .inr ⟨g, xs.length, _, rfl, hb, h, Nat.le_refl _, by unfold maxLen; omega, by simp, by rw [Nat.mul_one]; exact List.take_of_length_le (by simp)⟩⟩

/-- What block b holds. -/
def rdI (w : World) (b : Nat) : List Int := match w.heap[b]? with
  | some (.cells c _ _) => c.toList.map intOf
  | _ => []
theorem rdI_own {w : World} {g : Nat} {T : TypeId} {xs : List Int} (h : OwnI w g T xs) : rdI w g = xs := by
  unfold rdI
  rw [h]
  simp [List.map_map]
  have : (intOf ∘ Value.int IntKind.i64) = id := by funext x; rfl
  rw [this]; simp
def lenOf : Value → Nat
  | .slice _ n _ => n
  | _ => 0

theorem OwnsW.lenOf {base : Nat} {w : World} {v : Value} {l : List Int} (h : OwnsW base w v l) : lenOf v = l.length := by
  rcases h.cases with ⟨rfl, rfl⟩ | ⟨g, cap, rfl, _⟩ <;> rfl
theorem WayAt.nodup {n : Nat} {ts : List T3} {fs : List Int} {x y : Int} {s : St} {l : List Int} (h : WayAt n ts fs x s y l x) (hy : y ∈ s.1) : l.Nodup := by
  obtain ⟨j, hj, e⟩ := mem_getDI hy
  have hl := nodup_len n s.1 h.inv.nodup h.inv.rng
  have := (wayM_spec h.inv j n hj (by omega)).1
  rw [e, h.done] at this
  exact this

/-- Where the outer loop stands. -/
structure FfS (n : Nat) (ts : List T3) (x y : Int) (fb : Nat) (w2 : World) (fs : List Int) (m : Nat) (wr : World) : Prop where
  own : OwnI wr fb 3 fs
  flow : FlowP n ts fs x y
  most : findL n ts x y = ffN n ts x y m fs
  fuel : 20000 < m + gainL x ts fs
  bel : Below fb w2 wr
  sz : fb + 1 ≤ wr.heap.size

theorem way_ne {ts : List T3} {b : List Int} {x y : Int} {n : Nat} (hn : 0 < n) (h : y ≠ x) : wayM ts b x n y ≠ [] := by
  cases n with
  | zero => omega
  | succ n => rw [wayM, if_neg h]; simp

theorem FfS.next {n : Nat} {ts : List T3} {x y : Int} {fb m : Nat} {w2 wr w9 : World} {fs : List Int} (hN : NetP n ts x y) (h : FfS n ts x y fb w2 fs m wr) (hy : y ∈ (bfs n ts fs x).1) (ho : OwnI w9 fb 3 (augS n ts fs x y)) (hb : Below fb w2 w9) (hs : fb + 1 ≤ w9.heap.size) :
    FfS n ts x y fb w2 (augS n ts fs x y) (m - 1) w9 ∧ gainL x ts fs + 1 ≤ gainL x ts (augS n ts fs x y) ∧ gainL x ts fs + 1 ≤ 20000 := by
  have hbd := flow_bd hN h.flow
  have hf := h.fuel
  obtain ⟨f1, r1, r2, g1⟩ := aug_flow hN.inn h.flow (bfs_inv hN.inn h.flow.fit.1 hN.x0 hN.x1).1 hy hN.ne
  have hbd2 := flow_bd hN f1
  have e : gainL x ts (augS n ts fs x y) = gainL x ts fs + roomM ts fs (wayM ts (bfs n ts fs x).2 x n y) 1000 := g1
  have hbd3 : gainL x ts (augS n ts fs x y) ≤ 20000 := hbd2
  refine ⟨⟨ho, f1, ?_, by omega, hb, hs⟩, by omega, by omega⟩
  rw [h.most]
  obtain ⟨k, rfl⟩ : ∃ k, m = k + 1 := ⟨m - 1, by omega⟩
  rw [ffN, if_pos hy]; rfl
theorem FfS.end_ {n : Nat} {ts : List T3} {x y : Int} {fb m : Nat} {w2 wr : World} {fs : List Int} (h : FfS n ts x y fb w2 fs m wr) (hy : y ∉ (bfs n ts fs x).1) : findL n ts x y = fs := by
  rw [h.most]
  cases m with
  | zero => rfl
  | succ m => rw [ffN, if_neg hy]

set_option maxRecDepth 100000 in
set_option maxHeartbeats 8000000 in
theorem implFindFlow_ok (n x y : Nat) (a : Option Addr) (cap : Nat) (ts : List T3) (w : World) (hc : Rd3 w a ts) (hk : twoM (n : Int) ts (x : Int) (y : Int) = true) :
    Calls Try.prog 27 #[.agg #[.int .i64 (n : Int), .slice a ts.length cap], .int .i64 (x : Int), .int .i64 (y : Int)] w fun e w' => GivesIB (findL n ts x y) true w e w' := by
  obtain ⟨⟨p1, p2⟩, ⟨hl20, hall⟩, ⟨x0, x1⟩, ⟨y0, y1⟩, hxy⟩ := twoM_parts hk
  have hnet : netOk (n : Int) ts = true := by simp only [twoM, Bool.and_eq_true] at hk; exact hk.1.1.1
  have HN := hide (netP_of hnet x0 x1 y0 y1 hxy)
  have HT := hide (fun W (hb : Below w.heap.size w W) => (show Calls Try.prog 39 #[.agg #[.int .i64 (n : Int), .slice a ts.length cap], .int .i64 (x : Int), .int .i64 (y : Int)] W fun e w' => Rets W (.bool true) e w' by
    have := twoPlaces_any n a cap ts x y W (hc.below hb) (by omega); rw [hk] at this; exact this))
  have HBR := hide (fun (W : World) (g : Nat) (fs : List Int) (hW : Rd3 W a ts) (hf : Rd W (some ⟨g, 0, none⟩) fs) (hl : fs.length = ts.length) => (show Calls Try.prog 41 #[.agg #[.int .i64 (n : Int), .slice a ts.length cap], .slice (some ⟨g, 0, none⟩) ts.length ts.length, .int .i64 (x : Int)] W
      fun e w' => ∃ b, W.heap.size ≤ b ∧ e = .returned (.map (some b)) ∧ CameMap w' b x (bfs n ts fs x) ∧ Below W.heap.size W w' by
    have := breadth_any n x a (some ⟨g, 0, none⟩) cap ts.length ts fs W hW hf hnet (by omega) hl
    rw [hl] at this; exact this))
  have hmk := make_ints 30 Try.underlying30 ts.length (by omega)
  have HA := hide hall
  clear hall hk hnet
  go_enter Try.func27, Try.ntmps27
  go_wp2_with fail
  (with_reducible refine (HT.out _ (belA (Below.refl _ _))).mono ?_)
  rintro e w2 ⟨rfl, hb⟩
  have b0 := belT (belA (Below.refl w.heap.size w)) hb
  have hbx : BoxN w2 w.heap.size n a ts.length cap := heap_grow (blk_new w _ _) hb
  have hb2 : w.heap.size + 1 ≤ w2.heap.size := by have := hb.size; simpa using this
  have hc2 := hc.below b0
  have c0 := cell_of_block hbx 0
  have c1 := cell_of_block hbx 1
  simp at c0 c1
  go_wp2
  have hz := own_zero w2 3 ts.length
  have hzf := zero_flow (p := n) (x := (x : Int)) (y := (y : Int)) (ts := ts) (fun t ht => by have := HN.out.wid t ht; omega)
  have HS := hide (⟨hz, hzf.1, rfl, by rw [hzf.2]; omega, (Below.refl w2.heap.size w2).alloc (Nat.le_refl _) _, by simp⟩ : FfS n ts x y w2.heap.size w2 (List.replicate ts.length 0) 20001 (w2.alloc (.cells (Array.replicate ts.length (Value.int .i64 0)) 3)))
  clear hz hzf hmk c0 c1 HT hc
  have CEL := hide (fun (W : World) (hW : Below w2.heap.size w2 W) => (show W.cell? ⟨w.heap.size, 0, none⟩ = some (.int .i64 n) ∧ W.cell? ⟨w.heap.size, 1, none⟩ = some (.slice a ts.length cap) by
    have h := hbx.below hW (by omega)
    exact ⟨by have := cell_of_block h 0; simpa using this, by have := cell_of_block h 1; simpa using this⟩))
  have HC2 := hide hc2
  clear hbx hb hc2
  have B0 := hide b0
  clear b0
  generalize hfb : w2.heap.size = fb at *
  go_loopw [9] (fun _ wr => ∃ (fs : List Int) (m : Nat), Hid (FfS n ts x y fb w2 fs m wr)) (fun _ wr => (20000 - gainL x ts (rdI wr fb)).toNat)
  case atStart => exact ⟨_, _, HS⟩
  case round =>
    clear HS
    obtain ⟨fs, m, HS⟩ := hrel
    obtain ⟨c0, c1⟩ := CEL.out _ HS.out.bel
    have l0 := World.block_lt_of_cell? _ _ c0
    simp at l0
    have hcr := HC2.out.below (show Below w2.heap.size w2 wr by rw [hfb]; exact HS.out.bel)
    have hbr := HBR.out wr fb fs hcr HS.out.own.rd HS.out.flow.fit.1
    clear hcr
    go_wp2_with fail
    (with_reducible refine hbr.mono ?_)
    rintro e w3 ⟨mb, hmb, rfl, hcm, hb3⟩
    obtain ⟨sp, sk, hlk⟩ := hcm.look (z := y) (by omega)
    have HCM := hide hcm
    have HIV := hide (bfs_inv HN.out.inn HS.out.flow.fit.1 HN.out.x0 HN.out.x1).1
    have B3 := hide hb3
    by_cases hy : (y : Int) ∈ (bfs n ts fs x).1
    · rw [decide_eq_true hy] at hlk
      clear c0 c1 l0 hbr hcm hb3
      have HY := hide hy
      clear hy
      go_wp2
      obtain ⟨w4, hw4⟩ : ∃ w4, w4 = w3.alloc (.cells #[.int .i64 sp, .bool sk] 72) := ⟨_, rfl⟩
      have b4 : Below w3.heap.size w3 w4 := by subst hw4; exact belA (Below.refl _ _)
      rw [← hw4]
      clear hw4 hlk
      have b34 := B3.out.trans (b4.mono B3.out.size)
      have HS4 := hide (HS.out.own.below b34)
      have HCM4 := hide (HCM.out.below b4)
      have BF4 := hide (HS.out.bel.trans (b34.mono (by have := HS.out.sz; omega)))
      have fb4 : fb < w4.heap.size := HS4.out.lt
      have mb4 : mb < w4.heap.size := HCM4.out.lt
      have fbm : fb < mb := by have := HS.out.sz; omega
      clear HCM B3 b4 b34
      have HW0 := hide (WayAt.start HIV.out HY.out)
      have OW0 := hide (OwnsW.nil w4.heap.size w4)
      go_loopw [12, 13, 14] (fun v r i wr' => ∃ (l : List Int) (z : Int), r = .int .i64 (roomM ts fs l 1000) ∧ i = .int .i64 z ∧ Hid (OwnsW w4.heap.size wr' v l) ∧ Hid (WayAt n ts fs x (bfs n ts fs x) y l z) ∧ lenOf v = l.length ∧ Hid (Below w4.heap.size w4 wr')) (fun v _ _ _ => n - lenOf v)
      case atStart => exact ⟨[], y, rfl, rfl, OW0, HW0, rfl, Below.refl _ _⟩
      case round =>
        clear OW0 HW0
        obtain ⟨l, z, rfl, rfl, OW, HW, hlen, BW⟩ := hrel
        have HLE := hide hlen
        obtain ⟨r1, r2⟩ := room_bd (fun c hc => (HW.out.cod c hc).2.2)
        have BW2 := hide (BF4.out.trans (BW.out.mono (by omega)))
        obtain ⟨c0, c1⟩ := CEL.out _ BW2.out
        have l0 := World.block_lt_of_cell? _ _ c0
        simp at l0
        by_cases hzx : z = (x : Int)
        · subst hzx
          have HWD := hide HW.out.done
          have hNE : l ≠ [] := by rw [← HWD.out]; exact way_ne (by omega) (fun e => hxy e.symm)
          rcases OW.out.cases with ⟨_, h0⟩ | ⟨g, cg, rfl, hgb, hcl⟩
          · exact absurd h0 hNE
          have HND := HW.out.nodup HY.out
          have HCD := hide HW.out.cod
          have HAB := hide (fun k j hj => aug_bd HS.out.flow.fit (fun t ht => (HN.out.wid t ht).2) HND (fun c hc => ⟨(HCD.out c hc).1, (HCD.out c hc).2.1⟩) r1 r2 k j hj)
          have HAS := hide (show augS n ts fs x y = augM (roomM ts fs l 1000) l fs by unfold augS; rw [HWD.out])
          generalize roomM ts fs l 1000 = r at *
          have HCL := hide hcl
          have O0 := hide (show OwnI wr fb 3 (augM r (l.take 0) fs) from HS4.out.below BW.out)
          have hl8 := HW.out.len
          have HAL := hide (fun k => aug_length r (l.take k) fs)
          clear HND hcl hNE HW HWD c0 c1 l0 hlen
          go_wp2
          go_loopw [91] (fun i wq => ∃ k : Nat, k ≤ l.length ∧ i = .int .i64 k ∧ Hid (OwnI wq fb 3 (augM r (l.take k) fs)) ∧ Hid (wr.grownBy wq (some fb))) (fun i _ => l.length - (intOf i).toNat)
          case atStart => exact ⟨0, Nat.zero_le _, rfl, O0, grownBy_refl _ _⟩
          case round =>
            clear O0
            obtain ⟨k, hk, rfl, OI, HG⟩ := hrel
            have hgs := HG.out.size
            by_cases hkl : k < l.length
            · obtain ⟨q0, q1⟩ := HCL.out k hkl
              replace q0 := grown_cell HG.out q0 (by simp; omega)
              replace q1 := grown_cell HG.out q1 (by simp; omega)
              obtain ⟨cd0, cd1, _⟩ := HCD.out _ (getD_memI hkl)
              have HTS := hide (show augM r (l.take (k + 1)) fs = augOne r (augM r (l.take k) fs) (l.getD k 0) by rw [take_snoc l k hkl, augM_snoc])
              generalize l.getD k 0 = c at *
              obtain ⟨p, hp⟩ := Int.eq_ofNat_of_zero_le (show 0 ≤ c / 2 by omega)
              unfold augOne at HTS
              rw [hp, Int.toNat_natCast] at HTS
              rw [hp, Int.toNat_natCast] at cd1
              rw [hp] at q0
              have hbd := HAB.out k p cd1
              have fc := OI.out.cell p (by rw [HAL.out, HS.out.flow.fit.1]; exact cd1)
              have fz := frozen_of_block OI.out p
              have OST := hide (fun v => (OI.out.set p v).below (belA (o := .cells #[.int .i64 (p : Int), .bool (decide (c % 2 ≠ 0))] 72) (Below.refl _ _)))
              have GST := hide (fun v => grownBy_trans HG.out (grownBy_trans (grownBy_set _ fb p (.int .i64 v)) (grownR (r := some fb) (belA (o := .cells #[.int .i64 (p : Int), .bool (decide (c % 2 ≠ 0))] 72) (Below.refl _ _)))))
              generalize (augM r (l.take k) fs).getD p 0 = av at *
              have lb0 := World.block_lt_of_cell? _ _ q0
              have lb1 := World.block_lt_of_cell? _ _ fc
              simp at lb0 lb1
              have kl : (k : Int) < (l.length : Int) := by omega
              have pl : (p : Int) < (ts.length : Int) := by omega
              by_cases hc2 : c % 2 = 0
              · have hd : decide (c % 2 ≠ 0) = false := by simp [hc2]
                rw [if_pos hc2] at HTS
                rw [hd] at q1 OST GST
                clear hd hc2 hp
                go_wp2
                go_roundw
                case rel => exact ⟨k + 1, by omega, by go_num, by rw [HTS.out]; exact OST.out _, GST.out _⟩
                case measure => simp [intOf]; omega
              · have hd : decide (c % 2 ≠ 0) = true := by simp [hc2]
                rw [if_neg hc2] at HTS
                rw [hd] at q1 OST GST
                clear hd hc2 hp
                go_wp2
                go_roundw
                case rel => exact ⟨k + 1, by omega, by go_num, by rw [HTS.out]; exact OST.out _, GST.out _⟩
                case measure => simp [intOf]; omega
            · have hkk : k = l.length := by omega
              subst hkk
              have oi := OI.out
              rw [List.take_of_length_le (Nat.le_refl _), ← HAS.out] at oi
              have BQ : Below fb w2 wr := (BF4.out.trans (BW.out.mono (by omega))).grown HG.out (by have := BW.out.size; omega) (fun k' hk' => by cases hk'; exact Nat.le_refl _)
              obtain ⟨hnx, g1, g2⟩ := HS.out.next HN.out HY.out oi BQ (by have := BW.out.size; omega)
              have HNX := hide hnx
              have R1 := rdI_own HS.out.own
              have R2 := rdI_own oi
              clear hnx oi BQ
              go_wp2
              go_roundw
              case rel => exact ⟨_, _, HNX⟩
              case measure => rw [R1, R2]; omega
        · obtain ⟨z1, z2, z3, z4, z5, z6, z7, hnx⟩ := HW.out.next hzx
          have HNX := hide hnx
          obtain ⟨z, rfl⟩ := Int.eq_ofNat_of_zero_le z2
          rw [Int.toNat_natCast] at z4 z5 z6 HNX
          obtain ⟨p, k, hget, hpk⟩ := (HCM4.out.below BW.out).get (z := z) (by omega) z1 hzx
          rw [← hpk] at z4 z5 z6 HNX
          have HSN := hide (roomM_snoc ts fs l (2 * p + bI k) 1000)
          have p0 : 0 ≤ p := by cases k <;> simp [bI] at z4 <;> omega
          obtain ⟨p, rfl⟩ := Int.eq_ofNat_of_zero_le p0
          have ep : (p : Int) = (2 * (p : Int) + bI k) / 2 := by cases k <;> simp [bI] <;> omega
          have ek : k = decide ((2 * (p : Int) + bI k) % 2 ≠ 0) := by cases k <;> simp [bI] <;> omega
          rw [← ep, Int.toNat_natCast] at z5
          have hf0 := (HS4.out.below BW.out).cell p (by rw [HS.out.flow.fit.1]; exact z5)
          obtain ⟨b1, off1, rfl, hp0, hp1, hp2⟩ := HC2.out.below (show Below w2.heap.size w2 wr by rw [hfb]; exact BW2.out) p z5
          have hfd := HS.out.flow.fit.2 p z5
          have hwd := HN.out.wid _ (getD_mem3 z5)
          have hrm : roomOf ts fs (2 * (p : Int) + bI k) = if k then fs.getD p 0 else (ts.getD p default).2.2 - fs.getD p 0 := by
            unfold roomOf
            rw [← ep, Int.toNat_natCast]
            cases k <;> simp [bI] <;> omega
          have hpv : prevOf ts (2 * (p : Int) + bI k) = if k then (ts.getD p default).2.1 else (ts.getD p default).1 := by
            unfold prevOf
            rw [← ep, Int.toNat_natCast]
            cases k <;> simp [bI] <;> omega
          rw [hrm] at HSN
          rw [hpv] at HNX
          clear hrm hpv z1 z2 hpk hnx
          generalize hue : ts.getD p default = u at *
          generalize hfe : fs.getD p 0 = f at *
          have HFE := hide hfe
          obtain ⟨y1, y2, wd⟩ := u
          have HUE := hide hue
          clear hue hfe
          simp only at hp0 hp1 hp2 hfd hwd HNX HSN
          have bl1 := World.block_lt_of_cell? _ _ hp0
          have bl2 := World.block_lt_of_cell? _ _ hf0
          simp at bl1 bl2
          have hov : ∀ g, u12.ownBlock = some g → g < wr.heap.size := fun g hg => (OW.out.lt g hg).2
          have HOV := hide hov
          have OWA := hide (OW.out.below (belA (o := .cells #[.int .i64 (p : Int), .bool k] 72) (Below.refl _ _)))
          have hsz : w4.heap.size ≤ (wr.alloc (.cells #[.int .i64 (p : Int), .bool k] 72)).heap.size := by have := BW.out.size; simp; omega
          generalize roomM ts fs l 1000 = r at *
          have HEP := hide ep
          have HEK := hide ek
          clear hov ep ek hlen
          have HZ5 := hide z5
          cases k with
          | true =>
            simp only [if_true] at HNX HSN
            by_cases hle : r ≤ f
            · have HR2 := hide (show roomM ts fs (l ++ [2 * (p : Int) + bI true]) 1000 = r by rw [HSN.out]; omega)
              clear HSN
              go_wp2_with (first | (at_builtin; refine appendW rfl _ _ rfl w4.heap.size _ l (2 * (p : Int) + bI true) (p : Int) true HEP.out HEK.out (wr.heap.size + 1) (by simp) OWA.out rfl rfl (by omega) hsz ?_; intro v6 w6 ow6 gr6; have BW6 := hide (show Below w4.heap.size w4 w6 from (BW.out.alloc BW.out.size _).grown gr6 hsz (fun g hg => (OWA.out.lt g hg).1)); have BF6 := hide (BF4.out.trans (BW6.out.mono (by omega))); have fl6 := (HS4.out.below BW6.out).cell p (by rw [HS.out.flow.fit.1]; exact HZ5.out); rw [HFE.out] at fl6; obtain ⟨d0, d1⟩ := CEL.out _ BF6.out; obtain ⟨_, _, e6, q0, q1, q2⟩ := HC2.out.below (show Below w2.heap.size w2 w6 by rw [hfb]; exact BF6.out) p HZ5.out; cases e6; rw [HUE.out] at q0 q1 q2; have sb6 := grown_heap gr6 (blk_new wr #[.int .i64 (p : Int), .bool true] 72) (fun e => by have := HOV.out _ e; omega); have s0 := cell_of_block sb6 0; have s1 := cell_of_block sb6 1; simp at s0 s1; have t1 := World.block_lt_of_cell? _ _ s0; have t2 := World.block_lt_of_cell? _ _ fl6; have t3 := World.block_lt_of_cell? _ _ q0; have t4 := World.block_lt_of_cell? _ _ d0; simp at t1 t2 t3 t4) | fail)
              have BW7 := BW6
              have OW7 := hide ow6
              go_roundw
              case rel => exact ⟨l ++ [2 * (p : Int) + bI true], _, by rw [HR2.out]; first | done | rfl | (congr 1; split <;> omega), rfl, OW7, HNX, OW7.out.lenOf, BW7⟩
              case measure => rw [OW7.out.lenOf, HLE.out]; simp; omega
            · have HR2 := hide (show roomM ts fs (l ++ [2 * (p : Int) + bI true]) 1000 = f by rw [HSN.out]; omega)
              clear HSN
              go_wp2_with (first | (at_builtin; refine appendW rfl _ _ rfl w4.heap.size _ l (2 * (p : Int) + bI true) (p : Int) true HEP.out HEK.out (wr.heap.size + 1) (by simp) OWA.out rfl rfl (by omega) hsz ?_; intro v6 w6 ow6 gr6; have BW6 := hide (show Below w4.heap.size w4 w6 from (BW.out.alloc BW.out.size _).grown gr6 hsz (fun g hg => (OWA.out.lt g hg).1)); have BF6 := hide (BF4.out.trans (BW6.out.mono (by omega))); have fl6 := (HS4.out.below BW6.out).cell p (by rw [HS.out.flow.fit.1]; exact HZ5.out); rw [HFE.out] at fl6; obtain ⟨d0, d1⟩ := CEL.out _ BF6.out; obtain ⟨_, _, e6, q0, q1, q2⟩ := HC2.out.below (show Below w2.heap.size w2 w6 by rw [hfb]; exact BF6.out) p HZ5.out; cases e6; rw [HUE.out] at q0 q1 q2; have sb6 := grown_heap gr6 (blk_new wr #[.int .i64 (p : Int), .bool true] 72) (fun e => by have := HOV.out _ e; omega); have s0 := cell_of_block sb6 0; have s1 := cell_of_block sb6 1; simp at s0 s1; have t1 := World.block_lt_of_cell? _ _ s0; have t2 := World.block_lt_of_cell? _ _ fl6; have t3 := World.block_lt_of_cell? _ _ q0; have t4 := World.block_lt_of_cell? _ _ d0; simp at t1 t2 t3 t4) | fail)
              have BW7 := BW6
              have OW7 := hide ow6
              go_roundw
              case rel => exact ⟨l ++ [2 * (p : Int) + bI true], _, by rw [HR2.out]; first | done | rfl | (congr 1; split <;> omega), rfl, OW7, HNX, OW7.out.lenOf, BW7⟩
              case measure => rw [OW7.out.lenOf, HLE.out]; simp; omega
          | false =>
            simp only [Bool.false_eq_true, if_false] at HNX HSN
            by_cases hle : r ≤ wd - f
            · have HR2 := hide (show roomM ts fs (l ++ [2 * (p : Int) + bI false]) 1000 = r by rw [HSN.out]; omega)
              have W1 : IntKind.i64.wrap (wd - f) = wd - f := IntWalk.i64_in _ (by omega)
              clear HSN
              go_wp2_with (first | (at_builtin; refine appendW rfl _ _ rfl w4.heap.size _ l (2 * (p : Int) + bI false) (p : Int) false HEP.out HEK.out (wr.heap.size + 1) (by simp) OWA.out rfl rfl (by omega) hsz ?_; intro v6 w6 ow6 gr6; have BW6 := hide (show Below w4.heap.size w4 w6 from (BW.out.alloc BW.out.size _).grown gr6 hsz (fun g hg => (OWA.out.lt g hg).1)); have BF6 := hide (BF4.out.trans (BW6.out.mono (by omega))); have fl6 := (HS4.out.below BW6.out).cell p (by rw [HS.out.flow.fit.1]; exact HZ5.out); rw [HFE.out] at fl6; obtain ⟨d0, d1⟩ := CEL.out _ BF6.out; obtain ⟨_, _, e6, q0, q1, q2⟩ := HC2.out.below (show Below w2.heap.size w2 w6 by rw [hfb]; exact BF6.out) p HZ5.out; cases e6; rw [HUE.out] at q0 q1 q2; have sb6 := grown_heap gr6 (blk_new wr #[.int .i64 (p : Int), .bool false] 72) (fun e => by have := HOV.out _ e; omega); have s0 := cell_of_block sb6 0; have s1 := cell_of_block sb6 1; simp at s0 s1; have t1 := World.block_lt_of_cell? _ _ s0; have t2 := World.block_lt_of_cell? _ _ fl6; have t3 := World.block_lt_of_cell? _ _ q0; have t4 := World.block_lt_of_cell? _ _ d0; simp at t1 t2 t3 t4) | fail)
              (refine wp_region_g [0, 1, 2, 3, 4, 5, 6, 7, 8, 9, 10, 11, 12, 13, 14, 15] [] (by kernel_rfl) (by kernel_rfl) ?_; simp only [pick, List.map_cons, List.map_nil, Array.getD_eq_getD_getElem?, List.getElem?_toArray, List.getElem?_cons_zero, List.getElem?_cons_succ, Option.getD_some]; (iterate 16 (refine wpG_step (fun K hK => ?_); go_simp; first | (refine hK _ ?_; clear hK K) | (apply Exists.intro; refine ⟨fun _ => ?_, hK _ ?_⟩; (fail); clear hK K))); refine wpG_nil ?_)
              intro w7 hb7
              have b7 := below_of_inC hb7
              replace d0 := cellB b7 d0
              replace d1 := cellB b7 d1
              replace q0 := cellB b7 q0
              replace q1 := cellB b7 q1
              replace s0 := cellB b7 s0
              replace s1 := cellB b7 s1
              have BW7 := hide (BW6.out.trans (b7.mono BW6.out.size))
              have OW7 := hide (OwnsW.below ow6 b7)
              clear hb7
              go_wp2
              go_roundw
              case rel => exact ⟨l ++ [2 * (p : Int) + bI false], _, by rw [HR2.out]; first | done | rfl | (congr 1; split <;> omega), rfl, OW7, HNX, OW7.out.lenOf, BW7⟩
              case measure => rw [OW7.out.lenOf, HLE.out]; simp; omega
            · have HR2 := hide (show roomM ts fs (l ++ [2 * (p : Int) + bI false]) 1000 = (wd - f) by rw [HSN.out]; omega)
              have W1 : IntKind.i64.wrap (wd - f) = wd - f := IntWalk.i64_in _ (by omega)
              clear HSN
              go_wp2_with (first | (at_builtin; refine appendW rfl _ _ rfl w4.heap.size _ l (2 * (p : Int) + bI false) (p : Int) false HEP.out HEK.out (wr.heap.size + 1) (by simp) OWA.out rfl rfl (by omega) hsz ?_; intro v6 w6 ow6 gr6; have BW6 := hide (show Below w4.heap.size w4 w6 from (BW.out.alloc BW.out.size _).grown gr6 hsz (fun g hg => (OWA.out.lt g hg).1)); have BF6 := hide (BF4.out.trans (BW6.out.mono (by omega))); have fl6 := (HS4.out.below BW6.out).cell p (by rw [HS.out.flow.fit.1]; exact HZ5.out); rw [HFE.out] at fl6; obtain ⟨d0, d1⟩ := CEL.out _ BF6.out; obtain ⟨_, _, e6, q0, q1, q2⟩ := HC2.out.below (show Below w2.heap.size w2 w6 by rw [hfb]; exact BF6.out) p HZ5.out; cases e6; rw [HUE.out] at q0 q1 q2; have sb6 := grown_heap gr6 (blk_new wr #[.int .i64 (p : Int), .bool false] 72) (fun e => by have := HOV.out _ e; omega); have s0 := cell_of_block sb6 0; have s1 := cell_of_block sb6 1; simp at s0 s1; have t1 := World.block_lt_of_cell? _ _ s0; have t2 := World.block_lt_of_cell? _ _ fl6; have t3 := World.block_lt_of_cell? _ _ q0; have t4 := World.block_lt_of_cell? _ _ d0; simp at t1 t2 t3 t4) | fail)
              (refine wp_region_g [0, 1, 2, 3, 4, 5, 6, 7, 8, 9, 10, 11, 12, 13, 14, 15] [] (by kernel_rfl) (by kernel_rfl) ?_; simp only [pick, List.map_cons, List.map_nil, Array.getD_eq_getD_getElem?, List.getElem?_toArray, List.getElem?_cons_zero, List.getElem?_cons_succ, Option.getD_some]; (iterate 16 (refine wpG_step (fun K hK => ?_); go_simp; first | (refine hK _ ?_; clear hK K) | (apply Exists.intro; refine ⟨fun _ => ?_, hK _ ?_⟩; (fail); clear hK K))); refine wpG_nil ?_)
              intro w7 hb7
              have b7 := below_of_inC hb7
              replace d0 := cellB b7 d0
              replace d1 := cellB b7 d1
              replace q0 := cellB b7 q0
              replace q1 := cellB b7 q1
              replace s0 := cellB b7 s0
              replace s1 := cellB b7 s1
              have BW7 := hide (BW6.out.trans (b7.mono BW6.out.size))
              have OW7 := hide (OwnsW.below ow6 b7)
              clear hb7
              go_wp2
              go_roundw
              case rel => exact ⟨l ++ [2 * (p : Int) + bI false], _, by rw [HR2.out]; first | done | rfl | (congr 1; split <;> omega), rfl, OW7, HNX, OW7.out.lenOf, BW7⟩
              case measure => rw [OW7.out.lenOf, HLE.out]; simp; omega
    · rw [decide_eq_false hy] at hlk
      have HE := hide (HS.out.end_ hy)
      clear hy
      go_wp2
      go_ret2
      have o3 := HS.out.own.below B3.out
      refine ⟨_, rfl, ?_, ?_⟩
      · rw [HE.out]
        exact (o3.below (belA (Below.refl _ _))).owns (by omega) HS.out.flow.fit.1 (by omega)
      · exact (B0.out.trans ((HS.out.bel.mono (by omega)))).trans ((B3.out.mono (by have := HS.out.sz; omega)).alloc (by have := B3.out.size; have := HS.out.sz; omega) _)

end Go.Proofs.Yteimcbhnjhkkbaa
