/- The walk of the law of rights. -/
import Derived.Test.YtjcoajaoofjjmaaRgtDraw
import Derived.Test.YtjcoajaoofjjmaaRlwM2
import Derived.Test.YtjcoajaoofjjmaaDivI
import Derived.Test.YtjcoajaoofjjmaaSell2
import Derived.Deep.DeepCutAuto
import Derived.Deep.CutBlock
namespace Go.Proofs.Ytjcoajaoofjjmaa
set_option linter.unusedSimpArgs false
set_option linter.unusedVariables false
set_option linter.unnecessarySimpa false
open Go.RowKit

theorem rlwDivide (a : Option Addr) (cap : Nat) (ts : List T3) (W : Int) (d : List Int) (h : DivOk ts W d) (hn : ts.length ≤ 12) (w : World) (hc : Rd3 w a ts) :
    Calls Try.prog 38 #[.slice a ts.length cap, .int .i64 W] w fun e w' => ∃ (da : Option Addr) (dc : Nat), e = .returned (.slice da ts.length dc) ∧ Rd w' da d ∧ Below w.heap.size w w' := by
  refine (implDivide_any a cap ts W w hc (by omega)).mono ?_
  rintro e w' ⟨v, rfl, hv, hb⟩
  rw [h.eq] at hv
  obtain ⟨da, dc, rfl, hr⟩ := hv.slice
  exact ⟨da, dc, by rw [h.len], hr, hb⟩
theorem rlwSum (a : Option Addr) (cap : Nat) (ts : List T3) (hR : rightsM ts = true) (w : World) (hc : Rd3 w a ts) :
    Calls Try.prog 18 #[.slice a ts.length cap] w fun e w' => Rets w (.tuple #[.agg #[.int .i64 1, .int .i64 1], .bool true]) e w' := by
  obtain ⟨_, h2, _, h4⟩ := rights_parts hR
  have := implSumOfShares_any a cap ts w hc (by omega)
  rw [h4] at this; exact this
theorem rlwOk (a : Option Addr) (cap : Nat) (ts : List T3) (n : Nat) (hR : rightsM ts = true) (hn : ts.length = n) (w : World) (hc : Rd3 w a ts) :
    Calls Try.prog 22 #[.slice a n cap] w fun e w' => Rets w (.bool true) e w' := by
  obtain ⟨_, h2, _, _⟩ := rights_parts hR
  have := implRightsOk_any a cap ts w hc (by omega)
  rw [hR, hn] at this; exact this
theorem sold_length {ts : List T3} {k : Nat} {m : Int × Int} : (soldL ts k m).length = ts.length + 1 := by simp [soldL]
theorem rlwHalf {ts : List T3} {k : Nat} {m : Int × Int} (h : HalfOk ts k m) (hn : ts.length ≤ 12) (a : Option Addr) (cap : Nat) (w : World) (hc : Rd3 w a ts) :
    Calls Try.prog 41 #[.slice a ts.length cap, .int .i64 (ts.getD k default).1, .int .i64 500, .agg #[.int .i64 1, .int .i64 2]] w fun e w' => ∃ g c, e = .returned (.tuple #[.slice (some ⟨g, 0, none⟩) (ts.length + 1) c, .bool true]) ∧ w.heap.size ≤ g ∧ OwnP w' g 56 (flat (soldL ts k m)) ∧ Below w.heap.size w w' := by
  refine (implSell_any a cap ts (ts.getD k default).1 500 1 2 w hc (by omega)).mono ?_
  rw [h.sell]
  rintro e w' ⟨v, rfl, hv, hb⟩
  obtain ⟨g, c, rfl, hg, ho⟩ := hv.some (by show 1 ≤ (soldL ts k m).length; rw [sold_length]; omega)
  exact ⟨g, c, by show _ = Ending.returned (.tuple #[.slice _ (ts.length + 1) c, .bool true]); rw [show ((some (soldL ts k m)).getD ts).length = ts.length + 1 from sold_length]; rfl, hg, ho, hb⟩
theorem rlwBack {ts : List T3} {k : Nat} {m : Int × Int} (h : HalfOk ts k m) (hR : rightsM ts = true) (a : Option Addr) (cap : Nat) (w : World) (hc : Rd3 w a (soldL ts k m)) :
    Calls Try.prog 41 #[.slice a (ts.length + 1) cap, .int .i64 500, .int .i64 (ts.getD k default).1, .agg #[.int .i64 1, .int .i64 1]] w fun e w' => ∃ g c, e = .returned (.tuple #[.slice (some ⟨g, 0, none⟩) ts.length c, .bool true]) ∧ OwnP w' g 56 (flat ts) ∧ Below w.heap.size w w' := by
  have hn := rights_parts hR
  rw [← sold_length (ts := ts) (k := k) (m := m)]
  refine (implSell_any a cap (soldL ts k m) 500 (ts.getD k default).1 1 1 w hc (by rw [sold_length]; omega)).mono ?_
  rw [h.back]
  rintro e w' ⟨v, rfl, hv, hb⟩
  obtain ⟨g, c, rfl, hg, ho⟩ := hv.some (by show 1 ≤ ts.length; omega)
  exact ⟨g, c, rfl, ho, hb⟩

theorem sold_get {ts : List T3} {k : Nat} {m : Int × Int} (hR : rightsM ts = true) (hw : ∀ t ∈ ts, t.1 ≤ 12) (hk : k < ts.length) (i : Nat) (hi : i < ts.length + 1) :
    (i = ts.length ∧ (soldL ts k m).getD i default = (500, m.1, m.2)) ∨ (i = k ∧ (soldL ts k m).getD i default = ((ts.getD k default).1, m.1, m.2)) ∨ (i < ts.length ∧ i ≠ k ∧ ((soldL ts k m).getD i default).1 ≠ 500 ∧ ((soldL ts k m).getD i default).1 ≠ (ts.getD k default).1) := by
  have hs0 := srt_of_rgA (rights_parts hR).2.2.1
  have hid := idxO_at hs0 hk
  by_cases h1 : i = ts.length
  · subst h1
    left
    refine ⟨rfl, ?_⟩
    unfold soldL
    rw [List.getD_eq_getElem?_getD, List.getElem?_append_right (by simp)]
    simp
  · right
    have hil : i < ts.length := by omega
    have e : (soldL ts k m).getD i default = (ts.set k ((ts.getD k default).1, m.1, m.2)).getD i default := by
      unfold soldL
      rw [List.getD_eq_getElem?_getD, List.getElem?_append_left (by simpa using hil), ← List.getD_eq_getElem?_getD]
    rw [e]
    by_cases h2 : i = k
    · subst h2
      left
      exact ⟨rfl, getD_set_self hil⟩
    · right
      have e2 : (ts.set k ((ts.getD k default).1, m.1, m.2)).getD i default = ts.getD i default := by
        rw [List.getD_eq_getElem?_getD, List.getElem?_set_ne (by omega), ← List.getD_eq_getElem?_getD]
      rw [e2]
      refine ⟨hil, h2, ?_, ?_⟩
      · have := hw _ (getD_mem3' hil); omega
      · rcases Nat.lt_or_ge i k with h | h
        · exact idxO_ne i (by rw [hid]; exact h)
        · exact srt_past i hs0 (by rw [hid]; omega) hil

theorem take_sum (d : List Int) (k : Nat) (h : k < d.length) : (d.take (k + 1)).sum = (d.take k).sum + d.getD k 0 := by
  rw [List.take_add_one, List.sum_append]
  simp [List.getD_eq_getElem?_getD, h]

theorem rd3_own {w : World} {g : Nat} {ts : List T3} (h : Rd3 w (some ⟨g, 0, none⟩) ts) (k : Nat) (hk : k < ts.length) :
    w.cell? ⟨g, k * 3, none⟩ = some (.int .i64 (ts.getD k default).1) ∧ w.cell? ⟨g, k * 3 + 1, none⟩ = some (.int .i64 (ts.getD k default).2.1) ∧ w.cell? ⟨g, k * 3 + 1 + 1, none⟩ = some (.int .i64 (ts.getD k default).2.2) ∧ w.cell? ⟨g, k * 3 + 2, none⟩ = some (.int .i64 (ts.getD k default).2.2) := by
  obtain ⟨b, off, e, h0, h1, h2⟩ := h k hk
  cases e
  rw [Nat.zero_add] at h0 h1 h2
  exact ⟨h0, h1, h2, h2⟩

theorem below_dr {B n : Nat} {a w : World} (h : Below B a w) : Below B a (w.drewN n) := ⟨h.os, h.tape, h.output, h.size, h.block⟩

set_option maxRecDepth 100000 in
set_option maxHeartbeats 4000000 in
theorem law_Rights (a : Option Addr) (cap : Nat) (bs : List Int) (w : World) (hr : Rd8 w a bs) (hm : bs.length ≤ 9223372036854775807) :
    Calls Try.prog 13 #[.slice a bs.length cap] w fun e w' => Rets w (.bool true) e w' := by
  by_cases hl : bs.length ≤ 1048576
  case neg =>
    have hd : decide (1048576 < bs.length) = true := by simp; omega
    have HB := hide (show ∀ W, Calls Try.prog 46 #[.slice a bs.length cap] W fun e w' => e = .returned (.bool true) ∧ W = w' from fun W => by rw [← hd]; exact big_any a bs.length cap W hm)
    clear hd
    go_enter Try.func13, Try.ntmps13
    go_wp2_with fail
    refine (HB.out _).mono ?_
    rintro e w' ⟨rfl, rfl⟩
    go_wp2
    go_ret
    exact ⟨rfl, Below.refl _ _⟩
  have hd : decide (1048576 < bs.length) = false := by simp; omega
  have HB := hide (show ∀ W, Calls Try.prog 46 #[.slice a bs.length cap] W fun e w' => e = .returned (.bool false) ∧ W = w' from fun W => by rw [← hd]; exact big_any a bs.length cap W hm)
  clear hd
  go_enter Try.func13, Try.ntmps13
  go_wp2_with fail
  refine (HB.out _).mono ?_
  rintro e w' ⟨rfl, rfl⟩
  clear HB
  go_wp2_with fail
  refine (DrawRights_any a cap bs w hr hl).mono ?_
  rintro e w1 ⟨g2, c2, ts, rfl, hts, hg2, ho2, hb1⟩
  have hc1 := ho2.rd3
  have hg2l := ho2.lt
  clear ho2
  have hl1 := (rights_parts hts.ok).1
  have hl6 := hts.len
  have HT := hide hts
  have HU := hide (hts.d1024 (Int.dvd_refl _))
  have HR := hide hts.ok
  clear hts
  go_wp2_with fail
  refine (at_any a cap bs 0 w1 (hr.below hb1) hl (by omega) (by omega)).mono ?_
  rintro e w1' ⟨⟨h, rfl, h0, h255⟩, rfl⟩
  have hr1 := hr.below hb1
  clear hr
  obtain ⟨d, hd⟩ := div_ok (W := h * 5) HR.out HU.out (by omega) (by omega)
  have HD := hide hd
  have w5 : 0 ≤ h * 5 ∧ h * 5 ≤ 1275 := by omega
  clear hd
  go_wp2_with fail
  generalize h * 5 = Wt at *
  refine (rlwDivide _ _ ts Wt d HD.out (by omega) w1 hc1).mono ?_
  rintro e w2 ⟨da, dc, rfl, hrd, hb2⟩
  have b2 := belT hb1 hb2
  have hc2 := hc1.below hb2
  have hr2 := hr1.below hb2
  clear hb1 hb2 hc1 hr1
  go_wp2_with fail
  refine (rlwSum _ _ ts HR.out w2 hc2).mono ?_
  rintro e w3 ⟨rfl, hb3⟩
  have b3 := belT b2 hb3
  have hc3 := hc2.below hb3
  have hr3 := hr2.below hb3
  have hd3 := hrd.below hb3
  clear b2 hb3 hc2 hr2 hrd
  have b4 := belA (o := .cells #[.int .i64 1, .int .i64 1] 25) b3
  have b34 : Below w3.heap.size w3 (w3.alloc (.cells #[.int .i64 1, .int .i64 1] 25)) := belA (Below.refl _ _)
  have hx4 := blk_new w3 #[.int .i64 1, .int .i64 1] 25
  have hc4 := hc3.below b34
  have hr4 := hr3.below b34
  have hd4 := hd3.below b34
  clear b34 hc3 hr3 hd3 b3
  go_upto_region 7 with fail
  generalize w3.alloc (.cells #[.int .i64 1, .int .i64 1] 25) = w4 at *
  have x0 := cell_of_block hx4 0
  have x1 := cell_of_block hx4 1
  simp at x0 x1
  go_upto_block 0 with fail
  go_cut [8] (fun v wx => v = .int .i64 Wt ∧ Hid (Below w4.heap.size w4 wx))
  case first =>
    go_wp2
    go_loopw [8, 9, 10] (fun v i _ wr => ∃ k : Nat, k ≤ ts.length ∧ i = .int .i64 k ∧ v = .int .i64 (d.take k).sum ∧ 0 ≤ (d.take k).sum ∧ (d.take k).sum ≤ 1000001 * (k : Int) ∧ Hid (Below w4.heap.size w4 wr)) (fun _ i _ _ => ts.length - (intOf i).toNat)
    case atStart => exact ⟨0, Nat.zero_le _, rfl, by simp, by simp, by simp, hide (Below.refl _ _)⟩
    case round =>
      obtain ⟨k, hk, rfl, rfl, s0, s1, HB⟩ := hrel
      by_cases hlt : k < ts.length
      · obtain ⟨y0, y1, y2, y3⟩ := rd3_own (hc4.below HB.out) k hlt
        obtain ⟨db, doff, rfl, yd⟩ := (hd4.below HB.out) k (by rw [HD.out.len]; exact hlt)
        obtain ⟨d0, d1, d2, d3, d4⟩ := HD.out.each k hlt
        have HS := hide (take_sum d k (by rw [HD.out.len]; exact hlt))
        generalize ts.getD k default = t at *
        obtain ⟨t0, t1, t2⟩ := t
        simp only at y0 y1 y2 y3 d2 d3 d4
        have HP := hide (fun W => specPartOf_any t1 t2 Wt W)
        generalize partM t1 t2 Wt = pt at *
        generalize d.getD k 0 = dk at *
        generalize (d.take k).sum = sm at *
        have bl := World.block_lt_of_cell? wr _ y0
        have bd := World.block_lt_of_cell? wr _ yd
        simp at bl bd
        have j1 : (0 : Int) ≤ (k : Int) := by omega
        have j2 : (k : Int) < (ts.length : Int) := by omega
        go_wp2_with fail
        (with_reducible refine (HP.out _).mono ?_)
        rintro e wq ⟨rfl, hbq⟩
        have zd := cellB hbq yd
        have HBQ := hide (belT HB.out hbq)
        have bdq : db < wq.heap.size := Nat.lt_of_lt_of_le bd hbq.size
        clear hbq yd y0 y1 y2 y3 HP
        go_wp2
        go_roundw
        case rel => exact ⟨k + 1, by omega, by go_num, by rw [HS.out], by rw [HS.out]; omega, by rw [HS.out]; omega, HBQ⟩
        case measure => simp [intOf]; omega
      · have hs : (d.take k).sum = Wt := by rw [List.take_of_length_le (by rw [HD.out.len]; omega)]; exact HD.out.sum
        have HS := hide hs
        clear hs
        go_wp2
        go_meet
        case rel => exact ⟨by rw [HS.out], HB⟩
  case rest =>
  obtain ⟨rfl, HB⟩ := hcut
  have b5 := belT b4 HB.out
  have hc5 := hc4.below HB.out
  have hr5 := hr4.below HB.out
  clear HB b4 hc4 hr4 hx4 x0 x1 hd4 HD
  have HLG := hide (show ∃ j, j < ts.length ∧ ∀ W, Rd3 W (some ⟨g2, 0, none⟩) ts → Calls Try.prog 28 #[.slice (some ⟨g2, 0, none⟩) ts.length c2] W (Rets W (.int .i64 (ts.getD j default).1)) from by
    obtain ⟨j, hj, e⟩ := largest_in HR.out
    exact ⟨j, hj, fun W hW => by rw [← e]; exact implLargestOwner_any _ c2 ts W hW (by omega)⟩)
  obtain ⟨jg, hjg, HLO⟩ := HLG.out
  clear HLG
  have HOG := hide (show ∃ og, og = (ts.getD jg default).1 from ⟨_, rfl⟩)
  obtain ⟨og, hog⟩ := HOG.out
  clear HOG
  rw [← hog] at HLO
  have HOG := hide hog
  clear hog
  go_wp2_with fail
  refine (HLO _ hc5).mono ?_
  rintro e w6 ⟨rfl, hb6⟩
  have b6 := belT b5 hb6
  have hc6 := hc5.below hb6
  have hr6 := hr5.below hb6
  clear b5 hc5 hr5 hb6 HLO
  go_upto_block 2 with fail
  go_cut [12] (fun v wx => v = .bool true ∧ w6 = wx)
  case first =>
    go_wp2
    go_loop [12, 13] (fun v i => ∃ (k : Nat) (b : Bool), k ≤ ts.length ∧ i = .int .i64 k ∧ v = .bool b ∧ (jg < k → b = true)) (fun _ i => ts.length - (intOf i).toNat)
    case atStart => exact ⟨0, false, Nat.zero_le _, rfl, rfl, fun h => by omega⟩
    case round =>
      obtain ⟨k, b, hk, rfl, rfl, hb⟩ := hrel
      have HBB := hide hb
      clear hb
      by_cases hlt : k < ts.length
      · obtain ⟨y0, y1, y2, y3⟩ := rd3_own hc6 k hlt
        have hjk : k = jg → (ts.getD k default).1 = og := fun e => by rw [e]; exact HOG.out.symm
        generalize ts.getD k default = t at *
        obtain ⟨t0, t1, t2⟩ := t
        simp only at y0 y1 y2 y3 hjk
        have HJK := hide hjk
        clear hjk
        have bl := World.block_lt_of_cell? w6 _ y0
        simp at bl
        have j1 : (0 : Int) ≤ (k : Int) := by omega
        have j2 : (k : Int) < (ts.length : Int) := by omega
        cases b
        · by_cases hq : t0 = og
          · have hq' : (t0 == og) = true := by simpa using hq
            clear hq
            go_wp2
            go_roundw
            case rel => exact ⟨k + 1, true, by omega, by go_num, rfl, fun _ => rfl⟩
            case measure => simp [intOf]; omega
          · have hq' : (t0 == og) = false := by simpa using hq
            have HNE := hide hq
            clear hq
            go_wp2
            go_roundw
            case rel => exact ⟨k + 1, false, by omega, by go_num, rfl, fun h => by
              rcases Nat.lt_or_ge jg k with h1 | h1
              · exact HBB.out h1
              · exact absurd (HJK.out (by omega)) HNE.out⟩
            case measure => simp [intOf]; omega
        · go_wp2
          go_roundw
          case rel => exact ⟨k + 1, true, by omega, by go_num, rfl, fun _ => rfl⟩
          case measure => simp [intOf]; omega
      · have hbt : b = true := HBB.out (by omega)
        subst hbt
        go_wp2
        go_meet
        case rel => exact ⟨rfl, rfl⟩
  case rest =>
  obtain ⟨rfl, rfl⟩ := hcut
  clear HOG hjg
  go_wp2_with fail
  refine (at_any a cap bs 1 w6 hr6 hl (by omega) (by omega)).mono ?_
  rintro e w6' ⟨⟨z, rfl, z0, z255⟩, rfl⟩
  have hlz : (ts.length : Int) ≠ 0 := by omega
  have hz0 : ((ts.length : Int) == 0) = false := by rw [beq_eq_false_iff_ne]; exact hlz
  have z1 := Int.emod_nonneg z hlz
  have z2 := Int.emod_lt_of_pos z (show (0 : Int) < (ts.length : Int) by omega)
  obtain ⟨k, hk⟩ := Int.eq_ofNat_of_zero_le z1
  have e1 : z.tmod (ts.length : Int) = (k : Int) := by rw [Int.tmod_eq_emod_of_nonneg z0]; exact hk
  have hkl : k < ts.length := by omega
  have hk0 : (0 : Int) ≤ (k : Int) := by omega
  have hk1 : (k : Int) < (ts.length : Int) := by omega
  clear z1 z2 hk
  obtain ⟨m, hM⟩ := half_ok HR.out HU.out HT.out.own hl6 hkl
  obtain ⟨y0, y1, y2, y3⟩ := rd3_own hc6 k hkl
  have HSL := hide (fun W hW => rlwHalf hM (by omega) (some ⟨g2, 0, none⟩) c2 W hW)
  have HBK := hide (fun g c W hW => rlwBack hM HR.out (some ⟨g, 0, none⟩) c W hW)
  have HOK := hide (fun g c W hW => rlwOk (some ⟨g, 0, none⟩) c (soldL ts k m) (ts.length + 1) hM.ok sold_length W hW)
  have HOL := hide (fun W hW => rlwOk (some ⟨g2, 0, none⟩) c2 ts ts.length HR.out rfl W hW)
  have HGT := hide (fun i hi => sold_get (m := m) HR.out HT.out.own hkl i hi)
  have HSN := hide (sold_length (ts := ts) (k := k) (m := m))
  have ho12 : (ts.getD k default).1 ≤ 12 := HT.out.own _ (getD_mem3' hkl)
  clear hM
  generalize soldL ts k m = sl at *
  obtain ⟨m0, m1⟩ := m
  generalize ts.getD k default = t at *
  obtain ⟨o, t1, t2⟩ := t
  simp only at y0 y1 y2 y3 HSL HBK HGT ho12
  have b7 := belA (o := .cells #[.int .i64 o, .int .i64 t1, .int .i64 t2] 56) b6
  have b67 : Below w6.heap.size w6 (w6.alloc (.cells #[.int .i64 o, .int .i64 t1, .int .i64 t2] 56)) := belA (Below.refl _ _)
  have hx7 := blk_new w6 #[.int .i64 o, .int .i64 t1, .int .i64 t2] 56
  have hc7 := hc6.below b67
  have hg2s : g2 < w6.heap.size := by have := World.block_lt_of_cell? w6 _ y0; simpa using this
  clear b67 hr6 HU HT
  go_upto_region 24 with fail
  generalize w6.alloc (.cells #[.int .i64 o, .int .i64 t1, .int .i64 t2] 56) = w7 at *
  have x0 := cell_of_block hx7 0
  simp at x0
  have hx7l := (Array.getElem?_eq_some_iff.1 hx7).1
  go_wp2_with fail
  (with_reducible refine (HSL.out w7 hc7).mono ?_)
  rintro e w8 ⟨g8, c8, rfl, hg8, o8, hb8⟩
  have b8 := belT b7 hb8
  have hx8 := heap_grow hx7 hb8
  have hc8 := hc7.below hb8
  have hx8l := (Array.getElem?_eq_some_iff.1 hx8).1
  have hg8l := o8.lt
  clear b7 hb8 hx7 hc7 HSL x0 y0 y1 y2 y3
  generalize hbF : w6.heap.size = bF at *
  have hq5 : (o == 500) = false := by rw [beq_eq_false_iff_ne]; omega
  have hq6 : ((500 : Int) == o) = false := by rw [beq_eq_false_iff_ne]; omega
  have hrs := o8.rd3
  have w9a := blk_alloc (o := .cells #[.int .i64 0, .int .i64 0] 25) (blk_new w8 #[.int .i64 0, .int .i64 0] 25)
  have w9b := blk_two w8 (.cells #[.int .i64 0, .int .i64 0] 25) #[.int .i64 0, .int .i64 0] 25
  have w9c : Below w8.heap.size w8 ((w8.alloc (.cells #[.int .i64 0, .int .i64 0] 25)).alloc (.cells #[.int .i64 0, .int .i64 0] 25)) := belA (belA (Below.refl _ _))
  have W9 := hide (And.intro w9a (And.intro w9b w9c))
  clear w9a w9b w9c o8
  go_upto_block 4 with fail
  generalize (w8.alloc (.cells #[.int .i64 0, .int .i64 0] 25)).alloc (.cells #[.int .i64 0, .int .i64 0] 25) = w9 at *
  have hBH := hide (show ∃ bH, bH = w8.heap.size from ⟨_, rfl⟩)
  go_cut [19] (fun _ wx => Hid (Below w8.heap.size w8 wx) ∧ Hid (wx.heap[w8.heap.size]? = some (.cells #[.int .i64 m0, .int .i64 m1] 25 (0, 0))) ∧ Hid (wx.heap[w8.heap.size + 1]? = some (.cells #[.int .i64 m0, .int .i64 m1] 25 (0, 0))))
  case first =>
    go_wp2
    go_loopw [19] (fun v wr => ∃ (i : Nat) (hA hB rA rB : Int), i ≤ ts.length + 1 ∧ v = .int .i64 i ∧ Hid (Below w8.heap.size w8 wr) ∧ wr.heap[w8.heap.size]? = some (.cells #[.int .i64 hA, .int .i64 hB] 25 (0, 0)) ∧ wr.heap[w8.heap.size + 1]? = some (.cells #[.int .i64 rA, .int .i64 rB] 25 (0, 0)) ∧ Hid (ts.length < i → hA = m0 ∧ hB = m1) ∧ Hid (k < i → rA = m0 ∧ rB = m1)) (fun v _ => ts.length + 1 - (intOf v).toNat)
    case atStart => exact ⟨0, 0, 0, 0, 0, by omega, rfl, hide W9.out.2.2, W9.out.1, W9.out.2.1, hide (fun h => by omega), hide (fun h => by omega)⟩
    case round =>
      obtain ⟨i, hA, hB, rA, rB, hi, rfl, HB, xh, xr, HH, HK⟩ := hrel
      by_cases hlt : i < ts.length + 1
      · obtain ⟨y0, y1, y2, y3⟩ := rd3_own (hrs.below HB.out) i (by rw [HSN.out]; exact hlt)
        have hg := HGT.out i hlt
        have hrw := hide (hrs.below HB.out)
        have hxF := hide (heap_grow hx8 HB.out)
        have f0 := cell_of_block hxF.out 0
        simp at f0
        have hs8 := HB.out.size
        have xhl := (Array.getElem?_eq_some_iff.1 xh).1
        have xrl := (Array.getElem?_eq_some_iff.1 xr).1
        have j1 : (0 : Int) ≤ (i : Int) := by omega
        have j2 : (i : Int) < (ts.length : Int) + 1 := by omega
        generalize hbH : w8.heap.size = bH at *
        have n1 : ¬ g8 = bH := by omega
        have n2 : ¬ bH = g8 := by omega
        have n3 : ¬ g8 = bH + 1 := by omega
        have n4 : ¬ bH + 1 = g8 := by omega
        have n5 : ¬ bF = bH := by omega
        have n6 : ¬ bF = bH + 1 := by omega
        have g8r : g8 < wr.heap.size := by omega
        have bFr : bF < wr.heap.size := by omega
        rcases hg with ⟨rfl, he⟩ | ⟨rfl, he⟩ | ⟨hil, hik, he1, he2⟩
        · rw [he] at y0 y1 y2 y3
          simp only at y0 y1 y2 y3
          have F1 := frozen_of_block xh
          have p0 := cell_of_block xh 0
          have p1 := cell_of_block xh 1
          simp at p0 p1
          have xh' := setCell_block (i := 1) (v := .int .i64 m1) (setCell_block (i := 0) (v := .int .i64 m0) xh)
          simp at xh'
          have G := grownBy_trans (grownBy_set wr bH 0 (.int .i64 m0)) (grownBy_set _ bH 1 (.int .i64 m1))
          have xr' := grown_heap G xr (by intro e; injection e with e; omega)
          have xF' := grown_heap G hxF.out (by intro e; injection e with e; omega)
          have rw' := rd3_grown hrw.out G (fun x hx => by cases hx; simp only; omega)
          have HB' := hide (HB.out.grown G hs8 (fun q hq => by cases hq; exact Nat.le_refl _))
          have zl' := G.size
          go_upto_region 33 with fail
          generalize (wr.setCell ⟨bH, 0, none⟩ (.int .i64 m0)).setCell ⟨bH, 1, none⟩ (.int .i64 m1) = wv at *
          have q0 := cell_of_block xF' 0
          simp at q0
          obtain ⟨z0, z1, z2, z3⟩ := rd3_own rw' ts.length (by rw [HSN.out]; exact hlt)
          rw [he] at z0 z1 z2 z3
          simp only at z0 z1 z2 z3
          have g8v : g8 < wv.heap.size := by omega
          have bFv : bF < wv.heap.size := by omega
          clear xF' rw' HB y0 y1 y2 y3 f0 p0 p1 F1 he xh xr hxF hrw G
          go_quiet (fail)
          have HBq := hide (below_dr (n := nq) HB'.out)
          go_wp2
          go_roundw
          case rel => exact ⟨ts.length + 1, m0, m1, rA, rB, by omega, by go_num, HBq, xh', xr', hide (fun _ => ⟨rfl, rfl⟩), hide (fun _ => HK.out hkl)⟩
          case measure => simp [intOf]
        · rw [he] at y0 y1 y2 y3
          simp only at y0 y1 y2 y3
          clear he
          have hoo : (o == o) = true := by simp
          go_upto_region 33 with fail
          go_quiet (fail)
          have F1 : ∀ j, (wr.drewN nq).frozen? ⟨bH + 1, j, none⟩ = false := frozen_of_block xr
          have p0 := cell_of_block xr 0
          have p1 := cell_of_block xr 1
          simp at p0 p1
          have xr' := setCell_block (i := 1) (v := .int .i64 m1) (setCell_block (w := wr.drewN nq) (i := 0) (v := .int .i64 m0) xr)
          simp at xr'
          have G := grownBy_trans (grownBy_set (wr.drewN nq) (bH + 1) 0 (.int .i64 m0)) (grownBy_set _ (bH + 1) 1 (.int .i64 m1))
          have xh' := grown_heap (w := wr.drewN nq) G xh (by intro e; injection e with e; omega)
          have HB' := hide ((below_dr (n := nq) HB.out).grown G hs8 (fun q hq => by cases hq; omega))
          have HXR := hide xr'
          have HXH := hide xh'
          clear HB xh xr hxF hrw G f0 xr' xh'
          go_wp2
          go_roundw
          case rel => exact ⟨i + 1, hA, hB, m0, m1, by omega, by go_num, HB', HXH.out, HXR.out, hide (fun h => by omega), hide (fun _ => ⟨rfl, rfl⟩)⟩
          case measure => simp [intOf]; omega
        · generalize sl.getD i default = t at *
          obtain ⟨u0, v1, v2⟩ := t
          simp only at y0 y1 y2 y3 he1 he2
          have he1' : (u0 == 500) = false := by simpa using he1
          have he2' : (u0 == o) = false := by simpa using he2
          go_upto_region 33 with fail
          go_quiet (fail)
          have HBq := hide (below_dr (n := nq) HB.out)
          go_wp2
          go_roundw
          case rel => exact ⟨i + 1, hA, hB, rA, rB, by omega, by go_num, HBq, xh, xr, hide (fun h => by omega), hide (fun h => HK.out (by omega))⟩
          case measure => simp [intOf]; omega
      · have hi' : i = ts.length + 1 := by omega
        obtain ⟨rfl, rfl⟩ := HH.out (by omega)
        obtain ⟨rfl, rfl⟩ := HK.out (by omega)
        subst hi'
        go_wp2
        go_meet
        case rel => exact ⟨HB, hide xh, hide xr⟩
  case rest =>
  obtain ⟨HB, XH, XR⟩ := hcut
  have b9 := belT b8 HB.out
  have hrs9 := hrs.below HB.out
  have hc9 := hc8.below HB.out
  have hx9 := heap_grow hx8 HB.out
  have hs9 := HB.out.size
  have xh := XH.out
  have xr := XR.out
  clear HB XH XR b8 hrs hc8 hx8 W9 hBH HGT HSN
  have F0 := cell_of_block hx9 0
  simp at F0
  have hx9l : bF < wc.heap.size := by omega
  go_wp2_with fail
  (with_reducible refine (HBK.out g8 c8 wc hrs9).mono ?_)
  rintro e w10 ⟨g10, c10, rfl, o10, hb10⟩
  have b10 := belT b9 hb10
  have hrs10 := hrs9.below hb10
  have hc10 := hc9.below hb10
  have hx10 := heap_grow hx9 hb10
  have xh10 := heap_grow xh hb10
  have xr10 := heap_grow xr hb10
  have hs10 := hb10.size
  clear hb10 b9 hrs9 hc9 hx9 xh xr F0 HBK
  have p0 := cell_of_block xh10 0
  have p1 := cell_of_block xh10 1
  have r0 := cell_of_block xr10 0
  have r1 := cell_of_block xr10 1
  simp at p0 p1 r0 r1
  have xhl := (Array.getElem?_eq_some_iff.1 xh10).1
  have xrl := (Array.getElem?_eq_some_iff.1 xr10).1
  go_wp2_with fail
  (with_reducible refine (HOK.out g8 c8 w10 hrs10).mono ?_)
  rintro e w11 ⟨rfl, hb11⟩
  have b11 := belT b10 hb11
  have hc11 := hc10.below hb11
  have hx11 := heap_grow hx10 hb11
  have o11 := (o10.below hb11).rd3
  have ol11 := (o10.below hb11).lt
  have hs11 := hb11.size
  have hg2l11 : g2 < w11.heap.size := by omega
  clear hb11 b10 hc10 hx10 hrs10 xh10 xr10 p0 p1 r0 r1 HOK
  go_upto_block 6 with fail
  go_cut [22] (fun _ wx => Hid (Below w11.heap.size w11 wx))
  case first =>
    go_wp2
    go_loopw [22] (fun v wr => ∃ i : Nat, i ≤ ts.length ∧ v = .int .i64 i ∧ Hid (Below w11.heap.size w11 wr)) (fun v _ => ts.length - (intOf v).toNat)
    case atStart => exact ⟨0, by omega, rfl, hide (Below.refl _ _)⟩
    case round =>
      obtain ⟨i, hi, rfl, HB⟩ := hrel
      by_cases hlt : i < ts.length
      · obtain ⟨y0, y1, y2, y3⟩ := rd3_own (hc11.below HB.out) i hlt
        obtain ⟨z0, z1, z2, z3⟩ := rd3_own (o11.below HB.out) i hlt
        generalize ts.getD i default = t at *
        obtain ⟨v0, v1, v2⟩ := t
        simp only at y0 y1 y2 y3 z0 z1 z2 z3
        have j1 : (0 : Int) ≤ (i : Int) := by omega
        have j2 : (i : Int) < (ts.length : Int) := by omega
        have hsr := HB.out.size
        have hl1 : g2 < wr.heap.size := by omega
        have hl2 : g10 < wr.heap.size := by omega
        go_upto_region 41 with fail
        go_quiet (fail)
        have HBq := hide (below_dr (n := nq) HB.out)
        go_wp2
        go_roundw
        case rel => exact ⟨i + 1, by omega, by go_num, HBq⟩
        case measure => simp [intOf]; omega
      · go_wp2
        go_meet
        case rel => exact HB
  case rest =>
  have b12 := belT b11 hcut.out
  have hc12 := hc11.below hcut.out
  have hx12 := heap_grow hx11 hcut.out
  clear b11 hc11 hx11 hcut o11 ol11
  go_wp2_with fail
  (with_reducible refine (HOL.out wc hc12).mono ?_)
  rintro e w13 ⟨rfl, hb13⟩
  have b13 := belT b12 hb13
  clear hb13 b12 hc12
  go_wp2
  all_goals go_ret
  all_goals exact ⟨rfl, b13⟩

end Go.Proofs.Ytjcoajaoofjjmaa
