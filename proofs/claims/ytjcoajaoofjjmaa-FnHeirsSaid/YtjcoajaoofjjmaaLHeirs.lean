/- The walk of the law of heirs. -/
import Derived.Test.YtjcoajaoofjjmaaRgtDraw
import Derived.Test.YtjcoajaoofjjmaaRlwM2
import Derived.Test.YtjcoajaoofjjmaaInh2
import Derived.Deep.DeepCutAuto
import Derived.Deep.CutBlock
namespace Go.Proofs.Ytjcoajaoofjjmaa
set_option linter.unusedSimpArgs false
set_option linter.unusedVariables false
set_option linter.unnecessarySimpa false
open Go.RowKit

theorem heirs_length {ts : List T3} {k : Nat} {s : Int × Int} (hk : k < ts.length) : (heirsL ts k s).length = ts.length + 2 := by
  unfold heirsL
  rw [List.length_append, List.length_eraseIdx_of_lt hk]
  simp; omega
theorem hrInherit {ts : List T3} {k : Nat} {s : Int × Int} (h : HeirOk ts k s) (hk : k < ts.length) (hn : ts.length ≤ 12) (a b : Option Addr) (cap cb : Nat) (w : World) (hc : Rd3 w a ts) (hb : Rd w b [301, 302, 303]) :
    Calls Try.prog 45 #[.slice a ts.length cap, .int .i64 (ts.getD k default).1, .slice b 3 cb] w fun e w' => ∃ g c, e = .returned (.tuple #[.slice (some ⟨g, 0, none⟩) (ts.length + 2) c, .bool true]) ∧ w.heap.size ≤ g ∧ OwnP w' g 56 (flat (heirsL ts k s)) ∧ Below w.heap.size w w' := by
  refine (implInh_any a cap ts (ts.getD k default).1 b cb [301, 302, 303] w hc (by omega) hb (by decide)).mono ?_
  rw [h.inh]
  rintro e w' ⟨v, rfl, hv, hb⟩
  obtain ⟨g, c, rfl, hg, ho⟩ := hv.some (by show 1 ≤ (heirsL ts k s).length; rw [heirs_length hk]; omega)
  exact ⟨g, c, by show _ = Ending.returned (.tuple #[.slice _ (ts.length + 2) c, .bool true]); rw [show ((some (heirsL ts k s)).getD ts).length = ts.length + 2 from heirs_length hk]; rfl, hg, ho, hb⟩
theorem hrNone (ts : List T3) (o : Int) (hn : ts.length ≤ 12) (a b : Option Addr) (cap cb : Nat) (w : World) (hc : Rd3 w a ts) (hb : Rd w b [o]) :
    Calls Try.prog 45 #[.slice a ts.length cap, .int .i64 o, .slice b 1 cb] w fun e w' => ∃ v, e = .returned (.tuple #[v, .bool false]) ∧ Below w.heap.size w w' := by
  refine (implInh_any a cap ts o b cb [o] w hc (by omega) hb (by simp)).mono ?_
  rw [inh_self]
  rintro e w' ⟨v, rfl, hv, hb⟩
  exact ⟨v, rfl, hb⟩
theorem hrParts {ts : List T3} {N : Int} (h : BotOk ts N) (hn : ts.length ≤ 12) (a : Option Addr) (cap : Nat) (w : World) (hc : Rd3 w a ts) :
    Calls Try.prog 32 #[.slice a ts.length cap] w fun e w' => ∃ (da : Option Addr) (dc : Nat), e = .returned (.slice da ts.length dc) ∧ Rd w' da (ts.map (unU N)) ∧ Below w.heap.size w w' := by
  refine (implParts_any a cap ts w hc (by omega)).mono ?_
  rw [h.parts]
  rintro e w' ⟨v, rfl, hv, hb⟩
  obtain ⟨da, dc, rfl, hr⟩ := hv.slice
  exact ⟨da, dc, by rw [List.length_map], hr, hb⟩
theorem hrBottom {ts : List T3} {N : Int} (h : BotOk ts N) (hn : ts.length ≤ 12) (a : Option Addr) (cap : Nat) (w : World) (hc : Rd3 w a ts) :
    Calls Try.prog 26 #[.slice a ts.length cap] w (Rets w (.int .i64 N)) := by
  rw [← h.eq]; exact implCommonBottom_any a cap ts w hc (by omega)
theorem hrCount {ts : List T3} (hR : rightsM ts = true) (hn : ts.length ≤ 12) (a : Option Addr) (cap : Nat) (w : World) (hc : Rd3 w a ts) :
    Calls Try.prog 24 #[.slice a ts.length cap] w (Rets w (.int .i64 (ts.length : Int))) := by
  have := implCountOwners_any a cap ts w hc (by omega)
  unfold countM at this
  rw [if_pos hR] at this; exact this
theorem hrSmall {ts : List T3} {p q : Int} (h : smallM ts = some (p, q)) (hn : ts.length ≤ 12) (a : Option Addr) (cap : Nat) (w : World) (hc : Rd3 w a ts) :
    Calls Try.prog 30 #[.slice a ts.length cap] w (Rets w (.tuple #[.agg #[.int .i64 p, .int .i64 q], .bool true])) := by
  have := implSmallestShare_any a cap ts w hc (by omega)
  rw [h] at this; exact this
theorem hrSplit {x y p q : Int} (h : splitM x y 3 = some (p, q)) (w : World) :
    Calls Try.prog 51 #[.agg #[.int .i64 x, .int .i64 y], .int .i64 3] w (Rets w (.tuple #[.agg #[.int .i64 p, .int .i64 q], .bool true])) := by
  have := implSplitEqually_any x y 3 w
  rw [h] at this; exact this
theorem hrOk (a : Option Addr) (cap : Nat) (ts : List T3) (n : Nat) (hR : rightsM ts = true) (hn : ts.length = n) (w : World) (hc : Rd3 w a ts) :
    Calls Try.prog 22 #[.slice a n cap] w (Rets w (.bool true)) := by
  obtain ⟨_, h2, _, _⟩ := rights_parts hR
  have := implRightsOk_any a cap ts w hc (by omega)
  rw [hR, hn] at this; exact this

theorem hrHas (a : Option Addr) (cap : Nat) (xs : List Int) (z : Int) (w : World) (hc : Rd w a xs) (hn : xs.length ≤ 1048576) :
    Calls Try.prog 52 #[.slice a xs.length cap, .int .i64 z] w fun e w' => e = .returned (.bool (decide (z ∈ xs))) ∧ w = w' := by
  go_enter Try.func52, Try.ntmps52
  go_wp2
  go_loop [5] (fun i => ∃ k : Nat, k ≤ xs.length ∧ i = .int .i64 k ∧ Hid (decide (z ∈ xs) = decide (z ∈ xs.drop k))) (fun i => xs.length - (intOf i).toNat)
  case atStart => exact ⟨0, Nat.zero_le _, rfl, hide rfl⟩
  case round =>
    obtain ⟨k, hk, rfl, HR⟩ := hrel
    by_cases hlt : k < xs.length
    · obtain ⟨b, off, rfl, hcell⟩ := hc k hlt
      have HD := hide (show xs.drop k = xs.getD k 0 :: xs.drop (k + 1) by rw [List.drop_eq_getElem_cons hlt]; simp [List.getD_eq_getElem?_getD, hlt])
      generalize xs.getD k 0 = x at *
      have kl : (k : Int) < (xs.length : Int) := by omega
      by_cases hx : x = z
      · subst hx
        go_wp2
        go_ret
        exact ⟨ret_bool (by rw [HR.out, HD.out]; simp), rfl⟩
      · have hb : (x == z) = false := by simp [hx]
        go_wp2
        go_round
        case rel => exact ⟨k + 1, by omega, by go_num, hide (by rw [HR.out, HD.out]; apply decide_eq_decide.2; simp; intro e; exact absurd e.symm hx)⟩
        case measure => simp [intOf]; omega
    · go_wp2
      go_ret
      exact ⟨ret_bool (by rw [HR.out, List.drop_of_length_le (by omega)]; simp), rfl⟩

theorem heirs_get {ts : List T3} {k : Nat} {s : Int × Int} (h : HeirOk ts k s) (hk : k < ts.length) (i : Nat) (hi : i < ts.length + 2) :
    (i + 1 < ts.length ∧ ((heirsL ts k s).getD i default).1 ≠ (ts.getD k default).1 ∧ ((heirsL ts k s).getD i default).1 ≤ 12) ∨ (ts.length ≤ i + 1 ∧ ∃ z : Int, (z = 301 ∨ z = 302 ∨ z = 303) ∧ (heirsL ts k s).getD i default = (z, s.1, s.2)) := by
  have hl : (ts.eraseIdx k).length = ts.length - 1 := List.length_eraseIdx_of_lt hk
  by_cases h1 : i + 1 < ts.length
  · left
    have hil : i < (ts.eraseIdx k).length := by omega
    have e : (heirsL ts k s).getD i default = (ts.eraseIdx k).getD i default := by
      unfold heirsL
      rw [List.getD_eq_getElem?_getD, List.getElem?_append_left hil, ← List.getD_eq_getElem?_getD]
    rw [e]
    have := h.own _ (getD_mem3' hil)
    exact ⟨h1, this.2.2, this.2.1⟩
  · right
    refine ⟨by omega, ?_⟩
    have hc : i = (ts.eraseIdx k).length ∨ i = (ts.eraseIdx k).length + 1 ∨ i = (ts.eraseIdx k).length + 2 := by omega
    have e : ∀ j, (heirsL ts k s).getD ((ts.eraseIdx k).length + j) default = ([((301, s.1, s.2) : T3), (302, s.1, s.2), (303, s.1, s.2)]).getD j default := by
      intro j
      unfold heirsL
      rw [List.getD_eq_getElem?_getD, List.getElem?_append_right (by omega), Nat.add_sub_cancel_left, ← List.getD_eq_getElem?_getD]
    rcases hc with rfl | rfl | rfl
    · exact ⟨301, .inl rfl, e 0⟩
    · exact ⟨302, .inr (.inl rfl), e 1⟩
    · exact ⟨303, .inr (.inr rfl), e 2⟩

theorem take_sum' (d : List Int) (k : Nat) (h : k < d.length) : (d.take (k + 1)).sum = (d.take k).sum + d.getD k 0 := by
  rw [List.take_add_one, List.sum_append]
  simp [List.getD_eq_getElem?_getD, h]
theorem rd3_own' {w : World} {g : Nat} {ts : List T3} (h : Rd3 w (some ⟨g, 0, none⟩) ts) (k : Nat) (hk : k < ts.length) :
    w.cell? ⟨g, k * 3, none⟩ = some (.int .i64 (ts.getD k default).1) ∧ w.cell? ⟨g, k * 3 + 1, none⟩ = some (.int .i64 (ts.getD k default).2.1) ∧ w.cell? ⟨g, k * 3 + 1 + 1, none⟩ = some (.int .i64 (ts.getD k default).2.2) ∧ w.cell? ⟨g, k * 3 + 2, none⟩ = some (.int .i64 (ts.getD k default).2.2) := by
  obtain ⟨b, off, e, h0, h1, h2⟩ := h k hk
  cases e
  rw [Nat.zero_add] at h0 h1 h2
  exact ⟨h0, h1, h2, h2⟩
theorem below_dr' {B n : Nat} {a w : World} (h : Below B a w) : Below B a (w.drewN n) := ⟨h.os, h.tape, h.output, h.size, h.block⟩

/-- What stays as it is through the law. -/
structure HrK (w W : World) (bF g2 gh gx : Nat) (o t1 t2 : Int) (ts xs : List T3) : Prop where
  b : Below w.heap.size w W
  hx : W.heap[bF]? = some (.cells #[.int .i64 o, .int .i64 t1, .int .i64 t2] 56 (0, 0))
  hc : Rd3 W (some ⟨g2, 0, none⟩) ts
  oh : OwnP W gh 3 [301, 302, 303]
  ox : OwnP W gx 56 (flat xs)
theorem HrK.below {w W W' : World} {bF g2 gh gx : Nat} {o t1 t2 : Int} {ts xs : List T3} (h : HrK w W bF g2 gh gx o t1 t2 ts xs) (hb : Below W.heap.size W W') : HrK w W' bF g2 gh gx o t1 t2 ts xs :=
  ⟨belT h.b hb, heap_grow h.hx hb, h.hc.below hb, h.oh.below hb, h.ox.below hb⟩
theorem map_getD (f : T3 → Int) (ts : List T3) (i : Nat) (h : i < ts.length) : (ts.map f).getD i 0 = f (ts.getD i default) := by
  simp [List.getD_eq_getElem?_getD, h]

theorem cnt_j (j n : Nat) : (j + 1 < n → (j + 1 + 1 - n : Nat) = (j + 1 - n : Nat)) ∧ (n ≤ j + 1 → (j + 1 + 1 - n : Nat) = (j + 1 - n : Nat) + 1) := ⟨fun h => by omega, fun h => by omega⟩

set_option maxRecDepth 100000 in
set_option maxHeartbeats 4000000 in
theorem law_Heirs (a : Option Addr) (cap : Nat) (bs : List Int) (w : World) (hr : Rd8 w a bs) (hm : bs.length ≤ 9223372036854775807) :
    Calls Try.prog 14 #[.slice a bs.length cap] w fun e w' => Rets w (.bool true) e w' := by
  by_cases hl : bs.length ≤ 1048576
  case neg =>
    have hd : decide (1048576 < bs.length) = true := by simp; omega
    have HB := hide (show ∀ W, Calls Try.prog 46 #[.slice a bs.length cap] W fun e w' => e = .returned (.bool true) ∧ W = w' from fun W => by rw [← hd]; exact big_any a bs.length cap W hm)
    clear hd
    go_enter Try.func14, Try.ntmps14
    go_wp2_with fail
    refine (HB.out _).mono ?_
    rintro e w' ⟨rfl, rfl⟩
    go_wp2
    go_ret
    exact ⟨rfl, Below.refl _ _⟩
  have hd : decide (1048576 < bs.length) = false := by simp; omega
  have HB := hide (show ∀ W, Calls Try.prog 46 #[.slice a bs.length cap] W fun e w' => e = .returned (.bool false) ∧ W = w' from fun W => by rw [← hd]; exact big_any a bs.length cap W hm)
  clear hd
  go_enter Try.func14, Try.ntmps14
  go_wp2_with fail
  refine (HB.out _).mono ?_
  rintro e w' ⟨rfl, rfl⟩
  clear HB
  go_wp2_with fail
  refine (DrawRights_any a cap bs w hr hl).mono ?_
  rintro e w1 ⟨g2, c2, ts, rfl, hts, hg2, ho2, hb1⟩
  have hc1 := ho2.rd3
  have hg2l := ho2.lt
  clear ho2
  have hl1 := (rights_parts hts.ok).1
  have hl6 := hts.len
  have HT := hide hts
  have HU := hide (hts.d1024 (Int.dvd_refl _))
  have HR := hide hts.ok
  clear hts
  go_wp2_with fail
  refine (at_any a cap bs 0 w1 (hr.below hb1) hl (by omega) (by omega)).mono ?_
  rintro e w1' ⟨⟨z, rfl, z0, z255⟩, rfl⟩
  clear hr
  have hlz : (ts.length : Int) ≠ 0 := by omega
  have hz0 : ((ts.length : Int) == 0) = false := by rw [beq_eq_false_iff_ne]; exact hlz
  have z1 := Int.emod_nonneg z hlz
  have z2 := Int.emod_lt_of_pos z (show (0 : Int) < (ts.length : Int) by omega)
  obtain ⟨k, hk⟩ := Int.eq_ofNat_of_zero_le z1
  have e1 : z.tmod (ts.length : Int) = (k : Int) := by rw [Int.tmod_eq_emod_of_nonneg z0]; exact hk
  have hkl : k < ts.length := by omega
  have hk0 : (0 : Int) ≤ (k : Int) := by omega
  have hk1 : (k : Int) < (ts.length : Int) := by omega
  clear z1 z2 hk
  obtain ⟨s, hS⟩ := heir_ok HR.out HU.out HT.out.own hl6 hkl
  obtain ⟨N, hN⟩ := bot_ok HR.out HU.out
  obtain ⟨p, q, hpq, hmin⟩ := small_ok HR.out HU.out
  obtain ⟨y0, y1, y2, y3⟩ := rd3_own' hc1 k hkl
  have ho12 : (ts.getD k default).1 ≤ 12 := HT.out.own _ (getD_mem3' hkl)
  have HIN := hide (fun b cb W hW hB => hrInherit hS hkl (by omega) (some ⟨g2, 0, none⟩) b c2 cb W hW hB)
  have HNO := hide (fun b cb W hW hB => hrNone ts (ts.getD k default).1 (by omega) (some ⟨g2, 0, none⟩) b c2 cb W hW hB)
  have HBO := hide (fun W hW => hrBottom hN (by omega) (some ⟨g2, 0, none⟩) c2 W hW)
  have HPA := hide (fun W hW => hrParts hN (by omega) (some ⟨g2, 0, none⟩) c2 W hW)
  have HCO := hide (fun W hW => hrCount HR.out (by omega) (some ⟨g2, 0, none⟩) c2 W hW)
  have HSM := hide (fun W hW => hrSmall hpq (by omega) (some ⟨g2, 0, none⟩) c2 W hW)
  have HSP := hide (fun W => hrSplit (p := s.1) (q := s.2) hS.part W)
  have HOX := hide (fun g c W hW => hrOk (some ⟨g, 0, none⟩) c (heirsL ts k s) (ts.length + 2) hS.ok (heirs_length hkl) W hW)
  have HGT := hide (fun i hi => heirs_get hS hkl i hi)
  have HXN := hide (heirs_length (s := s) hkl)
  have HMIN := hide hmin
  have HNN := hide hN
  have hN1 := hN.pos
  have hN2 := hN.le
  clear hS hpq hmin hN HT HU
  generalize heirsL ts k s = xs at *
  obtain ⟨s0, s1⟩ := s
  generalize ts.getD k default = t at *
  obtain ⟨o, t1, t2⟩ := t
  simp only at y0 y1 y2 y3 HIN HNO HSP HGT ho12
  have b2 := belA (o := .cells #[.int .i64 o, .int .i64 t1, .int .i64 t2] 56) hb1
  have b12 : Below w1.heap.size w1 (w1.alloc (.cells #[.int .i64 o, .int .i64 t1, .int .i64 t2] 56)) := belA (Below.refl _ _)
  have hx2 := blk_new w1 #[.int .i64 o, .int .i64 t1, .int .i64 t2] 56
  have hc2 := hc1.below b12
  clear b12 hb1
  go_upto_region 5 with fail
  generalize w1.alloc (.cells #[.int .i64 o, .int .i64 t1, .int .i64 t2] 56) = w2 at *
  have x0 := cell_of_block hx2 0
  simp at x0
  have hx2l := (Array.getElem?_eq_some_iff.1 hx2).1
  generalize hbF : w1.heap.size = bF at *
  go_upto_region 6 with fail
  have o3 : OwnP (w2.alloc (.cells #[.int .i64 301, .int .i64 302, .int .i64 303] 3)) w2.heap.size 3 [301, 302, 303] := own_newP w2 _ [301, 302, 303]
  have b23 : Below w2.heap.size w2 (w2.alloc (.cells #[.int .i64 301, .int .i64 302, .int .i64 303] 3)) := belA (Below.refl _ _)
  have b3 := belT b2 b23
  have hx3 := heap_grow hx2 b23
  have hc3 := hc2.below b23
  have hs3 := b23.size
  have hs23 : w2.heap.size < (w2.alloc (.cells #[.int .i64 301, .int .i64 302, .int .i64 303] 3)).heap.size := by simp
  generalize w2.alloc (.cells #[.int .i64 301, .int .i64 302, .int .i64 303] 3) = w3 at *
  clear b2 b23 hx2 hc2 x0 hc1 y0 y1 y2 y3
  have x0 := cell_of_block hx3 0
  simp at x0
  have hx3l : bF < w3.heap.size := by omega
  generalize hgh : w2.heap.size = gh at *
  go_wp2_with fail
  (with_reducible refine (HIN.out _ _ w3 hc3 o3.rd).mono ?_)
  rintro e w4 ⟨gx, cx, rfl, hgx, ox, hb4⟩
  have K4 : HrK w w4 bF g2 gh gx o t1 t2 ts xs := ⟨belT b3 hb4, heap_grow hx3 hb4, hc3.below hb4, o3.below hb4, ox⟩
  have hs4 := hb4.size
  have hxl := ox.lt
  clear hb4 b3 hx3 hc3 o3 x0 ox HIN
  go_wp2_with fail
  (with_reducible refine (HBO.out w4 K4.hc).mono ?_)
  rintro e w5 ⟨rfl, hb5⟩
  have K5 := K4.below hb5
  have hs5 := hb5.size
  clear hb5 K4 HBO
  go_wp2_with fail
  (with_reducible refine (HPA.out w5 K5.hc).mono ?_)
  rintro e w6 ⟨da, dc, rfl, hd6, hb6⟩
  have K6 := K5.below hb6
  have hs6 := hb6.size
  clear hb6 K5 HPA
  go_wp2_with fail
  (with_reducible refine (HCO.out w6 K6.hc).mono ?_)
  rintro e w7 ⟨rfl, hb7⟩
  have K7 := hide (K6.below hb7)
  have hd7 := hd6.below hb7
  have hs7 := hb7.size
  clear hb7 K6 HCO hd6
  go_upto_block 0 with fail
  go_cut [10] (fun v wx => v = .int .i64 N ∧ Hid (Below w7.heap.size w7 wx))
  case first =>
    go_wp2
    go_loopw [10, 11] (fun v i wr => ∃ j : Nat, j ≤ ts.length ∧ i = .int .i64 j ∧ v = .int .i64 ((ts.map (unU N)).take j).sum ∧ 0 ≤ ((ts.map (unU N)).take j).sum ∧ ((ts.map (unU N)).take j).sum ≤ 1024 * (j : Int) ∧ Hid (Below w7.heap.size w7 wr)) (fun _ i _ => ts.length - (intOf i).toNat)
    case atStart => exact ⟨0, Nat.zero_le _, rfl, by simp, by simp, by simp, hide (Below.refl _ _)⟩
    case round =>
      obtain ⟨j, hj, rfl, rfl, a0, a1, HB⟩ := hrel
      by_cases hlt : j < ts.length
      · obtain ⟨y0, y1, y2, y3⟩ := rd3_own' (K7.out.hc.below HB.out) j hlt
        obtain ⟨db, doff, rfl, yd⟩ := (hd7.below HB.out) j (by rw [List.length_map]; exact hlt)
        obtain ⟨d0, d1, d2⟩ := HNN.out.each _ (getD_mem3' hlt)
        obtain ⟨f1, f2, f3, f4⟩ := rights_mem HR.out _ (getD_mem3' hlt)
        have HS := hide (take_sum' (ts.map (unU N)) j (by rw [List.length_map]; exact hlt))
        rw [map_getD _ _ _ hlt] at yd HS
        generalize ((ts.map (unU N)).take j).sum = sm at *
        generalize unU N (ts.getD j default) = u at *
        generalize ts.getD j default = t at *
        obtain ⟨v0, v1, v2⟩ := t
        simp only at y0 y1 y2 y3 d0 f3 f4
        have f5 := frOk_iff.1 f3
        have hw0 := mul_bound (show 0 ≤ N by omega) hN2 (show 0 ≤ v1 by omega) f5.2.2.2.1
        have hw1 : IntKind.i64.wrap (N * v1) = N * v1 := IntWalk.i64_in _ (by omega)
        have hw2 : IntKind.i64.wrap (u * v2) = N * v1 := by rw [d0]; exact hw1
        have hsr := HB.out.size
        have bl := World.block_lt_of_cell? wr _ y0
        have bd := World.block_lt_of_cell? wr _ yd
        simp at bl bd
        have j1 : (0 : Int) ≤ (j : Int) := by omega
        have j2 : (j : Int) < (ts.length : Int) := by omega
        obtain ⟨V, hV1, hV2⟩ : ∃ V, IntKind.i64.wrap (N * v1) = V ∧ IntKind.i64.wrap (u * v2) = V := ⟨_, hw1, hw2⟩
        clear d0 hw0 hw1 hw2 f5 f3
        go_upto_region 16 with fail
        go_quiet (fail)
        have HBq := hide (below_dr' (n := nq) HB.out)
        go_wp2
        go_roundw
        case rel => exact ⟨j + 1, by omega, by go_num, by rw [HS.out], by rw [HS.out]; omega, by rw [HS.out]; omega, HBq⟩
        case measure => simp [intOf]; omega
      · have HS := hide (show ((ts.map (unU N)).take j).sum = N by rw [List.take_of_length_le (by rw [List.length_map]; omega)]; exact HNN.out.sum)
        go_wp2
        go_meet
        case rel => exact ⟨by rw [HS.out], HB⟩
  case rest =>
  obtain ⟨rfl, HB⟩ := hcut
  have K8 := K7.out.below HB.out
  have hs8 := HB.out.size
  clear HB K7 hd7 HNN
  go_wp2_with fail
  (with_reducible refine (HSM.out wc K8.hc).mono ?_)
  rintro e w9 ⟨rfl, hb9⟩
  have K9 := K8.below hb9
  have hs9 := hb9.size
  clear hb9 K8 HSM
  have b910 : Below w9.heap.size w9 (w9.alloc (.cells #[.int .i64 p, .int .i64 q] 25)) := belA (Below.refl _ _)
  have K10 := hide (K9.below b910)
  have xS := blk_new w9 #[.int .i64 p, .int .i64 q] 25
  clear K9 b910
  go_upto_block 2 with fail
  generalize w9.alloc (.cells #[.int .i64 p, .int .i64 q] 25) = w10 at *
  generalize hbS : w9.heap.size = bS at *
  go_cut [14] (fun _ wx => Hid (Below w10.heap.size w10 wx))
  case first =>
    go_wp2
    go_loopw [14] (fun i wr => ∃ j : Nat, j ≤ ts.length ∧ i = .int .i64 j ∧ Hid (Below w10.heap.size w10 wr)) (fun i _ => ts.length - (intOf i).toNat)
    case atStart => exact ⟨0, Nat.zero_le _, rfl, hide (Below.refl _ _)⟩
    case round =>
      obtain ⟨j, hj, rfl, HB⟩ := hrel
      by_cases hlt : j < ts.length
      · obtain ⟨y0, y1, y2, y3⟩ := rd3_own' (K10.out.hc.below HB.out) j hlt
        have hmn := HMIN.out _ (getD_mem3' hlt)
        have xS' := heap_grow xS HB.out
        have p0 := cell_of_block xS' 0
        have p1 := cell_of_block xS' 1
        simp at p0 p1
        have xSl := (Array.getElem?_eq_some_iff.1 xS').1
        generalize ts.getD j default = t at *
        obtain ⟨v0, v1, v2⟩ := t
        simp only at y0 y1 y2 y3 hmn
        have HCM := hide (fun W => specCompareFractions_any p q v1 v2 W)
        generalize cmpM p q v1 v2 = cv at *
        have hcv : decide (0 < cv) = false := by simp; omega
        have bl := World.block_lt_of_cell? wr _ y0
        simp at bl
        have j1 : (0 : Int) ≤ (j : Int) := by omega
        have j2 : (j : Int) < (ts.length : Int) := by omega
        go_upto_region 22 with fail
        (refine wp_region_g [0, 1, 2, 3, 4, 5, 6, 7] [] (by kernel_rfl) (by kernel_rfl) ?_; simp only [pick, List.map_cons, List.map_nil, Array.getD_eq_getD_getElem?, List.getElem?_toArray, List.getElem?_cons_zero, List.getElem?_cons_succ, Option.getD_some]; (iterate 8 (refine wpG_step (fun K hK => ?_); go_simp; first | (refine hK _ ?_; clear hK K) | (apply Exists.intro; refine ⟨fun _ => ?_, hK _ ?_⟩; ((go_at_call 50; exact HCM.out _)); clear hK K))); refine wpG_nil ?_)
        intro wq hbq
        have HBq := hide (belT HB.out (below_of_inC hbq))
        go_wp2
        go_roundw
        case rel => exact ⟨j + 1, by omega, by go_num, HBq⟩
        case measure => simp [intOf]; omega
      · go_wp2
        go_meet
        case rel => exact HB
  case rest =>
  have K11 := K10.out.below hcut.out
  have hs11 := hcut.out.size
  clear hcut K10 xS HMIN
  have q0 := cell_of_block K11.hx 0
  have q1 := cell_of_block K11.hx 1
  have q2 := cell_of_block K11.hx 2
  simp at q0 q1 q2
  have bF11 := (Array.getElem?_eq_some_iff.1 K11.hx).1
  go_wp2_with fail
  (with_reducible refine (HSP.out wc).mono ?_)
  rintro e w12 ⟨rfl, hb12⟩
  have K12 := K11.below hb12
  have hs12 := hb12.size
  clear hb12 K11 HSP q0 q1 q2
  have b123 : Below w12.heap.size w12 (w12.alloc (.cells #[.int .i64 s0, .int .i64 s1] 25)) := belA (Below.refl _ _)
  have K13 := K12.below b123
  have xP := blk_new w12 #[.int .i64 s0, .int .i64 s1] 25
  clear K12 b123
  go_upto_region 26 with fail
  generalize w12.alloc (.cells #[.int .i64 s0, .int .i64 s1] 25) = w13 at *
  generalize hbP : w12.heap.size = bP at *
  go_wp2_with fail
  (with_reducible refine (HOX.out gx cx w13 K13.ox.rd3).mono ?_)
  rintro e w14 ⟨rfl, hb14⟩
  have K14 := hide (K13.below hb14)
  have xP14 := heap_grow xP hb14
  clear hb14 K13 xP HOX
  go_upto_block 4 with fail
  go_cut [17] (fun v wx => v = .int .i64 3 ∧ Hid (Below w14.heap.size w14 wx))
  case first =>
    go_wp2
    go_loopw [17, 18] (fun v i wr => ∃ j : Nat, j ≤ ts.length + 2 ∧ i = .int .i64 j ∧ v = .int .i64 ((j + 1 - ts.length : Nat) : Int) ∧ Hid (Below w14.heap.size w14 wr)) (fun _ i _ => ts.length + 2 - (intOf i).toNat)
    case atStart => exact ⟨0, Nat.zero_le _, rfl, by rw [show (0 + 1 - ts.length : Nat) = 0 by omega]; rfl, hide (Below.refl _ _)⟩
    case round =>
      obtain ⟨j, hj, rfl, rfl, HB⟩ := hrel
      by_cases hlt : j < ts.length + 2
      · have K := K14.out.below HB.out
        obtain ⟨y0, y1, y2, y3⟩ := rd3_own' K.ox.rd3 j (by rw [HXN.out]; exact hlt)
        have q0 := cell_of_block K.hx 0
        simp at q0
        have hcn : 0 ≤ ((j + 1 - ts.length : Nat) : Int) ∧ ((j + 1 - ts.length : Nat) : Int) ≤ 3 := by omega
        have lF := (Array.getElem?_eq_some_iff.1 K.hx).1
        have lX := K.ox.lt
        have HHA := hide (fun n z => show Calls Try.prog 52 #[.slice (some ⟨gh, 0, none⟩) 3 3, .int .i64 z] (wr.drewN n) fun e w' => e = .returned (.bool (decide (z ∈ [301, 302, 303]))) ∧ wr.drewN n = w' from hrHas (some ⟨gh, 0, none⟩) 3 [301, 302, 303] z (wr.drewN n) (show Rd (wr.drewN n) _ _ from K.oh.rd) (by simp))
        have xPr := heap_grow xP14 HB.out
        have p0 := cell_of_block xPr 0
        have p1 := cell_of_block xPr 1
        simp at p0 p1
        have lP := (Array.getElem?_eq_some_iff.1 xPr).1
        have hg := HGT.out j hlt
        have hjc := hide (cnt_j j ts.length)
        clear K xPr
        have j1 : (0 : Int) ≤ (j : Int) := by omega
        have j2 : (j : Int) < (ts.length : Int) + 2 := by omega
        generalize hcv : (j + 1 - ts.length : Nat) = cv at *
        rcases hg with ⟨g1, h2, h3⟩ | ⟨g1, zz, h2, h3⟩
        · generalize xs.getD j default = t at *
          obtain ⟨v0, v1, v2⟩ := t
          simp only at y0 y1 y2 y3 h2 h3
          have hq : (v0 == o) = false := by simpa using h2
          have hmem : decide (v0 ∈ [301, 302, 303]) = false := by simp; omega
          have HH := hide (fun n => HHA.out n v0)
          rw [hmem] at HH
          clear HHA
          go_upto_region 32 with fail
          go_quiet (fail)
          go_wp2_with fail
          (with_reducible refine (HH.out nq).mono ?_)
          rintro e w' ⟨rfl, rfl⟩
          have HBq := hide (below_dr' (n := nq) HB.out)
          go_wp2
          go_roundw
          case rel => exact ⟨j + 1, by omega, by go_num, by rw [hjc.out.1 g1], HBq⟩
          case measure => simp [intOf]; omega
        · rw [h3] at y0 y1 y2 y3
          simp only at y0 y1 y2 y3
          have hq : (zz == o) = false := by rw [beq_eq_false_iff_ne]; omega
          have hmem : decide (zz ∈ [301, 302, 303]) = true := by simpa using h2
          have HH := hide (fun n => HHA.out n zz)
          rw [hmem] at HH
          clear HHA h2 h3
          go_upto_region 32 with fail
          go_quiet (fail)
          go_wp2_with fail
          (with_reducible refine (HH.out nq).mono ?_)
          rintro e w' ⟨rfl, rfl⟩
          have HBq := hide (below_dr' (n := nq) HB.out)
          go_upto_region 36 with fail
          have y1' : (wr.drewN nq).cell? ⟨gx, j * 3 + 1, none⟩ = some (.int .i64 s0) := y1
          have y2' : (wr.drewN nq).cell? ⟨gx, j * 3 + 1 + 1, none⟩ = some (.int .i64 s1) := y2
          have p0' : (wr.drewN nq).cell? ⟨bP, 0, none⟩ = some (.int .i64 s0) := p0
          have p1' : (wr.drewN nq).cell? ⟨bP, 1, none⟩ = some (.int .i64 s1) := p1
          have lX' : gx < (wr.drewN nq).heap.size := lX
          have lP' : bP < (wr.drewN nq).heap.size := lP
          generalize wr.drewN nq = wv at *
          clear y0 y1 y2 y3 p0 p1 q0 lX lP HH HB
          go_quiet (fail)
          have HBr := hide (below_dr' (n := nq) HBq.out)
          go_wp2
          go_roundw
          case rel => exact ⟨j + 1, by omega, by go_num, by rw [hjc.out.2 g1]; go_num, HBr⟩
          case measure => simp [intOf]; omega
      · have hj' : j = ts.length + 2 := by omega
        subst hj'
        have h3 := hide (show (ts.length + 2 + 1 - ts.length : Nat) = 3 by omega)
        go_wp2
        go_meet
        case rel => exact ⟨by rw [h3.out]; rfl, HB⟩
  case rest =>
  obtain ⟨rfl, HB⟩ := hcut
  have K15 := K14.out.below HB.out
  clear HB K14 xP14
  have o16 : OwnP (wc.alloc (.cells #[.int .i64 o] 3)) wc.heap.size 3 [o] := own_newP wc _ [o]
  have K16 := K15.below (belA (o := .cells #[.int .i64 o] 3) (Below.refl wc.heap.size wc))
  have q0 := cell_of_block K15.hx 0
  simp at q0
  have lF := (Array.getElem?_eq_some_iff.1 K15.hx).1
  clear K15
  go_wp2_with fail
  (with_reducible refine (HNO.out _ _ _ K16.hc o16.rd).mono ?_)
  rintro e w17 ⟨v17, rfl, hb17⟩
  have K17 := K16.below hb17
  clear K16 hb17 o16 HNO
  go_wp2
  all_goals go_ret
  all_goals exact ⟨rfl, K17.b⟩

end Go.Proofs.Ytjcoajaoofjjmaa
