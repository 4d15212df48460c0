/- The program's Inherit. -/
import Derived.Test.YtjcoajaoofjjmaaInh
namespace Go.Proofs.Ytjcoajaoofjjmaa
set_option linter.unusedSimpArgs false
set_option linter.unusedVariables false
set_option linter.unnecessarySimpa false
open Go.RowKit

theorem risB_pos : ∀ {hs : List Int} {pr : Int} (j : Nat), risB pr hs = true → j < hs.length → 1 ≤ hs.getD j 0
  | [], _, j, _, h => by simp at h
  | x :: r, pr, j, h, hj => by
    simp only [risB, Bool.and_eq_true] at h
    cases j with
    | zero => simpa using (inB_iff.1 h.1.1).1
    | succ j => simpa using risB_pos (hs := r) j h.2 (by simpa using hj)

def inhX (ts : List T3) (k : Nat) (hs : List Int) : Option (Int × Int) → Option (List T3)
  | some s => okM (addAll s.1 s.2 hs (ts.eraseIdx k))
  | none => none

set_option maxHeartbeats 2000000 in
theorem implInh_ok (a : Option Addr) (cap n k : Nat) (ts : List T3) (o : Int) (ah : Option Addr) (caph nh : Nat) (hs : List Int) (w : World) (hc : Rd3 w a ts) (hn : ts.length = n) (hh : Rd w ah hs) (hnh : hs.length = nh) (hR : rightsM ts = true) (hk : idxO o ts = k) (hkn : k < n)
    (h6 : inB (nh : Int) 1 6 = true) (hris : risB 0 hs = true) (hno : hasO o hs = false)
    (t0 t1 t2 : Int) (ht : ts.getD k default = (t0, t1, t2)) (A : Option (Int × Int)) (hA : splitM t1 t2 (nh : Int) = A) (RES : Option (List T3)) (hRES : RES = inhX ts k hs A) :
    Calls Try.prog 45 #[.slice a n cap, .int .i64 o, .slice ah nh caph] w fun e w' => GivesO RES ts w e w' := by
  have HRES := hide hRES
  have hR2 := rights_parts hR
  have hn12 : n ≤ 12 := by omega
  have hnh6 := inB_iff.1 h6
  have hCP := hide (fun W (hb : Below w.heap.size w W) => show Calls Try.prog 69 #[.slice a n cap] W fun e w' => GivesR ts W e w' from by
    have := copyRights_any a cap ts W (hc.below hb) (by omega)
    rw [hn] at this; exact this)
  have hIX := hide (fun W (hb : Below w.heap.size w W) => show Calls Try.prog 70 #[.slice a n cap, .int .i64 o] W fun e w' => Rets W (.int .i64 k) e w' from by
    have := rightOf_any a cap ts o W (hc.below hb) (by omega)
    rw [hn, idxV, hk, hn, if_pos hkn] at this; exact this)
  have hRO := hide (fun W (hb : Below w.heap.size w W) => show Calls Try.prog 22 #[.slice a n cap] W fun e w' => Rets W (.bool true) e w' from by
    have := implRightsOk_any a cap ts W (hc.below hb) (by omega)
    rw [hn, hR] at this; exact this)
  have hWI := hide (fun W => show Calls Try.prog 58 #[.int .i64 (nh : Int), .int .i64 1, .int .i64 6] W fun e w' => e = .returned (.bool true) ∧ W = w' from by
    have := within_any (nh : Int) 1 6 W
    rw [h6] at this; exact this)
  have hRI := hide (fun W (hb : Below w.heap.size w W) => show Calls Try.prog 76 #[.slice ah nh caph, .int .i64 1, .int .i64 999] W fun e w' => Rets W (.bool true) e w' from by
    have := rising_any ah caph hs W (hh.below hb) (by omega)
    rw [hnh, hris] at this; exact this)
  have hHA := hide (fun W (hb : Below w.heap.size w W) => show Calls Try.prog 77 #[.slice ah nh caph, .int .i64 o] W fun e w' => Rets W (.bool false) e w' from by
    have := hasInt_any ah caph hs o W (hh.below hb) (by omega)
    rw [hnh, hno] at this; exact this)
  have hSP := hide (fun W => implSplitEqually_any t1 t2 (nh : Int) W)
  rw [hA] at hSP
  have hk0 : decide ((k : Int) < 0) = false := by simp
  have htm := rights_mem hR (ts.getD k default) (getD_mem3' (by omega))
  rw [ht] at htm
  have HA0 := hide (fun s (h : A = some s) => split_pos htm.2.2.2 (hA.trans h))
  clear hRES h6 hA htm
  go_enter Try.func45, Try.ntmps45
  go_wp2_with fail
  (with_reducible refine (hCP.out _ (Below.refl _ _)).mono ?_)
  rintro e w1 ⟨vS, rfl, hown, b1⟩
  obtain ⟨gS, cS, rfl, hgS, rowS⟩ := hown.some_row (by intro e; rw [e] at hn; simp at hn; omega)
  rw [hn]
  clear hown
  go_wp2_with fail
  (with_reducible refine (hIX.out _ b1).mono ?_)
  rintro e w2 ⟨rfl, hb2⟩
  have b2 := belT b1 hb2
  have row2 := rowS.below hb2
  clear b1 hb2 rowS
  go_wp2_with fail
  (with_reducible refine (hRO.out _ b2).mono ?_)
  rintro e w3 ⟨rfl, hb3⟩
  have b3 := belT b2 hb3
  have row3 := row2.below hb3
  clear b2 hb3 row2
  go_wp2_with fail
  go_at_call 58
  (with_reducible refine (hWI.out _).mono ?_)
  rintro e w' ⟨rfl, rfl⟩
  go_wp2_with fail
  (with_reducible refine (hRI.out _ b3).mono ?_)
  rintro e w4 ⟨rfl, hb4⟩
  have b4 := belT b3 hb4
  have row4 := row3.below hb4
  clear b3 hb4 row3
  go_wp2_with fail
  (with_reducible refine (hHA.out _ b4).mono ?_)
  rintro e w5 ⟨rfl, hb5⟩
  have b5 := belT b4 hb5
  have row5 := row4.below hb5
  clear b4 hb5 row4 hIX hWI hRI hHA
  obtain ⟨b, off, rfl, y0, y1, y2⟩ := (hc.below b5) k (by omega)
  rw [ht] at y0 y1 y2
  simp only at y0 y1 y2
  have i1 : (0 : Int) ≤ (k : Int) := by omega
  have i2 : (k : Int) < (n : Int) := by omega
  go_wp2_with fail
  (with_reducible refine (hSP.out _).mono ?_)
  rintro e w6 ⟨rfl, hb6⟩
  have b6 := belT b5 hb6
  have row6 := row5.below hb6
  clear b5 hb6 row5 y0 y1 y2 hSP
  cases hA' : A with
  | none =>
    simp only [oT, oB, Option.isSome_none]
    have eR : RES = none := by rw [HRES.out, hA']; rfl
    go_wp2
    refine bodyPost_ret (by simp [results, Try.results45, go_sem, *]; try rfl) rfl ?_
    rw [eR]
    exact GivesO.none ((row6.below (belA (Below.refl _ _))).holds (base := w.heap.size) hn.symm (by omega)) (belA b6)
  | some s =>
    obtain ⟨s0, s1⟩ := s
    have HS0 := hide (HA0.out (s0, s1) hA')
    simp only [oT, oB, Option.isSome_some]
    have HRE := hide (show RES = okM (addAll s0 s1 hs (ts.eraseIdx k)) by rw [HRES.out, hA']; rfl)
    have hs0 : ¬ s0 = 0 := HS0.out
    clear HRES HA0 hA' HS0
    go_wp2_with fail
    have bA := belA (o := .cells #[.int .i64 s0, .int .i64 s1] 25) b6
    refine (hCP.out _ bA).mono ?_
    rintro e w7 ⟨v7, rfl, hown7, hb7⟩
    obtain ⟨gO, cO, rfl, hgO7, row7⟩ := hown7.some_row (by intro e; rw [e] at hn; simp at hn; omega)
    rw [hn]
    have b7 := belT bA hb7
    have row7S := (row6.below (belA (o := .cells #[.int .i64 s0, .int .i64 s1] 25) (Below.refl _ _))).below hb7
    have P7 := heap_grow (blk_new w6 #[.int .i64 s0, .int .i64 s1] 25) hb7
    have hgS6 := row6.lt
    rw [World.size_alloc] at hgO7
    have h6s := b6.size
    have HDL := hide (delete_any gO cO k (n - 1) ts w7 row7 (by omega) (by omega) (by omega))
    rw [hn] at HDL
    generalize hbP : w6.heap.size = bP at *
    clear hown7 hb7 bA row6 b6 hCP row7
    go_wp2_with fail
    (with_reducible refine HDL.out.mono ?_)
    rintro e w8 ⟨rfl, row8, gr8⟩
    have b8 := belG b7 gr8 (by omega)
    have row8S := row7S.grown_own gr8 (by intro e; injection e with e; omega)
    have P8 := grown_heap gr8 P7 (by intro e; injection e with e; omega)
    clear HDL gr8 b7 row7S P7
    have HSR := hide (srt_erase (p := 0) k (srt_of_rgA hR2.2.2.1))
    have HLE := hide (show (ts.eraseIdx k).length = n - 1 by rw [List.length_eraseIdx, if_pos (by omega), hn])
    have row8' := row8
    have hBO : w.heap.size ≤ gO := by omega
    have nSO : gS ≠ gO := by omega
    have nPO : bP ≠ gO := by omega
    have hP8 : bP < w8.heap.size := (Array.getElem?_eq_some_iff.1 P8).1
    have hS8 : gS < w8.heap.size := row8S.lt
    go_wp2
    go_loopw [11, 12, 66] (fun okv out i wr => ∃ (j g c m : Nat) (us : List T3), j ≤ nh ∧ i = .int .i64 j ∧ out = .slice (some ⟨g, 0, none⟩) m c ∧ us.length = m ∧ okv = .bool true ∧ Hid (RowT 56 wr g c us) ∧ Hid (srt 0 us) ∧ m ≤ n - 1 + j ∧ Hid (addAll s0 s1 hs (ts.eraseIdx k) = addAll s0 s1 (hs.drop j) us) ∧ w.heap.size ≤ g ∧ gS ≠ g ∧ bP ≠ g ∧ Hid (RowT 56 wr gS cS ts) ∧ Hid (wr.heap[bP]? = some (.cells #[.int .i64 s0, .int .i64 s1] 25 (0, 0))) ∧ Hid (Below w.heap.size w wr)) (fun _ _ i _ => nh - (intOf i).toNat)
    case atStart => exact ⟨0, gO, cO, n - 1, ts.eraseIdx k, Nat.zero_le _, rfl, rfl, HLE.out, rfl, row8', HSR.out, Nat.le_refl _, hide (by rw [List.drop_zero]), hBO, nSO, nPO, row8S, P8, b8⟩
    case round =>
      obtain ⟨j, g, c, m, us, hj, rfl, rfl, hum, rfl, RU, SU, hmj, HAA, hgB, hSg, hPg, RS, PP, BB⟩ := hrel
      have hRO2 := hRO
      by_cases hlt : j < nh
      · obtain ⟨bh, offh, rfl, yh⟩ := (hh.below BB.out) j (by omega)
        have hpos := risB_pos j hris (by omega)
        have HST := hide (addAll_step s0 s1 hs j us (by omega))
        generalize hs.getD j 0 = h at *
        have HAD := hide (fun (hl : us.length = m) => addShare_any g c m us h s0 s1 0 wr RU.out hl (by omega) SU.out)
        have HTO := hide (show sellTo us h (s0, s1) = addShM us h s0 s1 from if_neg hs0)
        have HSZ := hide (fun vs (hv : addShM us h s0 s1 = some vs) => addSh_srt SU.out (show (0 : Int) < h by omega) hv)
        have p0 := cell_of_block PP.out 0
        have p1 := cell_of_block PP.out 1
        simp at p0 p1
        have hgr := RU.out.lt
        have hSr := RS.out.lt
        have hPr : bP < wr.heap.size := (Array.getElem?_eq_some_iff.1 PP.out).1
        have hBr := BB.out.size
        go_wp2_with fail
        (with_reducible refine (HAD.out hum).mono ?_)
        rintro e w9 ⟨g', c', m', bb, rfl, hgr9, hs9, hm9⟩
        have RS9 := hide (RS.out.grown_own hgr9 (by intro e; injection e with e; omega))
        have PP9 := hide (grown_heap hgr9 PP.out (by intro e; injection e with e; omega))
        have BB9 := hide (belG BB.out hgr9 hgB)
        rw [HTO.out] at hm9
        cases hv : addShM us h s0 s1 with
        | none =>
          rw [hv] at hm9
          have hm9 : bb = false := hm9
          subst hm9
          have eR : RES = none := by rw [HRE.out, HAA.out, HST.out, hv]; rfl
          clear HRE hv
          go_wp2
          refine bodyPost_ret (by simp [results, Try.results45, go_sem, *]; try rfl) rfl ?_
          rw [eR]
          exact GivesO.none (RS9.out.holds (base := w.heap.size) hn.symm (by omega)) BB9.out
        | some vs =>
          rw [hv] at hm9
          obtain ⟨rfl, rfl, rowV⟩ := hm9
          have hz := HSZ.out vs hv
          have HAA9 := hide (HAA.out.trans (HST.out.trans (by rw [hv])))
          have RV := hide rowV
          have hl9 := hz.2
          have HSV := hide hz.1
          clear hv rowV hz HSZ
          go_wp2
          go_roundw
          case rel => exact ⟨j + 1, g', c', vs.length, vs, by omega, by go_num, rfl, rfl, rfl, RV, HSV, by omega, HAA9, by omega, by omega, by omega, RS9, PP9, BB9⟩
          case measure => simp [intOf]; omega
      · have hjn : j = nh := by omega
        have HFI := hide (show RES = okM (some us) by rw [HRE.out, HAA.out, List.drop_of_length_le (by omega)]; rfl)
        have hRV := hide (fun (hl : us.length = m) => show Calls Try.prog 22 #[.slice (some ⟨g, 0, none⟩) m c] wr fun e w' => Rets wr (.bool (rightsM us)) e w' from by
          have := implRightsOk_any (some ⟨g, 0, none⟩) c us wr RU.out.rd3 (by omega)
          rw [hl] at this; exact this)
        have HXV := hide (show RES = if rightsM us then some us else none by rw [HFI.out]; rfl)
        generalize rightsM us = RV at *
        clear HFI HRE
        go_wp2_with fail
        (with_reducible refine (hRV.out hum).mono ?_)
        rintro e w9 ⟨rfl, hb9⟩
        have b9 := belT BB.out hb9
        have rU9 := RU.out.below hb9
        have rS9 := RS.out.below hb9
        cases RV
        · go_wp2
          refine bodyPost_ret (by simp [results, Try.results45, go_sem, *]; try rfl) rfl ?_
          rw [HXV.out]
          exact GivesO.none (rS9.holds (base := w.heap.size) hn.symm (by omega)) b9
        · go_wp2
          refine bodyPost_ret (by simp [results, Try.results45, go_sem, *]; try rfl) rfl ?_
          rw [HXV.out]
          exact GivesO.some (rU9.holds (base := w.heap.size) hum.symm hgB) b9

set_option maxHeartbeats 2000000 in
theorem implInh_bad (a : Option Addr) (cap n : Nat) (ts : List T3) (o : Int) (ah : Option Addr) (caph nh : Nat) (hs : List Int) (w : World) (hc : Rd3 w a ts) (hn : ts.length = n) (hl : n ≤ 1048576) (hh : Rd w ah hs) (hnh : hs.length = nh) (hl2 : nh ≤ 1048576)
    (hbad : ¬ (rightsM ts = true ∧ 0 ≤ idxV o ts ∧ inB (nh : Int) 1 6 = true ∧ risB 0 hs = true ∧ hasO o hs = false)) :
    Calls Try.prog 45 #[.slice a n cap, .int .i64 o, .slice ah nh caph] w fun e w' => GivesO none ts w e w' := by
  have hCP := hide (fun W (hb : Below w.heap.size w W) => show Calls Try.prog 69 #[.slice a n cap] W fun e w' => GivesR ts W e w' from by
    have := copyRights_any a cap ts W (hc.below hb) (by omega)
    rw [hn] at this; exact this)
  have hIX := hide (fun W (hb : Below w.heap.size w W) => show Calls Try.prog 70 #[.slice a n cap, .int .i64 o] W fun e w' => Rets W (.int .i64 (idxV o ts)) e w' from by
    have := rightOf_any a cap ts o W (hc.below hb) (by omega)
    rw [hn] at this; exact this)
  have hRO := hide (fun W (hb : Below w.heap.size w W) => show Calls Try.prog 22 #[.slice a n cap] W fun e w' => Rets W (.bool (rightsM ts)) e w' from by
    have := implRightsOk_any a cap ts W (hc.below hb) (by omega)
    rw [hn] at this; exact this)
  have hWI := hide (fun W => within_any (nh : Int) 1 6 W)
  have hRI := hide (fun W (hb : Below w.heap.size w W) => show Calls Try.prog 76 #[.slice ah nh caph, .int .i64 1, .int .i64 999] W fun e w' => Rets W (.bool (risB 0 hs)) e w' from by
    have := rising_any ah caph hs W (hh.below hb) (by omega)
    rw [hnh] at this; exact this)
  have hHA := hide (fun W (hb : Below w.heap.size w W) => show Calls Try.prog 77 #[.slice ah nh caph, .int .i64 o] W fun e w' => Rets W (.bool (hasO o hs)) e w' from by
    have := hasInt_any ah caph hs o W (hh.below hb) (by omega)
    rw [hnh] at this; exact this)
  generalize rightsM ts = R at *
  generalize idxV o ts = K at *
  generalize inB (nh : Int) 1 6 = T at *
  generalize risB 0 hs = F at *
  generalize hasO o hs = D at *
  clear hc hh
  have HB := hide hbad
  clear hbad
  go_enter Try.func45, Try.ntmps45
  go_wp2_with fail
  (with_reducible refine (hCP.out _ (Below.refl _ _)).mono ?_)
  rintro e w1 ⟨vS, rfl, hown, b1⟩
  have own1 := hide hown
  clear hown
  go_wp2_with fail
  (with_reducible refine (hIX.out _ b1).mono ?_)
  rintro e w2 ⟨rfl, hb2⟩
  have b2 := belT b1 hb2
  have own2 := hide (own1.out.below hb2)
  clear b1 hb2 own1
  go_wp2_with fail
  (with_reducible refine (hRO.out _ b2).mono ?_)
  rintro e w3 ⟨rfl, hb3⟩
  have b3 := belT b2 hb3
  have own3 := hide (own2.out.below hb3)
  clear b2 hb3 own2
  go_wp2_with (first
    | (go_at_call 58; (with_reducible refine (hWI.out _).mono ?_); rintro e w' ⟨rfl, rfl⟩)
    | (go_at_call 76; (with_reducible refine (hRI.out _ b3).mono ?_); rintro e w4 ⟨rfl, hb4⟩; have b4 := belT b3 hb4; have own4 := hide (own3.out.below hb4))
    | (go_at_call 77; (with_reducible refine (hHA.out _ b4).mono ?_); rintro e w5 ⟨rfl, hb5⟩; have b5 := belT b4 hb5; have own5 := hide (own4.out.below hb5)))
  all_goals first
    | (refine bodyPost_ret (by simp [results, Try.results45, go_sem, *]; try rfl) rfl ?_; exact GivesO.none own3.out.holds b3)
    | (refine bodyPost_ret (by simp [results, Try.results45, go_sem, *]; try rfl) rfl ?_; exact GivesO.none own4.out.holds b4)
    | (refine bodyPost_ret (by simp [results, Try.results45, go_sem, *]; try rfl) rfl ?_; exact GivesO.none own5.out.holds b5)
    | (exfalso; exact HB.out ⟨by assumption, by omega, by assumption, by assumption, (by have h := (by assumption : 0 ≤ K ∧ D = false); exact h.2)⟩)

theorem inhM_eq {ts : List T3} {o : Int} {hs : List Int} (h1 : rightsM ts = true) (h2 : inB (hs.length : Int) 1 6 = true) (h3 : idxO o ts < ts.length) (h4 : risB 0 hs = true) (h5 : hasO o hs = false) :
    inhM ts o hs = inhX ts (idxO o ts) hs (splitM (ts.getD (idxO o ts) default).2.1 (ts.getD (idxO o ts) default).2.2 hs.length) := by
  unfold inhM
  rw [if_pos ⟨by rw [h1, h2]; rfl, h3⟩]
  cases splitM (ts.getD (idxO o ts) default).2.1 (ts.getD (idxO o ts) default).2.2 hs.length with
  | none => rfl
  | some s =>
    show okM (heirL o s.1 s.2 0 hs (ts.eraseIdx (idxO o ts))) = okM (addAll s.1 s.2 hs (ts.eraseIdx (idxO o ts)))
    rw [heirL_eq, h4, h5]
    rfl
theorem inhM_none {ts : List T3} {o : Int} {hs : List Int} (h : ¬ (rightsM ts = true ∧ inB (hs.length : Int) 1 6 = true ∧ idxO o ts < ts.length ∧ risB 0 hs = true ∧ hasO o hs = false)) : inhM ts o hs = none := by
  unfold inhM
  split
  · rename_i h1
    have h2 := h1.1
    simp only [Bool.and_eq_true] at h2
    cases splitM (ts.getD (idxO o ts) default).2.1 (ts.getD (idxO o ts) default).2.2 hs.length with
    | none => rfl
    | some s =>
      show okM (heirL o s.1 s.2 0 hs (ts.eraseIdx (idxO o ts))) = none
      rw [heirL_eq, if_neg (by
        intro hx
        simp only [Bool.and_eq_true, Bool.not_eq_true'] at hx
        exact h ⟨h2.1, h2.2, h1.2, hx.1, hx.2⟩)]
      rfl
  · rfl

theorem implInh_any (a : Option Addr) (cap : Nat) (ts : List T3) (o : Int) (ah : Option Addr) (caph : Nat) (hs : List Int) (w : World) (hc : Rd3 w a ts) (hn : ts.length ≤ 1048576) (hh : Rd w ah hs) (hl : hs.length ≤ 1048576) :
    Calls Try.prog 45 #[.slice a ts.length cap, .int .i64 o, .slice ah hs.length caph] w fun e w' => GivesO (inhM ts o hs) ts w e w' := by
  by_cases h : rightsM ts = true ∧ inB (hs.length : Int) 1 6 = true ∧ idxO o ts < ts.length ∧ risB 0 hs = true ∧ hasO o hs = false
  · obtain ⟨h1, h2, h3, h4, h5⟩ := h
    exact implInh_ok a cap ts.length (idxO o ts) ts o ah caph hs.length hs w hc rfl hh rfl h1 rfl h3 h2 h4 h5 _ _ _ rfl _ rfl _ (inhM_eq h1 h2 h3 h4 h5)
  · rw [inhM_none h]
    refine implInh_bad a cap ts.length ts o ah caph hs.length hs w hc rfl hn hh rfl hl ?_
    rintro ⟨h1, h2, h3, h4, h5⟩
    exact h ⟨h1, h3, idxV_neg h2, h4, h5⟩

end Go.Proofs.Ytjcoajaoofjjmaa
