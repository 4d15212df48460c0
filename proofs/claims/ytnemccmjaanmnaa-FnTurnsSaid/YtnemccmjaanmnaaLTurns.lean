/- The walk of the law of turns. -/
import Derived.Test.YtnemccmjaanmnaaTrnDraw
namespace Go.Proofs.Ytnemccmjaanmnaa
set_option linter.unusedSimpArgs false
set_option linter.unusedVariables false
open Go.RowKit

theorem btoi_any (b : Bool) (w : World) : Calls Try.prog 30 #[.bool b] w fun e w' => e = .returned (.int .i64 (if b then 1 else 0)) ∧ w = w' := by
  cases b
  · go_enter Try.func30, Try.ntmps30
    go_wp2
    go_ret
    exact ⟨rfl, rfl⟩
  · go_enter Try.func30, Try.ntmps30
    go_wp2
    go_ret
    exact ⟨rfl, rfl⟩

/-- How many of the first k hours each number of an owner has. -/
def cl (ts : List T3) (k : Nat) : List Int := (List.range 8).map fun (x : Nat) => cnt (fun h => ownL h ts == (x : Int)) k

theorem cl_length (ts : List T3) (k : Nat) : (cl ts k).length = 8 := by simp [cl]
theorem cl_getD (ts : List T3) (k x : Nat) (hx : x < 8) : (cl ts k).getD x 0 = cnt (fun h => ownL h ts == (x : Int)) k := by
  simp [cl, List.getD_eq_getElem?_getD, hx]
theorem cl_zero (ts : List T3) : cl ts 0 = List.replicate 8 0 := by simp [cl, cnt]; decide
theorem cl_succ (ts : List T3) (k x : Nat) (h : ownL k ts = x) (hx : x < 8) : (cl ts k).set x ((cl ts k).getD x 0 + 1) = cl ts (k + 1) := by
  rw [cl_getD ts k x hx]
  apply List.ext_getElem
  · simp [cl]
  · intro j h1 h2
    have hj : j < 8 := by simpa [cl] using h2
    rw [List.getElem_set]
    simp only [cl, List.getElem_map, List.getElem_range, cnt, h]
    by_cases hjx : x = j
    · subst hjx; simp
    · rw [if_neg hjx]
      have : ((x : Int) == (j : Int)) = false := by rw [beq_eq_false_iff_ne]; omega
      simp [this]

theorem tsDr_own {ts : List T3} (h : tsDr ts) (k : Int) : 0 ≤ ownL k ts ∧ ownL k ts ≤ 6 := by
  have hm := (tsOk_mem h.1).2
  have h6 := h.2
  clear h
  induction ts with
  | nil => simp [ownL]
  | cons t r ih =>
    have h1 := hm t (by simp)
    have h2 := h6 t (by simp)
    have h3 := ih (fun u hu => hm u (by simp [hu])) (fun u hu => h6 u (by simp [hu]))
    simp only [ownL]; split <;> omega

theorem swapLast (g2 c2 : Nat) (ts : List T3) (hk : tsOk ts = true) (hl1 : 1 < ts.length) :
    ∃ sl : List T3, sl.length = ts.length ∧ (sl.getD 0 default).1 = (ts.getD (ts.length - 1) default).1 ∧ freeM sl = freeM ts ∧
      ∀ W, Rd3 W (some ⟨g2, 0, none⟩) ts → Calls Try.prog 22 #[.slice (some ⟨g2, 0, none⟩) ts.length c2, .int .i64 0, .int .i64 ((ts.length : Int) - 1)] W (GivesT 43 sl true W) := by
  have h30 := (tsOk_mem hk).1
  have e1 : inB 0 0 ((ts.length : Int) - 1) = true := inB_iff.2 (by omega)
  have e2 : inB ((ts.length : Int) - 1) 0 ((ts.length : Int) - 1) = true := inB_iff.2 (by omega)
  have hok : swapOk ts 0 ((ts.length : Int) - 1) = true := by
    simp only [swapOk, hk, e1, e2]; rfl
  have e3 : ((ts.length : Int) - 1).toNat = ts.length - 1 := by omega
  have hml : swapM ts 0 ((ts.length : Int) - 1) = swapL ts 0 (ts.length - 1) := by
    simp only [swapM, hok, if_true, e3]; rfl
  refine ⟨swapL ts 0 (ts.length - 1), by simp [swapL], ?_, swap_law hk (by omega) (by omega), fun W hc => ?_⟩
  · simp only [swapL]
    rw [List.getD_eq_getElem?_getD, List.getElem?_set_ne (by omega), List.getElem?_set_self (by omega)]; rfl
  · rw [← hml, ← hok]; exact implSwapTurns_any ⟨g2, 0, none⟩ c2 ts 0 _ W hc (by omega)

set_option maxRecDepth 100000 in
set_option maxHeartbeats 40000000 in
theorem law_Turns (a : Option Addr) (cap : Nat) (bs : List Int) (w : World) (hr : Rd8 w a bs) (hm : bs.length ≤ 9223372036854775807) :
    Calls Try.prog 9 #[.slice a bs.length cap] w fun e w' => Rets w (.bool true) e w' := by
  by_cases hl : bs.length ≤ 1048576
  case neg =>
    have hd : decide (1048576 < bs.length) = true := by simp; omega
    have HB := hide (show ∀ W, Calls Try.prog 27 #[.slice a bs.length cap] W fun e w' => e = .returned (.bool true) ∧ W = w' from fun W => by rw [← hd]; exact big_any a bs.length cap W hm)
    clear hd
    go_enter Try.func9, Try.ntmps9
    go_wp2_with fail
    refine (HB.out _).mono ?_
    rintro e w' ⟨rfl, rfl⟩
    go_wp2
    go_ret
    exact ⟨rfl, Below.refl _ _⟩
  have hd : decide (1048576 < bs.length) = false := by simp; omega
  have HB := hide (show ∀ W, Calls Try.prog 27 #[.slice a bs.length cap] W fun e w' => e = .returned (.bool false) ∧ W = w' from fun W => by rw [← hd]; exact big_any a bs.length cap W hm)
  clear hd
  have hmk : ∀ w, (Instr.makeSlice 40 (.int .i64 8) (.int .i64 8)).run Try.prog w = .ok (.slice (some ⟨w.heap.size, 0, none⟩) 8 8) (w.alloc (.cells ((List.replicate 8 (0 : Int)).map (Value.int .i64)).toArray 3)) := fun w => make_ints 40 Try.underlying40 8 (by omega) w
  generalize hZ : ((List.replicate 8 (0 : Int)).map (Value.int .i64)).toArray = Z at hmk
  have HZ := hide hZ
  clear hZ
  go_enter Try.func9, Try.ntmps9
  go_wp2_with fail
  refine (HB.out _).mono ?_
  rintro e w' ⟨rfl, rfl⟩
  go_wp2_with fail
  refine (DrawTurns_any a cap bs w hr hl).mono ?_
  rintro e w1 ⟨g2, c2, ts, rfl, hts, hg2, ho2, hb1⟩
  have hc1 := ho2.rd3
  have hg2l := ho2.lt
  clear ho2
  have hk := hts.1
  have h30 := (tsOk_mem hk).1
  have hn : ts.length ≤ 1048576 := by omega
  have HT := hide hts
  clear hts hk
  go_wp2_with fail
  refine (at_any a cap bs 0 w1 (hr.below hb1) hl (by omega) (by omega)).mono ?_
  rintro e w1' ⟨⟨h, rfl, h0, h255⟩, rfl⟩
  have E0 := hide (ownM_in HT.out.1 (h := h) (by omega) (by omega))
  have E1 := hide (show ownM ts (h + 168) = ownL (h % 168) ts by rw [ownM_in HT.out.1 (by omega) (by omega)]; congr 1; omega)
  have E2 := hide (show ownM ts (h - 168) = ownL (h % 168) ts by rw [ownM_in HT.out.1 (by omega) (by omega)]; congr 1; omega)
  have EB := tsDr_own HT.out (h % 168)
  generalize ownL (h % 168) ts = A at *
  have hA : decide (A < 0) = false := by simpa using EB.1
  go_wp2_with fail
  refine (show Calls Try.prog 20 _ w1 (Rets w1 (.int .i64 A)) by rw [← E0.out]; exact implOwnerAt_any (some ⟨g2, 0, none⟩) c2 ts h w1 hc1 hn).mono ?_
  rintro e w2 ⟨rfl, hb2⟩
  have hc2 := hc1.below hb2
  go_wp2_with fail
  refine (show Calls Try.prog 20 _ w2 (Rets w2 (.int .i64 A)) by rw [← E1.out]; exact implOwnerAt_any (some ⟨g2, 0, none⟩) c2 ts (h + 168) w2 hc2 hn).mono ?_
  rintro e w3 ⟨rfl, hb3⟩
  have hc3 := hc2.below hb3
  go_wp2_with fail
  refine (show Calls Try.prog 20 _ w3 (Rets w3 (.int .i64 A)) by rw [← E2.out]; exact implOwnerAt_any (some ⟨g2, 0, none⟩) c2 ts (h - 168) w3 hc3 hn).mono ?_
  rintro e w4 ⟨rfl, hb4⟩
  have hc4 := hc3.below hb4
  have b14 := belT (belT hb2 hb3) hb4
  have b4 := belT hb1 b14
  have hs14 := b14.size
  have hs4 := b4.size
  clear hb1 hb2 hb3 hb4 hc2 hc3
  go_wp2
  clear hmk
  obtain ⟨w5, hw5⟩ : ∃ w5, w5 = w4.alloc (.cells Z 3) := ⟨_, rfl⟩
  rw [← hw5]
  have b45 : Below w4.heap.size w4 w5 := by rw [hw5]; exact (Below.refl _ _).alloc (Nat.le_refl _) _
  have own5 : OwnP w5 w4.heap.size 3 (cl ts 0) := by rw [hw5, cl_zero, ← HZ.out]; exact own_newP _ _ _
  have hc5 := hc4.below b45
  have b5 := belT b4 b45
  clear hw5 HZ hc4 b45 hc1
  have hne : ∀ x, (some ⟨g2, 0, none⟩ : Option Addr) = some x → x.block ≠ w4.heap.size := fun x hx' => by cases hx'; simp only; omega
  have H5 := hide (And.intro b5 (And.intro b14 hs4))
  have hgw : w.heap.size ≤ w4.heap.size := hs4
  clear b5 b14 b4 EB hA
  generalize w4.heap.size = gc at *
  go_loopw [7, 8, 9] (fun f i x wr => ∃ k : Nat, k ≤ 168 ∧ i = .int .i64 k ∧ f = .int .i64 (cnt (fun h => ownL h ts == 0) k) ∧ OwnP wr gc 3 (cl ts k) ∧ w5.grownBy wr (some gc)) (fun f i x _ => 168 - (intOf i).toNat)
  case atStart => exact ⟨0, by omega, rfl, rfl, own5, grownBy_refl _ _⟩
  case round =>
    obtain ⟨k, hk, rfl, rfl, hown, hgr⟩ := hrel
    have hcr := rd3_grown hc5 hgr hne
    by_cases hlt : k < 168
    · have e1 := ownM_in HT.out.1 (h := k) (by omega) (by omega)
      rw [show (k : Int) % 168 = k by omega] at e1
      have eb := tsDr_own HT.out k
      have hcs := fun x e h => cl_succ ts k x e h
      have hcn : cnt (fun h => ownL h ts == 0) (k + 1) = cnt (fun h => ownL h ts == 0) k + if (ownL k ts == 0) then 1 else 0 := rfl
      have hfb := cnt_bd (fun h => ownL h ts == 0) k
      obtain ⟨x, hx0⟩ := Int.eq_ofNat_of_zero_le eb.1
      rw [hx0] at eb e1 hcn
      have HC := hide (And.intro (hcs x hx0 (by omega)) hcn)
      have hcb := cl_getD ts k x (by omega)
      have hcb2 := cnt_bd (fun h => ownL h ts == (x : Int)) k
      rw [← hcb] at hcb2
      have hcell := hown.cell x (by rw [cl_length]; omega)
      have hfz := hown.frozen x
      clear hcs hcn hcb hx0
      generalize (cl ts k).getD x 0 = cx at *
      have HE := hide e1
      have HK := hide hown
      clear e1 hown
      generalize cnt (fun h => ownL h ts == 0) k = fr at *
      go_wp2_with fail
      refine (show Calls Try.prog 20 _ wr (Rets wr (.int .i64 (x : Int))) by rw [← HE.out]; exact implOwnerAt_any (some ⟨g2, 0, none⟩) c2 ts k wr hcr hn).mono ?_
      rintro e wr1 ⟨rfl, hbr⟩
      have hown1 := HK.out.below hbr
      have hcell1 := (hbr.cell (p := ⟨gc, x, none⟩) HK.out.lt).trans hcell
      have hfz1 := hown1.frozen x
      have hset := hown1.set x (cx + 1)
      have hx8 : (x : Int) < 8 := by omega
      have hx00 : (0 : Int) ≤ (x : Int) := by omega
      clear hcell hfz hown1
      have hgr1 := grownBy_below hgr (hbr.mono (Nat.le_refl _)) hgr.size (Nat.le_refl _)
      go_wp2_with (first | (go_at_call 30; refine (btoi_any _ _).mono ?_; rintro e w' ⟨rfl, rfl⟩))
      have hif : 0 ≤ (if ((x : Int) == 0) = true then (1 : Int) else 0) ∧ (if ((x : Int) == 0) = true then (1 : Int) else 0) ≤ 1 := by split <;> omega
      go_roundw
      case rel => exact ⟨k + 1, by omega, by go_num, by rw [HC.out.2]; simp, by rw [← HC.out.1]; exact hset, grownBy_trans hgr1 (grownBy_set _ _ _ _)⟩
      case measure => simp [intOf]; omega
    · have hk8 : k = 168 := by omega
      subst hk8
      have HF := hide (cnt_free (q := 0) (ts := ts) (by have := HT.out.1; simp only [tsOk, Bool.and_eq_true] at this; exact this.2))
      have HP := hide (fun (p : Nat) (h1 : 1 ≤ p) (h8 : p < 8) => (show (cl ts 168).getD p 0 = hoursM ts p by
        rw [cl_getD ts 168 p h8, cnt_own (q := 0) (by have := HT.out.1; simp only [tsOk, Bool.and_eq_true] at this; exact this.2) (by omega)]; simp [hoursM, HT.out.1]))
      have HCL := hide (cl_length ts 168)
      generalize cl ts 168 = C at *
      generalize cnt (fun h => ownL h ts == 0) 168 = fr at *
      have HK := hide hown
      clear hown hcr
      rw [show ((168 : Nat) : Int) = 168 from rfl]
      go_wp2
      go_loopw [10, 11] (fun i _ wq => ∃ p : Nat, 1 ≤ p ∧ p ≤ 8 ∧ i = .int .i64 p ∧ OwnP wq gc 3 C ∧ w5.grownBy wq (some gc)) (fun i _ _ => 8 - (intOf i).toNat)
      case atStart => exact ⟨1, by omega, by omega, rfl, HK.out, hgr⟩
      case round =>
        obtain ⟨p, hp1, hp8, rfl, hown, hgrq⟩ := hrel
        have hcq := rd3_grown hc5 hgrq hne
        by_cases hlt : p < 8
        · have NL := next_law HT.out.1 (p := p) (h := h) (by omega) h0 h255
          have hcell := hown.cell p (by rw [HCL.out]; exact hlt)
          rw [HP.out p hp1 hlt] at hcell
          have hgl := hown.lt
          have HO := hide hown
          have hoN := hide (fun W (hc : Rd3 W (some ⟨g2, 0, none⟩) ts) => implNextTurn_any (some ⟨g2, 0, none⟩) c2 ts p h W hc hn)
          have hoH := hide (fun W (hc : Rd3 W (some ⟨g2, 0, none⟩) ts) => implHoursOf_any (some ⟨g2, 0, none⟩) c2 ts p W hc hn)
          clear hown
          generalize hoursM ts p = Hh at *
          generalize nextM ts p h = n at *
          have p1 : (0 : Int) ≤ (p : Int) := by omega
          have p2 : (p : Int) < 8 := by omega
          rcases NL with ⟨rfl, rfl⟩ | ⟨n0, n168, hpos, hat, hbefore⟩
          · go_wp2_with fail
            refine (hoN.out _ hcq).mono ?_
            rintro e wq1 ⟨rfl, hbq⟩
            have hcq1 := hcq.below hbq
            have hcell1 := (hbq.cell (p := ⟨gc, p, none⟩) hgl).trans hcell
            have hgl1 : gc < wq1.heap.size := Nat.lt_of_lt_of_le hgl hbq.size
            go_wp2
            (refine wp_region_g [0, 1, 2, 3, 4, 5, 6, 7, 8, 9, 10, 11, 12, 13, 14, 15, 16, 17, 18, 19, 20, 21] [] (by kernel_rfl) (by kernel_rfl) ?_; simp only [pick, List.map_cons, List.map_nil, Array.getD_eq_getD_getElem?, List.getElem?_toArray, List.getElem?_cons_zero, List.getElem?_cons_succ, Option.getD_some]; (iterate 22 (refine wpG_step (fun K hK => ?_); go_simp; first | (refine hK _ ?_; clear hK K) | (apply Exists.intro; refine ⟨fun _ => ?_, hK _ ?_⟩; ((go_at_call 18; exact hoH.out _ (hcq1.below (below_grew _ _)))); clear hK K))); refine wpG_nil ?_)
            (refine wpT_end ?_; intro wq2 hbr _; obtain ⟨hcb, hfb⟩ := bcell hbr; have hzr := hbr.size; (try simp at hzr); (try (refine ltk (a := w.heap.size) (b := wq2.heap.size) ?_ ?_; (focus omega); intro _ _)); (try (refine ltk (a := w.heap.size + 1) (b := wq2.heap.size) ?_ ?_; (focus omega); intro _ _)); (try (refine ltk (a := w.heap.size + 2) (b := wq2.heap.size) ?_ ?_; (focus omega); intro _ _)); (try (refine ltk (a := w.heap.size + 3) (b := wq2.heap.size) ?_ ?_; (focus omega); intro _ _)); (try (refine ltk (a := gc) (b := wq2.heap.size) ?_ ?_; (focus omega); intro _ _)))
            have hX := hide (And.intro ((HO.out.below hbq).below hbr) (grownBy_below (grownBy_below hgrq hbq hgrq.size (Nat.le_refl _)) (hbr.mono hbq.size) hgrq.size hbq.size))
            clear hcb hfb hcell hcell1
            go_wp2
            go_roundw
            case rel => exact ⟨p + 1, by omega, by omega, by go_num, hX.out.1, hX.out.2⟩
            case measure => simp [intOf]; omega
          · have hoA := hide (show ∀ W, Rd3 W (some ⟨g2, 0, none⟩) ts → Calls Try.prog 20 #[.slice (some ⟨g2, 0, none⟩) ts.length c2, .int .i64 (h + n)] W (Rets W (.int .i64 (p : Int))) from fun W hc => by rw [← hat]; exact implOwnerAt_any (some ⟨g2, 0, none⟩) c2 ts (h + n) W hc hn)
            have hoB := hide (fun W (hc : Rd3 W (some ⟨g2, 0, none⟩) ts) => implOwnerAt_any (some ⟨g2, 0, none⟩) c2 ts (h + n - 1) W hc hn)
            clear hat
            generalize ownM ts (h + n - 1) = q at *
            go_wp2_with fail
            refine (hoN.out _ hcq).mono ?_
            rintro e wq1 ⟨rfl, hbq⟩
            have hcq1 := hcq.below hbq
            have hcell1 := (hbq.cell (p := ⟨gc, p, none⟩) hgl).trans hcell
            have hgl1 : gc < wq1.heap.size := Nat.lt_of_lt_of_le hgl hbq.size
            go_wp2
            (refine wp_region_g [0, 1, 2, 3, 4, 5, 6, 7, 8, 9, 10, 11, 12, 13, 14, 15, 16, 17, 18, 19, 20, 21] [] (by kernel_rfl) (by kernel_rfl) ?_; simp only [pick, List.map_cons, List.map_nil, Array.getD_eq_getD_getElem?, List.getElem?_toArray, List.getElem?_cons_zero, List.getElem?_cons_succ, Option.getD_some]; (iterate 22 (refine wpG_step (fun K hK => ?_); go_simp; first | (refine hK _ ?_; clear hK K) | (apply Exists.intro; refine ⟨fun _ => ?_, hK _ ?_⟩; ((go_at_call 18; exact hoH.out _ (hcq1.below (below_grew _ _)))); clear hK K))); refine wpG_nil ?_)
            (refine wpT_end ?_; intro wq2 hbr _; obtain ⟨hcb, hfb⟩ := bcell hbr; have hzr := hbr.size; (try simp at hzr); (try (refine ltk (a := w.heap.size) (b := wq2.heap.size) ?_ ?_; (focus omega); intro _ _)); (try (refine ltk (a := w.heap.size + 1) (b := wq2.heap.size) ?_ ?_; (focus omega); intro _ _)); (try (refine ltk (a := w.heap.size + 2) (b := wq2.heap.size) ?_ ?_; (focus omega); intro _ _)); (try (refine ltk (a := w.heap.size + 3) (b := wq2.heap.size) ?_ ?_; (focus omega); intro _ _)); (try (refine ltk (a := gc) (b := wq2.heap.size) ?_ ?_; (focus omega); intro _ _)))
            have hown2 := (HO.out.below hbq).below hbr
            have hgr2 := grownBy_below (grownBy_below hgrq hbq hgrq.size (Nat.le_refl _)) (hbr.mono hbq.size) hgrq.size hbq.size
            have hcq2 := hcq1.below hbr
            clear hcb hfb hcell hcell1 hgrq
            go_wp2_with fail
            refine (hoA.out _ hcq2).mono ?_
            rintro e wq3 ⟨rfl, hbq3⟩
            have hcq3 := hcq2.below hbq3
            have hown3 := hown2.below hbq3
            have hgr3 := grownBy_below hgr2 hbq3 hgr2.size (Nat.le_refl _)
            clear hcq2 hown2 hgr2
            rcases Int.lt_or_le 0 n with hn0 | hn0
            · have hqp : (q == (p : Int)) = false := by rw [beq_eq_false_iff_ne]; exact hbefore hn0
              clear hbefore
              go_wp2_with fail
              refine (hoB.out _ hcq3).mono ?_
              rintro e wq4 ⟨rfl, hbq4⟩
              have hX := hide (And.intro (hown3.below hbq4) (grownBy_below hgr3 hbq4 hgr3.size (Nat.le_refl _)))
              go_wp2
              go_roundw
              case rel => exact ⟨p + 1, by omega, by omega, by go_num, hX.out.1, hX.out.2⟩
              case measure => simp [intOf]; omega
            · clear hbefore
              go_wp2
              go_roundw
              case rel => exact ⟨p + 1, by omega, by omega, by go_num, hown3, hgr3⟩
              case measure => simp [intOf]; omega
        · have hp8' : p = 8 := by omega
          subst hp8'
          have hfr := HF.out
          have hS1 := hide (show ∀ W, Rd3 W (some ⟨g2, 0, none⟩) ts → Calls Try.prog 16 #[.slice (some ⟨g2, 0, none⟩) ts.length c2] W (Rets W (.int .i64 fr)) from fun W hc => by
            have e : freeM ts = fr := by rw [HF.out]; simp [freeM, HT.out.1]
            rw [← e]; exact implFreeHours_any (some ⟨g2, 0, none⟩) c2 ts W hc hn)
          have hS2 := hide (show ∀ W, Rd3 W (some ⟨g2, 0, none⟩) ts → Calls Try.prog 13 #[.slice (some ⟨g2, 0, none⟩) ts.length c2] W (Rets W (.bool true)) from fun W hc => by
            rw [← HT.out.1]; exact implTurnsOk_any (some ⟨g2, 0, none⟩) c2 ts W hc hn)
          have hX := hide (And.intro hown hgrq)
          have bW := hide (H5.out.1.grown hgrq H5.out.1.size (fun k hk => by cases hk; exact hgw))
          clear hown hgrq hfr
          rw [show ((8 : Nat) : Int) = 8 from rfl]
          by_cases hl1 : 1 < ts.length
          · have hld : decide ((1 : Int) < (ts.length : Int)) = true := by simp; omega
            obtain ⟨sl, q1, q2, q3, q4⟩ := swapLast g2 c2 ts HT.out.1 hl1
            have HOW := hide (And.intro q2 q1)
            have hSw := hide q4
            have hfs := hide (show ∀ (a : Option Addr) (c : Nat) W, Rd3 W a sl → Calls Try.prog 16 #[.slice a ts.length c] W (Rets W (.int .i64 fr)) from fun a c W hc => by
              have e : freeM sl = fr := by rw [q3, HF.out]; simp [freeM, HT.out.1]
              rw [← e, ← q1]; exact implFreeHours_any a c _ W hc (by omega))
            clear q1 q2 q3 q4
            have il0 : (0 : Int) ≤ (ts.length : Int) - 1 := by omega
            have il1 : (ts.length : Int) - 1 < (ts.length : Int) := by omega
            have il2 : IntKind.i64.wrap ((ts.length : Int) - 1) = (ts.length : Int) - 1 := IntWalk.i64_in _ (by omega)
            have il3 : ((ts.length : Int) - 1).toNat = ts.length - 1 := by omega
            have il4 : 0 < ts.length := by omega
            have il5 : (1 : Int) ≤ (ts.length : Int) := by omega
            obtain ⟨bx, ox, hab, cl0, _, _⟩ := hcq (ts.length - 1) (by omega)
            obtain ⟨rfl, rfl⟩ : bx = g2 ∧ ox = 0 := by cases hab; exact ⟨rfl, rfl⟩
            clear hab
            rw [Nat.zero_add] at cl0
            generalize (ts.getD (ts.length - 1) default).1 = ow at *
            go_wp2_with fail
            (with_reducible refine (hSw.out _ hcq).mono ?_)
            rintro e wq1 ⟨v3, rfl, hh3, hb3⟩
            rcases hh3 with ⟨rfl, hnil⟩ | ⟨g3, c3, rfl, hg3, ho3⟩
            · exfalso; have := HOW.out.2; rw [hnil] at this; simp at this; omega
            have h3l := HOW.out.2
            rw [h3l]
            have c30 := ho3.cell0 0 (by omega)
            rw [HOW.out.1] at c30
            have rd3 := ho3.rd3
            have hg3l := ho3.lt
            have hcl1 := (hb3.cell (World.block_lt_of_cell? wr _ cl0)).trans cl0
            have hg2q := World.block_lt_of_cell? wq1 _ hcl1
            simp at hg2q
            have hcq1 := hcq.below hb3
            simp only [Nat.zero_mul, Nat.zero_add] at c30 hcl1
            clear h3l cl0
            go_wp2
            (refine wp_region_g [0, 1, 2, 3, 4, 5, 6, 7, 8, 9, 10, 11, 12, 13, 14, 15, 16, 17, 18, 19, 20, 21, 22, 23, 24, 25, 26, 27, 28] [] (by kernel_rfl) (by kernel_rfl) ?_; simp only [pick, List.map_cons, List.map_nil, Array.getD_eq_getD_getElem?, List.getElem?_toArray, List.getElem?_cons_zero, List.getElem?_cons_succ, Option.getD_some]; (iterate 29 (refine wpG_step (fun K hK => ?_); go_simp; first | (refine hK _ ?_; clear hK K) | (apply Exists.intro; refine ⟨fun _ => ?_, hK _ ?_⟩; ((go_at_call 16; exact hfs.out _ _ _ (rd3.below (below_grew _ _)))); clear hK K))); refine wpG_nil ?_)
            (refine wpT_end ?_; intro wq2 hbr _; obtain ⟨hcb, hfb⟩ := bcell hbr; have hzr := hbr.size; (try simp at hzr); (try (refine ltk (a := w.heap.size) (b := wq2.heap.size) ?_ ?_; (focus omega); intro _ _)); (try (refine ltk (a := w.heap.size + 1) (b := wq2.heap.size) ?_ ?_; (focus omega); intro _ _)); (try (refine ltk (a := w.heap.size + 2) (b := wq2.heap.size) ?_ ?_; (focus omega); intro _ _)); (try (refine ltk (a := w.heap.size + 3) (b := wq2.heap.size) ?_ ?_; (focus omega); intro _ _)); (try (refine ltk (a := g3) (b := wq2.heap.size) ?_ ?_; (focus omega); intro _ _)); (try (refine ltk (a := bx) (b := wq2.heap.size) ?_ ?_; (focus omega); intro _ _)))
            have hcq2 := hcq1.below hbr
            have bW2 := belT (belT bW.out hb3) hbr
            clear hcb hfb c30 hcl1 rd3 ho3 hcq1 hb3 hbr
            go_wp2_with fail
            (with_reducible refine (hS1.out _ hcq2).mono ?_)
            rintro e wq3 ⟨rfl, hb1⟩
            go_wp2_with fail
            (with_reducible refine (hS2.out _ (hcq2.below hb1)).mono ?_)
            rintro e wq4 ⟨rfl, hb2⟩
            go_wp2
            go_ret
            exact ⟨rfl, belT (belT bW2 hb1) hb2⟩
          · have hld : decide ((1 : Int) < (ts.length : Int)) = false := by simp; omega
            go_wp2_with fail
            (with_reducible refine (hS1.out _ hcq).mono ?_)
            rintro e wq1 ⟨rfl, hb1⟩
            go_wp2_with fail
            refine (hS2.out _ (hcq.below hb1)).mono ?_
            rintro e wq2 ⟨rfl, hb2⟩
            go_wp2
            go_ret
            exact ⟨rfl, belT (belT bW.out hb1) hb2⟩

end Go.Proofs.Ytnemccmjaanmnaa
