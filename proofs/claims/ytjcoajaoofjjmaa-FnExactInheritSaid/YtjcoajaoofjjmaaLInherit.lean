/- The walk of the law Inherit. -/
import Derived.Test.YtjcoajaoofjjmaaSpi2
import Derived.Test.YtjcoajaoofjjmaaInh2
import Derived.Test.YtjcoajaoofjjmaaT3r
import Derived.Test.YtjcoajaoofjjmaaT3b
namespace Go.Proofs.Ytjcoajaoofjjmaa
set_option linter.unusedSimpArgs false
set_option linter.unusedVariables false
open Go.RowKit

def inhL (xs : List T3) (o : Int) (hs : List Int) : List T3 := (inhM xs o hs).getD xs
def inhB (xs : List T3) (o : Int) (hs : List Int) : Bool := (inhM xs o hs).isSome
theorem okM_len {us : Option (List T3)} {vs : List T3} (h : okM us = some vs) : vs.length ≤ 12 := by
  unfold okM at h
  split at h
  · split at h
    · rename_i hr; injection h with h; subst h; exact (rights_parts hr).2.1
    · cases h
  · cases h
theorem inhL_length (xs : List T3) (o : Int) (hs : List Int) (hn : xs.length ≤ 1048576) : (inhL xs o hs).length ≤ 1048576 := by
  unfold inhL
  cases h : inhM xs o hs with
  | none => exact hn
  | some vs =>
    have : vs.length ≤ 12 := by
      unfold inhM at h
      split at h
      · split at h
        · exact okM_len h
        · cases h
      · cases h
    simp; omega

theorem markIntS_far (g cap : Nat) (T : TypeId) (xs : List Int) (k0 : Int) (w : World) (ho : OwnP w g T xs) (hn : xs.length ≤ 1048576) (h0 : 0 ≤ k0) (h1 : k0 ≤ 10000000) :
    Calls Try.prog 35 #[.slice (some ⟨g, 0, none⟩) xs.length cap, .int .i64 k0] w fun e w' => e = .returned (.int .i64 (k0 + xs.length)) ∧ OwnP w' g T (fromI k0 xs.length) ∧ w.grownBy w' (some g) := by
  go_enter Try.func35, Try.ntmps35
  go_wp2
  go_loopw [1, 5] (fun q i wr => ∃ k : Nat, k ≤ xs.length ∧ i = .int .i64 k ∧ q = .int .i64 (k0 + k) ∧ OwnP wr g T (fromI k0 k ++ xs.drop k) ∧ w.grownBy wr (some g)) (fun q i _ => xs.length - (intOf i).toNat)
  case atStart => exact ⟨0, Nat.zero_le _, rfl, by simp, by simpa [fromI] using ho, grownBy_refl _ _⟩
  case round =>
    obtain ⟨k, hk, rfl, rfl, hown, hgr⟩ := hrel
    by_cases hlt : k < xs.length
    · have hset := hown.set k (k0 + k)
      rw [mark_step xs k0 k hlt] at hset
      have hcell := hown.cell k (by simp [fromI_length]; omega)
      have hf := hown.frozen k
      generalize List.getD _ k 0 = y at hcell
      go_wp2
      go_roundw
      case rel => exact ⟨k + 1, by omega, by go_num, by go_num, hset, grownBy_trans hgr (grownBy_set _ _ _ _)⟩
      case measure => simp [intOf]; omega
    · have hkk : k = xs.length := by omega
      subst hkk
      go_wp2
      go_ret
      exact ⟨rfl, by simpa using hown, hgr⟩

set_option maxRecDepth 100000 in
set_option maxHeartbeats 2000000 in
theorem law_Inherit (a : Option Addr) (cap : Nat) (xs : List T3) (o : Int) (ah : Option Addr) (caph : Nat) (hs : List Int) (w : World) (hc : Rd3 w a xs) (hm : xs.length ≤ 9223372036854775807) (hh : Rd w ah hs) :
    Calls Try.prog 12 #[.slice a xs.length cap, .int .i64 o, .slice ah hs.length caph] w fun e w' => Rets w (.bool true) e w' := by
  by_cases hnh : hs.length ≤ 1048576
  · have hnh' : ¬ (1048576 : Int) < (hs.length : Int) := by omega
    by_cases hn : xs.length ≤ 1048576
    · have hz0 : ((if xs.length ≤ 1048576 then 1048576 - (xs.length : Int) else -1)) = 1048576 - (xs.length : Int) := if_pos hn
      have hsz : ∀ W : World, Calls Try.prog 15 #[.slice a xs.length cap, .int .i64 1048576] W fun e w' => e = .returned (.int .i64 (1048576 - (xs.length : Int))) ∧ W = w' := fun W => by rw [← hz0]; exact szRightS_any a cap xs.length W hm
      clear hz0
      have HZ := hide hsz
      clear hsz
      have hR : (inhL xs o hs).length ≤ 1048576 := inhL_length xs o hs hn
      have HS := hide (fun (ad bd : Addr) (cap caph : Nat) (w : World) (hc : Rd3 w (some ad) xs) (hh : Rd w (some bd) hs) => show Calls Try.prog 43 #[.slice (some ad) xs.length cap, .int .i64 o, .slice (some bd) hs.length caph] w (GivesT 56 (inhL xs o hs) (inhB xs o hs) w) from specInh_any (some ad) cap xs o (some bd) caph hs w hc hn hh)
      have HI := hide (fun (ad bd : Addr) (cap caph : Nat) (w : World) (hc : Rd3 w (some ad) xs) (hh : Rd w (some bd) hs) => show Calls Try.prog 45 #[.slice (some ad) xs.length cap, .int .i64 o, .slice (some bd) hs.length caph] w (GivesT 56 (inhL xs o hs) (inhB xs o hs) w) from implInh_any (some ad) cap xs o (some bd) caph hs w hc hn hh hnh)
      generalize inhB xs o hs = okb at *
      generalize inhL xs o hs = R at *
      have hln : ¬ (1048576 - (xs.length : Int)) < 0 := by omega
      go_enter Try.func12, Try.ntmps12
      go_wp2_with fail
      go_at_call 15
      refine (HZ.out _).mono ?_
      rintro e w' ⟨rfl, rfl⟩
      clear HZ
      go_wp2_with fail
      refine (toRightS_any a cap xs w hc hn).mono ?_
      rintro e w1 ⟨g1, hg1, rfl, ho1, hb1⟩
      go_wp2_with fail
      refine (toIntS_any ah caph hs w1 (hh.below hb1) hnh).mono ?_
      rintro e w2 ⟨g2, hg2, rfl, ho2, hb2⟩
      have b2 := belT hb1 hb2
      have ho12 := ho1.below hb2
      clear hb1 hb2 ho1
      go_wp2_with fail
      refine (HS.out _ _ _ _ w2 ho12.rd3 ho2.rd).mono ?_
      rintro e w3 ⟨v3, rfl, hown3, hb3⟩
      have b3 := belT b2 hb3
      obtain ⟨a2, c2, rfl, hr3, hl3⟩ := hown3.slice
      have hl3' : ∀ x, a2 = some x → x.block < w3.heap.size := fun x hx => (hl3 x hx).2
      clear ho12 ho2 b2 hb3 hl3 hown3 HS
      -- the arguments copied
      go_wp2_with fail
      refine (toRightS_any a cap xs w3 (hc.below b3) hn).mono ?_
      rintro e w4 ⟨g3, hg3, rfl, o34, hb4⟩
      have b4 := belT b3 hb4
      have hr4 := hr3.below hb4
      have hs4 := hb4.size
      have hs3 := b3.size
      clear hr3 hb4
      go_wp2_with fail
      refine (toIntS_any ah caph hs w4 (hh.below b4) hnh).mono ?_
      rintro e w5 ⟨gi, hgi, rfl, oi5, hb5⟩
      have b5 := belT b4 hb5
      have hr5 := hr4.below hb5
      have hg34 := o34.lt
      have o35 := o34.below hb5
      have hs5 := hb5.size
      clear hr4 hb5 o34
      -- the program
      go_wp2_with fail
      refine (HI.out _ _ _ _ w5 o35.rd3 oi5.rd).mono ?_
      rintro e w6 ⟨v4, rfl, hown6, hb6⟩
      have b6 := belT b5 hb6
      have hr6 := hr5.below hb6
      have o36 := o35.below hb6
      have hgi5 := oi5.lt
      have oi6 := oi5.below hb6
      have hs6 := hb6.size
      clear hr5 o35 oi5 hb6
      have hwg3 : w.heap.size ≤ g3 := by omega
      have hwgi : w.heap.size ≤ gi := by omega
      have n3i : g3 ≠ gi := by omega
      have n23 : ∀ x, a2 = some x → x.block ≠ g3 := fun x hx => by have := hl3' x hx; omega
      have n2i : ∀ x, a2 = some x → x.block ≠ gi := fun x hx => by have := hl3' x hx; omega
      rcases hown6 with ⟨rfl, hR0⟩ | ⟨g4, c4, rfl, hg4, o46⟩
      · subst hR0
        go_wp2_with fail
        refine (eqRightS_any none a2 0 c2 [] [] w6 (fun j hj => by simp at hj) hr6 (by simp)).mono ?_
        rintro e w7 ⟨rfl, hb7⟩
        have b7 := belT b6 hb7
        have o37 := o36.below hb7
        have oi7 := oi6.below hb7
        clear b6 o36 oi6 hb7 hr6
        go_wp2_with fail
        refine (toRightS_any a cap xs w7 (hc.below b7) hn).mono ?_
        rintro e w8 ⟨g8, hg8, rfl, ho8, hb8⟩
        have b8 := belT b7 hb8
        have o38 := o37.below hb8
        have oi8 := oi7.below hb8
        clear b7 o37 oi7 hb8
        go_wp2_with fail
        refine (eqRightS_any _ _ _ _ xs xs w8 o38.rd3 ho8.rd3 hn).mono ?_
        rintro e w9 ⟨rfl, hb9⟩
        have b9 := belT b8 hb9
        have o39 := o38.below hb9
        have oi9 := oi8.below hb9
        clear b8 o38 oi8 hb9 ho8
        go_wp2_with fail
        refine (toIntS_any ah caph hs w9 (hh.below b9) hnh).mono ?_
        rintro e w10 ⟨g10, hg10, rfl, ho10, hb10⟩
        have b10 := belT b9 hb10
        have o310 := o39.below hb10
        have oi10 := oi9.below hb10
        clear b9 o39 oi9 hb10
        go_wp2_with fail
        refine (eqIntS_any _ _ _ _ hs hs w10 oi10.rd ho10.rd hnh).mono ?_
        rintro e w11 ⟨rfl, hb11⟩
        have b11 := belT b10 hb11
        have o311 := o310.below hb11
        have oi11 := oi10.below hb11
        clear b10 o310 oi10 hb11 ho10
        go_wp2_with fail
        refine (markRightS_any g3 _ xs.length _ (flat xs) 1 w11 o311 (flat_length _) hn (by omega) (by omega)).mono ?_
        rintro e w12 ⟨rfl, hm12, hgr12⟩
        have b12 := belG b11 hgr12 hwg3
        have oi12 := oi11.ownP.grown hgr12 (Ne.symm n3i)
        clear b11 o311 oi11 hm12 hgr12
        go_wp2_with fail
        refine (markIntS_far gi _ _ hs _ w12 oi12 hnh (by omega) (by omega)).mono ?_
        rintro e w13 ⟨rfl, hm13, hgr13⟩
        have b13 := belG b12 hgr13 hwgi
        clear b12 oi12 hm13 hgr13
        go_wp2_with fail
        refine (eqRightS_any none a2 0 c2 [] [] w13 (fun j hj => by simp at hj) (fun j hj => by simp at hj) (by simp)).mono ?_
        rintro e w14 ⟨rfl, hb14⟩
        have b14 := belT b13 hb14
        clear b13 hb14
        go_wp2_with fail
        refine (markRightS_nil 1 w14 0 none).mono ?_
        rintro e w14' ⟨rfl, rfl⟩
        go_wp2_with fail
        refine (heldRightS_any none 0 0 1 w14 (fun j hj => by simp [fromI] at hj) (by omega) (by omega) (by omega)).mono ?_
        rintro e w14' ⟨rfl, rfl⟩
        go_wp2_with fail
        refine (toRightS_any a cap xs w14 (hc.below b14) hn).mono ?_
        rintro e w15 ⟨g15, hg15, rfl, ho15, hb15⟩
        have b15 := belT b14 hb15
        clear b14 hb15
        go_wp2_with fail
        refine (toIntS_any ah caph hs w15 (hh.below b15) hnh).mono ?_
        rintro e w16 ⟨g16, hg16, rfl, ho16, hb16⟩
        have b16 := belT b15 hb16
        have ho156 := ho15.below hb16
        clear b15 hb16 ho15
        go_wp2_with fail
        refine (HI.out _ _ _ _ w16 ho156.rd3 ho16.rd).mono ?_
        rintro e w17 ⟨v17, rfl, hown17, hb17⟩
        have b17 := belT b16 hb17
        obtain ⟨a17, c17, rfl, hr17, _⟩ := hown17.slice
        clear b16 hb17 hown17 ho156 ho16
        go_wp2_with fail
        refine (eqRightS_any a17 a2 c17 c2 [] [] w17 hr17 (fun j hj => by simp at hj) (by simp)).mono ?_
        rintro e w18 ⟨rfl, hb18⟩
        have b18 := belT b17 hb18
        clear b17 hb18
        go_wp2_with fail
        refine (heldRightS_any none 0 0 1 w18 (fun j hj => by simp [fromI] at hj) (by omega) (by omega) (by omega)).mono ?_
        rintro e w18' ⟨rfl, rfl⟩
        go_wp2
        all_goals go_ret
        all_goals exact ⟨rfl, b18⟩
      · have n34 : g3 ≠ g4 := by omega
        have ni4 : gi ≠ g4 := by omega
        have hwg4 : w.heap.size ≤ g4 := by omega
        have n24 : ∀ x, a2 = some x → x.block ≠ g4 := fun x hx => by have := hl3' x hx; omega
        clear hl3'
        go_wp2_with fail
        refine (eqRightS_any _ a2 _ c2 R R w6 o46.rd3 hr6 hR).mono ?_
        rintro e w7 ⟨rfl, hb7⟩
        have b7 := belT b6 hb7
        have o37 := o36.below hb7
        have oi7 := oi6.below hb7
        have o47 := o46.below hb7
        have hr7 := hr6.below hb7
        clear b6 o36 oi6 o46 hr6 hb7
        go_wp2_with fail
        refine (toRightS_any a cap xs w7 (hc.below b7) hn).mono ?_
        rintro e w8 ⟨g8, hg8, rfl, ho8, hb8⟩
        have b8 := belT b7 hb8
        have o38 := o37.below hb8
        have oi8 := oi7.below hb8
        have o48 := o47.below hb8
        have hr8 := hr7.below hb8
        clear b7 o37 oi7 o47 hr7 hb8
        go_wp2_with fail
        refine (eqRightS_any _ _ _ _ xs xs w8 o38.rd3 ho8.rd3 hn).mono ?_
        rintro e w9 ⟨rfl, hb9⟩
        have b9 := belT b8 hb9
        have o39 := o38.below hb9
        have oi9 := oi8.below hb9
        have o49 := o48.below hb9
        have hr9 := hr8.below hb9
        clear b8 o38 oi8 o48 hr8 hb9 ho8
        go_wp2_with fail
        refine (toIntS_any ah caph hs w9 (hh.below b9) hnh).mono ?_
        rintro e w10 ⟨g10, hg10, rfl, ho10, hb10⟩
        have b10 := belT b9 hb10
        have o310 := o39.below hb10
        have oi10 := oi9.below hb10
        have o410 := o49.below hb10
        have hr10 := hr9.below hb10
        clear b9 o39 oi9 o49 hr9 hb10
        go_wp2_with fail
        refine (eqIntS_any _ _ _ _ hs hs w10 oi10.rd ho10.rd hnh).mono ?_
        rintro e w11 ⟨rfl, hb11⟩
        have b11 := belT b10 hb11
        have o311 := o310.below hb11
        have oi11 := oi10.below hb11
        have o411 := o410.below hb11
        have hr11 := hr10.below hb11
        clear b10 o310 oi10 o410 hr10 hb11 ho10
        go_wp2_with fail
        refine (markRightS_any g3 _ xs.length _ (flat xs) 1 w11 o311 (flat_length _) hn (by omega) (by omega)).mono ?_
        rintro e w12 ⟨rfl, hm12, hgr12⟩
        have b12 := belG b11 hgr12 hwg3
        have oi12 := oi11.ownP.grown hgr12 (Ne.symm n3i)
        have o412 := o411.grown hgr12 (Ne.symm n34)
        have hr12 := rd3_grown hr11 hgr12 n23
        clear b11 o311 oi11 o411 hr11 hm12 hgr12
        go_wp2_with fail
        refine (markIntS_far gi _ _ hs _ w12 oi12 hnh (by omega) (by omega)).mono ?_
        rintro e w13 ⟨rfl, hm13, hgr13⟩
        have b13 := belG b12 hgr13 hwgi
        have o413 := o412.grown hgr13 (Ne.symm ni4)
        have hr13 := rd3_grown hr12 hgr13 n2i
        clear b12 oi12 o412 hr12 hm13 hgr13
        go_wp2_with fail
        refine (eqRightS_any _ a2 _ c2 R R w13 o413.rd3 hr13 hR).mono ?_
        rintro e w14 ⟨rfl, hb14⟩
        have b14 := belT b13 hb14
        have o414 := o413.below hb14
        have hr14 := hr13.below hb14
        clear b13 o413 hr13 hb14
        go_wp2_with fail
        refine (markRightS_any g4 _ R.length _ (flat R) 1 w14 o414 (flat_length _) hR (by omega) (by omega)).mono ?_
        rintro e w15 ⟨rfl, hm15, hgr15⟩
        have b15 := belG b14 hgr15 hwg4
        have hr15 := rd3_grown hr14 hgr15 n24
        clear b14 o414 hr14 hgr15
        go_wp2_with fail
        refine (heldRightS_any _ _ R.length 1 w15 hm15.rd hR (by omega) (by omega)).mono ?_
        rintro e w15' ⟨rfl, rfl⟩
        go_wp2_with fail
        refine (toRightS_any a cap xs w15 (hc.below b15) hn).mono ?_
        rintro e w16 ⟨g16, hg16, rfl, ho16, hb16⟩
        have b16 := belT b15 hb16
        have hm16 := hm15.below hb16
        have hr16 := hr15.below hb16
        clear b15 hm15 hr15 hb16
        go_wp2_with fail
        refine (toIntS_any ah caph hs w16 (hh.below b16) hnh).mono ?_
        rintro e w17 ⟨g17, hg17, rfl, ho17, hb17⟩
        have b17 := belT b16 hb17
        have ho167 := ho16.below hb17
        have hm17 := hm16.below hb17
        have hr17 := hr16.below hb17
        clear b16 hm16 hr16 ho16 hb17
        go_wp2_with fail
        refine (HI.out _ _ _ _ w17 ho167.rd3 ho17.rd).mono ?_
        rintro e w18 ⟨v18, rfl, hown18, hb18⟩
        have b18 := belT b17 hb18
        have hm18 := hm17.below hb18
        have hr18 := hr17.below hb18
        obtain ⟨a18, c18, rfl, hx18, _⟩ := hown18.slice
        clear b17 hm17 hr17 ho167 ho17 hb18 hown18
        go_wp2_with fail
        refine (eqRightS_any a18 a2 c18 c2 R R w18 hx18 hr18 hR).mono ?_
        rintro e w19 ⟨rfl, hb19⟩
        have b19 := belT b18 hb19
        have hm19 := hm18.below hb19
        clear b18 hm18 hr18 hb19 hx18
        go_wp2_with fail
        refine (heldRightS_any _ _ R.length 1 w19 hm19.rd hR (by omega) (by omega)).mono ?_
        rintro e w19' ⟨rfl, rfl⟩
        go_wp2
        all_goals go_ret
        all_goals exact ⟨rfl, b19⟩
    · have hz0 : ((if xs.length ≤ 1048576 then 1048576 - (xs.length : Int) else -1)) = -1 := if_neg hn
      have hsz : ∀ W : World, Calls Try.prog 15 #[.slice a xs.length cap, .int .i64 1048576] W fun e w' => e = .returned (.int .i64 (-1)) ∧ W = w' := fun W => by rw [← hz0]; exact szRightS_any a cap xs.length W hm
      clear hz0
      have HZ := hide hsz
      clear hsz
      go_enter Try.func12, Try.ntmps12
      go_wp2_with fail
      go_at_call 15
      refine (HZ.out _).mono ?_
      rintro e w' ⟨rfl, rfl⟩
      go_wp2
      all_goals go_ret
      all_goals exact ⟨rfl, (by repeat first | exact Below.refl _ _ | assumption | (refine belA ?_) | (refine belD ?_) | (refine belN ?_) | (refine belS ?_ (by simp <;> omega)) | (refine belT ?_ (by assumption)))⟩
  · have hnh' : (1048576 : Int) < (hs.length : Int) := by omega
    go_enter Try.func12, Try.ntmps12
    go_wp2
    all_goals go_ret
    all_goals exact ⟨rfl, (by repeat first | exact Below.refl _ _ | assumption | (refine belA ?_) | (refine belD ?_) | (refine belN ?_) | (refine belS ?_ (by simp <;> omega)) | (refine belT ?_ (by assumption)))⟩

end Go.Proofs.Ytjcoajaoofjjmaa
