/- Turns that are swapped. -/
import Derived.Test.YtnemccmjaanmnaaTrn3
import Derived.Test.YtnemccmjaanmnaaT3b
namespace Go.Proofs.Ytnemccmjaanmnaa
set_option linter.unusedSimpArgs false
set_option linter.unusedVariables false
open Go.RowKit

def swapL (ts : List T3) (i k : Nat) : List T3 :=
  let us := ts.set i ((ts.getD k default).1, (ts.getD i default).2)
  us.set k ((ts.getD i default).1, (us.getD k default).2)

def swapOk (ts : List T3) (i k : Int) : Bool := tsOk ts && inB i 0 (ts.length - 1) && inB k 0 (ts.length - 1)
def swapM (ts : List T3) (i k : Int) : List T3 := if swapOk ts i k then swapL ts i.toNat k.toNat else ts

theorem swapM_length (ts : List T3) (i k : Int) : (swapM ts i k).length = ts.length := by
  unfold swapM; split <;> simp [swapL]

theorem flat_swap (ts : List T3) (i k : Nat) : ((flat ts).set (i * 3) (ts.getD k default).1).set (k * 3) (ts.getD i default).1 = flat (swapL ts i k) := by
  rw [flat_set0, flat_set0]; rfl

set_option maxHeartbeats 1000000 in
theorem implSwapTurns_any (ad : Addr) (cap : Nat) (ts : List T3) (i k : Int) (w : World) (hc : Rd3 w (some ad) ts) (hn : ts.length ≤ 1048576) :
    Calls Try.prog 22 #[.slice (some ad) ts.length cap, .int .i64 i, .int .i64 k] w fun e w' => GivesT 43 (swapM ts i k) (swapOk ts i k) w e w' := by
  by_cases hin : swapOk ts i k = true
  · have hM := show swapM ts i k = swapL ts i.toNat k.toNat by simp [swapM, hin]
    have HO := hide hin
    simp only [swapOk, Bool.and_eq_true] at hin
    obtain ⟨⟨hk, hi'⟩, hk'⟩ := hin
    obtain ⟨i1, i2⟩ := inB_iff.1 hi'
    obtain ⟨k1, k2⟩ := inB_iff.1 hk'
    obtain ⟨h30, _⟩ := tsOk_mem hk
    obtain ⟨i, rfl⟩ := Int.eq_ofNat_of_zero_le i1
    obtain ⟨k, rfl⟩ := Int.eq_ofNat_of_zero_le k1
    simp only [Int.toNat_natCast] at hM
    have HM := hide hM
    have HFS := hide (flat_swap ts i k)
    have il : i < ts.length := by omega
    have kl : k < ts.length := by omega
    clear hM i1 i2 k1 k2
    go_enter Try.func22, Try.ntmps22
    go_wp2_with (at_builtin; refine appendTurns rfl _ _ rfl w.heap.size (.slice none 0 0) [] ts ad cap (OwnsT.nil _ _ _) hc rfl rfl (by simp; omega) (Nat.le_refl _) ?_; intro v1 w1 hown1 hbel1)
    simp only [List.nil_append] at hown1
    have hc1 := hc.below hbel1
    go_wp2_with fail
    refine (implTurnsOk_any _ cap ts w1 hc1 hn).mono ?_
    rintro e w2 ⟨rfl, hb2⟩
    have hown2 := hown1.below hb2
    have hbel2 := belT hbel1 hb2
    have il' : (i : Int) < (ts.length : Int) := by omega
    have kl' : (k : Int) < (ts.length : Int) := by omega
    have i0 : (0 : Int) ≤ (i : Int) := by omega
    have k0 : (0 : Int) ≤ (k : Int) := by omega
    go_wp2_with (first | (go_at_call 33; refine (within_any _ _ _ _).mono ?_; rintro e w2 ⟨rfl, rfl⟩))
    rcases hown2.cases with ⟨rfl, rfl⟩ | ⟨g, c, rfl, hg, hoP⟩
    · simp at il
    obtain ⟨b, off, hab, ci, _, _⟩ := hc.below hbel2 i il
    cases hab
    obtain ⟨b', off', hab', ck, _, _⟩ := hc.below hbel2 k kl
    cases hab'
    have blo : b < w.heap.size := by
      obtain ⟨b'', off'', hab'', ck'', _, _⟩ := hc k kl
      cases hab''
      have := World.block_lt_of_cell? w _ ck''
      simpa using this
    have hB2 : w.heap.size ≤ w2.heap.size := hbel2.size
    clear hown1 hown2 hc1 hk hi' hk'
    have hcgB := fun p b o h => cell_grewB w2 w.heap.size p b o hB2 h
    generalize (ts.getD i default).1 = x at *
    generalize (ts.getD k default).1 = y at *
    refine wp_region_u (InB w2 w.heap.size) (OwnG w2 w.heap.size g 43 (flat ts)) (up_inB hB2) (up_ownG hB2 _ _ _) (inB_below hB2 ⟨rfl, rfl, rfl, Nat.le_refl _, fun _ _ => rfl⟩) ⟨⟨rfl, rfl, rfl, Nat.le_refl _, fun _ _ => rfl⟩, hoP.of_block rfl⟩ [0, 1, 2, 3, 4, 5, 6, 7, 8, 9, 10, 11, 12, 13, 14, 15] [16, 17, 18, 19] (by kernel_rfl) (by kernel_rfl) ?_
    simp only [pick, List.map_cons, List.map_nil, Array.getD_eq_getD_getElem?, List.getElem?_toArray, List.getElem?_cons_zero, List.getElem?_cons_succ, Option.getD_some]
    iterate 16 (refine wpG_step (fun K hK => ?_); go_simp; first | (refine hK _ ?_; clear hK K) | (apply Exists.intro; refine ⟨fun _ => ?_, hK _ ?_⟩; (fail); clear hK K))
    refine wpG_nil ?_
    clear hcgB
    refine wpT_set (j := i * 3) (x := y) hB2 hg rfl (fun w' ho => by have c0 := ho.cell0 i il; have f0 := ho.frozen (i * 3); go_simp) ?_
    simp only [Act.put, List.setIfInBounds_toArray, List.set_cons_zero, List.set_cons_succ]
    rw [flat_set0]
    refine wpT_pureU (up_ownG hB2 _ _ _) rfl (fun wq => by (go_simp; rfl)) ?_
    simp only [Act.put, List.setIfInBounds_toArray, List.set_cons_zero, List.set_cons_succ]
    refine wpT_pureU (up_ownG hB2 _ _ _) rfl (fun wq => by (go_simp; rfl)) ?_
    simp only [Act.put, List.setIfInBounds_toArray, List.set_cons_zero, List.set_cons_succ]
    refine wpT_set (j := k * 3) (x := x) hB2 hg rfl (fun w' ho => by have c0 := ho.cell0 k (by simpa using kl); have f0 := ho.frozen (k * 3); go_simp) ?_
    simp only [Act.put, List.setIfInBounds_toArray, List.set_cons_zero, List.set_cons_succ]
    intro w3 hC3 ⟨hb3, hown3⟩
    clear hC3
    go_wp2
    have HX := hide (show OwnP w3 g 43 (flat (swapL ts i k)) by rw [← HFS.out, flat_set0]; exact hown3)
    clear hown3
    exact bodyPost_ret (by simp [results, Try.results22, go_sem]; rfl) rfl ⟨_, by rw [HO.out], by rw [HM.out]; exact .inr ⟨g, c, by simp [swapL], hg, HX.out⟩, hbel2.trans hb3⟩
  · have hno : swapOk ts i k = false := by simpa using hin
    have HM := hide (show swapM ts i k = ts by simp [swapM, hno])
    have HO := hide hno
    have hlen := hn
    by_cases hk : tsOk ts = true
    · have hik : ¬ (inB i 0 (ts.length - 1) = true ∧ inB k 0 (ts.length - 1) = true) := by simpa [swapOk, hk] using hin
      obtain ⟨h30, _⟩ := tsOk_mem hk
      clear hno hin
      go_enter Try.func22, Try.ntmps22
      go_wp2_with (at_builtin; refine appendTurns rfl _ _ rfl w.heap.size (.slice none 0 0) [] ts ad cap (OwnsT.nil _ _ _) hc rfl rfl (by simp; omega) (Nat.le_refl _) ?_; intro v1 w1 hown1 hbel1)
      simp only [List.nil_append] at hown1
      have hc1 := hc.below hbel1
      go_wp2_with fail
      refine (implTurnsOk_any _ cap ts w1 hc1 hn).mono ?_
      rintro e w2 ⟨rfl, hb2⟩
      have hown2 := hown1.below hb2
      have hbel2 := belT hbel1 hb2
      go_wp2_with (first | (go_at_call 33; refine (within_any _ _ _ _).mono ?_; rintro e w2 ⟨rfl, rfl⟩))
      all_goals first
        | exact bodyPost_ret (by simp [results, Try.results22, go_sem]; rfl) rfl ⟨_, by rw [HO.out], by rw [HM.out]; exact hown2.cases, hbel2⟩
        | (exfalso; simp_all; done)
    · have hk' : tsOk ts = false := by simpa using hk
      clear hk hno hin
      go_enter Try.func22, Try.ntmps22
      go_wp2_with (at_builtin; refine appendTurns rfl _ _ rfl w.heap.size (.slice none 0 0) [] ts ad cap (OwnsT.nil _ _ _) hc rfl rfl (by simp; omega) (Nat.le_refl _) ?_; intro v1 w1 hown1 hbel1)
      simp only [List.nil_append] at hown1
      have hc1 := hc.below hbel1
      go_wp2_with fail
      refine (implTurnsOk_any _ cap ts w1 hc1 hn).mono ?_
      rintro e w2 ⟨rfl, hb2⟩
      have hown2 := hown1.below hb2
      have hbel2 := belT hbel1 hb2
      go_wp2
      exact bodyPost_ret (by simp [results, Try.results22, go_sem]; rfl) rfl ⟨_, by rw [HO.out], by rw [HM.out]; exact hown2.cases, hbel2⟩

set_option maxHeartbeats 1000000 in
theorem specSwapTurns_any (ad : Addr) (cap : Nat) (ts : List T3) (i k : Int) (w : World) (hc : Rd3 w (some ad) ts) (hn : ts.length ≤ 1048576) :
    Calls Try.prog 21 #[.slice (some ad) ts.length cap, .int .i64 i, .int .i64 k] w fun e w' => GivesT 43 (swapM ts i k) (swapOk ts i k) w e w' := by
  have hal : Below w.heap.size w (w.alloc (.cells #[] 43)) := (Below.refl _ _).alloc (Nat.le_refl _) _
  have hca := hc.below hal
  have own0 := OwnsT.empty 43 w.heap.size w (Nat.le_refl _)
  by_cases hin : swapOk ts i k = true
  · have hM := show swapM ts i k = swapL ts i.toNat k.toNat by simp [swapM, hin]
    have HO := hide hin
    simp only [swapOk, Bool.and_eq_true] at hin
    obtain ⟨⟨hk, hi'⟩, hk'⟩ := hin
    obtain ⟨i1, i2⟩ := inB_iff.1 hi'
    obtain ⟨k1, k2⟩ := inB_iff.1 hk'
    obtain ⟨h30, _⟩ := tsOk_mem hk
    obtain ⟨i, rfl⟩ := Int.eq_ofNat_of_zero_le i1
    obtain ⟨k, rfl⟩ := Int.eq_ofNat_of_zero_le k1
    simp only [Int.toNat_natCast] at hM
    have HM := hide hM
    have HFS := hide (flat_swap ts i k)
    have il : i < ts.length := by omega
    have kl : k < ts.length := by omega
    clear hM i1 i2 k1 k2
    go_enter Try.func21, Try.ntmps21
    go_wp2_with (at_builtin; refine appendTurns rfl _ _ rfl w.heap.size _ [] ts ad cap own0 hca rfl rfl (by simp; omega) hal.size ?_; intro v1 w1 hown1 hbel1)
    simp only [List.nil_append] at hown1
    have hbel1 := hal.trans hbel1
    have hc1 := hc.below hbel1
    go_wp2_with fail
    refine (specTurnsOk_any _ cap ts w1 hc1 hn).mono ?_
    rintro e w2 ⟨rfl, hb2⟩
    have hown2 := hown1.below hb2
    have hbel2 := belT hbel1 hb2
    have il' : (i : Int) < (ts.length : Int) := by omega
    have kl' : (k : Int) < (ts.length : Int) := by omega
    have i0 : (0 : Int) ≤ (i : Int) := by omega
    have k0 : (0 : Int) ≤ (k : Int) := by omega
    rcases hown2.cases with ⟨rfl, rfl⟩ | ⟨g, c, rfl, hg, hoP⟩
    · simp at il
    obtain ⟨b, off, hab, ci, _, _⟩ := hc.below hbel2 i il
    cases hab
    obtain ⟨b', off', hab', ck, _, _⟩ := hc.below hbel2 k kl
    cases hab'
    have blo : b < w.heap.size := by
      obtain ⟨b'', off'', hab'', ck'', _, _⟩ := hc k kl
      cases hab''
      have := World.block_lt_of_cell? w _ ck''
      simpa using this
    have hne : b ≠ g := by omega
    clear hown1 hown2 hc1 hca own0 hal
    have hset := hoP.set (i * 3) (ts.getD k default).1
    rw [flat_set0] at hset
    have c0 := hoP.cell0 i il
    have f0 := hoP.frozen (i * 3)
    have d0 := hset.cell0 k (by simpa using kl)
    have f1 := hset.frozen (k * 3)
    have hset2 := hset.set (k * 3) (ts.getD i default).1
    rw [← flat_set0, HFS.out] at hset2
    have HX := hide hset2
    clear hset2 hset hoP
    generalize (ts.getD i default).1 = x at *
    generalize (ts.getD k default).1 = y at *
    go_wp2_with (first | (go_at_call 31; refine (l01In_any _ _ _ _).mono ?_; rintro e w2 ⟨rfl, rfl⟩))
    exact bodyPost_ret (by simp [results, Try.results21, go_sem]; rfl) rfl ⟨_, by rw [HO.out], by rw [HM.out]; exact .inr ⟨g, c, by simp [swapL], hg, HX.out⟩, (by repeat first | exact Below.refl _ _ | assumption | (refine belA ?_) | (refine belD ?_) | (refine belN ?_) | (refine belS ?_ (by simp <;> omega)) | (refine belT ?_ (by assumption)))⟩
  · have hno : swapOk ts i k = false := by simpa using hin
    have HM := hide (show swapM ts i k = ts by simp [swapM, hno])
    have HO := hide hno
    have hlen := hn
    by_cases hk : tsOk ts = true
    · have hik : ¬ (inB i 0 (ts.length - 1) = true ∧ inB k 0 (ts.length - 1) = true) := by simpa [swapOk, hk] using hin
      obtain ⟨h30, _⟩ := tsOk_mem hk
      clear hno hin
      go_enter Try.func21, Try.ntmps21
      go_wp2_with (at_builtin; refine appendTurns rfl _ _ rfl w.heap.size _ [] ts ad cap own0 hca rfl rfl (by simp; omega) hal.size ?_; intro v1 w1 hown1 hbel1)
      simp only [List.nil_append] at hown1
      have hbel1 := hal.trans hbel1
      have hc1 := hc.below hbel1
      go_wp2_with fail
      refine (specTurnsOk_any _ cap ts w1 hc1 hn).mono ?_
      rintro e w2 ⟨rfl, hb2⟩
      have hown2 := hown1.below hb2
      have hbel2 := belT hbel1 hb2
      go_wp2_with (first | (go_at_call 31; refine (l01In_any _ _ _ _).mono ?_; rintro e w2 ⟨rfl, rfl⟩))
      all_goals first
        | exact bodyPost_ret (by simp [results, Try.results21, go_sem]; rfl) rfl ⟨_, by rw [HO.out], by rw [HM.out]; exact hown2.cases, hbel2⟩
        | (exfalso; simp_all; done)
    · have hk' : tsOk ts = false := by simpa using hk
      clear hk hno hin
      go_enter Try.func21, Try.ntmps21
      go_wp2_with (at_builtin; refine appendTurns rfl _ _ rfl w.heap.size _ [] ts ad cap own0 hca rfl rfl (by simp; omega) hal.size ?_; intro v1 w1 hown1 hbel1)
      simp only [List.nil_append] at hown1
      have hbel1 := hal.trans hbel1
      have hc1 := hc.below hbel1
      go_wp2_with fail
      refine (specTurnsOk_any _ cap ts w1 hc1 hn).mono ?_
      rintro e w2 ⟨rfl, hb2⟩
      have hown2 := hown1.below hb2
      have hbel2 := belT hbel1 hb2
      go_wp2
      exact bodyPost_ret (by simp [results, Try.results21, go_sem]; rfl) rfl ⟨_, by rw [HO.out], by rw [HM.out]; exact hown2.cases, hbel2⟩

end Go.Proofs.Ytnemccmjaanmnaa
