/- A net without one of its pipes. -/
import Derived.Test.YteimcbhnjhkkbaaCopy
namespace Go.Proofs.Yteimcbhnjhkkbaa
set_option linter.unusedSimpArgs false
set_option linter.unusedVariables false
open Go.RowKit

def woutOk (p : Int) (ts : List T3) (k : Int) : Bool := netOk p ts && inB k 0 ((ts.length : Int) - 1)
def woutM (p : Int) (ts : List T3) (k : Int) : List T3 := if woutOk p ts k then ts.take k.toNat ++ ts.drop (k.toNat + 1) else ts
theorem wout_length (p : Int) (ts : List T3) (k : Int) (h : ts.length ≤ 1048576) : (woutM p ts k).length ≤ 1048576 := by
  unfold woutM; split
  · simp; omega
  · exact h

theorem rd3_take {w : World} {a : Option Addr} {ts : List T3} (h : Rd3 w a ts) (k : Nat) : Rd3 w a (ts.take k) := by
  intro j hj
  have hj' : j < ts.length ∧ j < k := by simp at hj; omega
  obtain ⟨b, off, ha, h0, h1, h2⟩ := h j hj'.1
  have e : (ts.take k).getD j default = ts.getD j default := by simp [List.getD_eq_getElem?_getD, List.getElem?_take, hj'.2]
  exact ⟨b, off, ha, by rw [e]; exact h0, by rw [e]; exact h1, by rw [e]; exact h2⟩
theorem rd3_drop {w : World} {b off : Nat} {ts : List T3} (h : Rd3 w (some ⟨b, off, none⟩) ts) (k : Nat) : Rd3 w (some ⟨b, off + k * 3, none⟩) (ts.drop k) := by
  intro j hj
  have hj' : k + j < ts.length := by simp at hj; omega
  obtain ⟨b', off', ha, h0, h1, h2⟩ := h (k + j) hj'
  cases ha
  have e : (ts.drop k).getD j default = ts.getD (k + j) default := by simp [List.getD_eq_getElem?_getD, List.getElem?_drop]
  have e0 : off + (k + j) * 3 = off + k * 3 + j * 3 := by omega
  rw [e0] at h0 h1 h2
  exact ⟨b, _, rfl, by rw [e]; exact h0, by rw [e]; exact h1, by rw [e]; exact h2⟩

theorem net_stored {W : World} {g base : Nat} {c0 c1 v : Value} {p : Int} {ts : List T3} (hR : W.heap[g]? = some (.cells #[c0, c1] 26 (0, 0))) (ho : OwnsT 60 base W v ts) :
    ((W.setCell ⟨g, 0, none⟩ (.int .i64 p)).setCell ⟨g, 1, none⟩ v).heap[g]? = some (.cells #[.int .i64 p, v] 26 (0, 0)) ∧ OwnsT 60 base ((W.setCell ⟨g, 0, none⟩ (.int .i64 p)).setCell ⟨g, 1, none⟩ v) v ts ∧ Below g W ((W.setCell ⟨g, 0, none⟩ (.int .i64 p)).setCell ⟨g, 1, none⟩ v) := by
  obtain ⟨h1, h2⟩ := store_two (x := .int .i64 p) (y := v) hR
  exact ⟨h1, World.ownsRow.kept ho (grownBy_trans (grownBy_set _ _ _ _) (grownBy_set _ _ _ _)) (.inr (own_type ho hR (by decide))), h2⟩
theorem OwnsT.holds {T : TypeId} {base : Nat} {w : World} {v : Value} {ts : List T3} (h : OwnsT T base w v ts) : HoldsT T base w v ts := h.cases

theorem specWithoutPipe_any (p k : Int) (a : Option Addr) (cap : Nat) (ts : List T3) (w : World) (hc : Rd3 w a ts) (hn : ts.length ≤ 1048576) (hcap : ts.length ≤ cap) :
    Calls Try.prog 19 #[.agg #[.int .i64 p, .slice a ts.length cap], .int .i64 k] w fun e w' => GivesNB p (woutM p ts k) (woutOk p ts k) w e w' := by
  have HN := hide (fun W (hb : Below w.heap.size w W) => specNetOk_any p a cap ts W (hc.below hb) hn)
  have HCp := hide (fun W (hb : Below w.heap.size w W) => l08Copy_any p a cap ts W (hc.below hb) hn)
  cases hk : woutOk p ts k with
  | false =>
    have HM := hide (show woutM p ts k = ts by simp [woutM, hk])
    have hpar : netOk p ts = true → inB k 0 ((ts.length : Int) - 1) = false := by
      intro h; simpa [woutOk, h] using hk
    have HP := hide hpar
    clear hk hpar
    have B1 : Below w.heap.size w ((w.alloc (.cells #[.int .i64 p, .slice a ts.length cap] 26)).alloc (.cells #[.int .i64 0, .slice none 0 0] 26)) := belA (belA (Below.refl _ _))
    have X1 := blk_alloc (o := .cells #[.int .i64 0, .slice none 0 0] 26) (blk_new w #[.int .i64 p, .slice a ts.length cap] 26)
    have R1 := blk_new (w.alloc (.cells #[.int .i64 p, .slice a ts.length cap] 26)) #[.int .i64 0, .slice none 0 0] 26
    rw [World.size_alloc] at R1
    have HB1 := hide B1
    have HX1 := hide X1
    have HR1 := hide R1
    clear B1 X1 R1
    cases hno : netOk p ts with
    | false =>
      rw [hno] at HN
      clear hno HP
      go_enter Try.func19, Try.ntmps19
      go_wp2_with fail
      (with_reducible refine (HN.out _ HB1.out).mono ?_)
      rintro e w2 ⟨rfl, hb2⟩
      have B2 := belT HB1.out hb2
      have X2 := heap_grow HX1.out hb2
      have R2 := heap_grow HR1.out hb2
      clear hb2
      have c0 := cell_of_block X2 0
      have c1 := cell_of_block X2 1
      simp at c0 c1
      go_wp2_with fail
      (with_reducible refine (HCp.out _ B2).mono ?_)
      rintro e w3 ⟨v3, rfl, hown3, hb3⟩
      obtain ⟨a3, c3, rfl, hr3⟩ := hown3.slice
      have B3 := belT B2 hb3
      have R3 := heap_grow R2 hb3
      have r0 := cell_of_block R3 0
      have r1 := cell_of_block R3 1
      have f0 := frozen_of_block R3 0
      have f1 := frozen_of_block R3 1
      simp at r0 r1
      obtain ⟨R4, O4, L4⟩ := net_stored (p := p) R3 hown3
      have B4 := B3.trans (L4.mono (Nat.le_succ _))
      have S3 := B2.size
      clear X2 R2 c0 c1 hb3
      go_wp2
      generalize (w3.setCell ⟨w.heap.size + 1, 0, none⟩ (.int .i64 p)).setCell ⟨w.heap.size + 1, 1, none⟩ (.slice a3 ts.length c3) = w4 at *
      clear r0 r1 f0 f1
      have d0 := cell_of_block R4 0
      have d1 := cell_of_block R4 1
      simp at d0 d1
      exact bodyPost_ret (by simp [results, Try.results19, go_sem, *]; try rfl) rfl ⟨_, rfl, by rw [HM.out]; exact (O4.mono S3).holds, B4⟩
    | true =>
      have hin := HP.out hno
      have hinb := inB_not.1 hin
      rw [hno] at HN
      clear hno HP hin
      have HI := hide (show inB k 0 ((ts.length : Int) - 1) = false from inB_not.2 hinb)
      go_enter Try.func19, Try.ntmps19
      go_wp2_with fail
      (with_reducible refine (HN.out _ HB1.out).mono ?_)
      rintro e w2 ⟨rfl, hb2⟩
      have B2 := belT HB1.out hb2
      have X2 := heap_grow HX1.out hb2
      have R2 := heap_grow HR1.out hb2
      clear hb2
      have c0 := cell_of_block X2 0
      have c1 := cell_of_block X2 1
      simp at c0 c1
      go_wp2_with fail
      (with_reducible refine (l01In_any _ _ _ _).mono ?_)
      rintro e w2' ⟨rfl, rfl⟩
      rw [HI.out]
      go_wp2_with fail
      (with_reducible refine (HCp.out _ B2).mono ?_)
      rintro e w3 ⟨v3, rfl, hown3, hb3⟩
      obtain ⟨a3, c3, rfl, hr3⟩ := hown3.slice
      have B3 := belT B2 hb3
      have R3 := heap_grow R2 hb3
      have r0 := cell_of_block R3 0
      have r1 := cell_of_block R3 1
      have f0 := frozen_of_block R3 0
      have f1 := frozen_of_block R3 1
      simp at r0 r1
      obtain ⟨R4, O4, L4⟩ := net_stored (p := p) R3 hown3
      have B4 := B3.trans (L4.mono (Nat.le_succ _))
      have S3 := B2.size
      clear X2 R2 c0 c1 hb3
      go_wp2
      generalize (w3.setCell ⟨w.heap.size + 1, 0, none⟩ (.int .i64 p)).setCell ⟨w.heap.size + 1, 1, none⟩ (.slice a3 ts.length c3) = w4 at *
      clear r0 r1 f0 f1
      have d0 := cell_of_block R4 0
      have d1 := cell_of_block R4 1
      simp at d0 d1
      exact bodyPost_ret (by simp [results, Try.results19, go_sem, *]; try rfl) rfl ⟨_, rfl, by rw [HM.out]; exact (O4.mono S3).holds, B4⟩
  | true =>
    obtain ⟨hno, hin⟩ : netOk p ts = true ∧ inB k 0 ((ts.length : Int) - 1) = true := by simpa [woutOk] using hk
    obtain ⟨k1, k2⟩ := inB_iff.1 hin
    obtain ⟨K, rfl⟩ := Int.eq_ofNat_of_zero_le k1
    have HM := hide (show woutM p ts K = ts.take K ++ ts.drop (K + 1) by rw [woutM, if_pos hk, Int.toNat_natCast])
    rw [hno] at HN
    have HI := hide hin
    have kl : K < ts.length := by omega
    obtain ⟨b, off, rfl, _⟩ := hc K kl
    have B1 : Below w.heap.size w ((w.alloc (.cells #[.int .i64 p, .slice (some ⟨b, off, none⟩) ts.length cap] 26)).alloc (.cells #[.int .i64 0, .slice none 0 0] 26)) := belA (belA (Below.refl _ _))
    have X1 := blk_alloc (o := .cells #[.int .i64 0, .slice none 0 0] 26) (blk_new w #[.int .i64 p, .slice (some ⟨b, off, none⟩) ts.length cap] 26)
    have R1 := blk_new (w.alloc (.cells #[.int .i64 p, .slice (some ⟨b, off, none⟩) ts.length cap] 26)) #[.int .i64 0, .slice none 0 0] 26
    rw [World.size_alloc] at R1
    have HB1 := hide B1
    have HX1 := hide X1
    have HR1 := hide R1
    clear B1 X1 R1 hk hno hin HCp
    have hR1 := hide (rd3_take hc K)
    have hR2 := hide (rd3_drop hc (K + 1))
    have kc : ((K + 1 : Nat) : Int) ≤ (ts.length : Int) := by omega
    go_enter Try.func19, Try.ntmps19
    go_wp2_with fail
    (with_reducible refine (HN.out _ HB1.out).mono ?_)
    rintro e w2 ⟨rfl, hb2⟩
    have B2 := belT HB1.out hb2
    have X2 := heap_grow HX1.out hb2
    have R2 := heap_grow HR1.out hb2
    have Z2 : w.heap.size + 2 ≤ w2.heap.size := by have := hb2.size; simp at this; omega
    clear hb2
    have c0 := cell_of_block X2 0
    have c1 := cell_of_block X2 1
    simp at c0 c1
    go_wp2_with fail
    (with_reducible refine (l01In_any _ _ _ _).mono ?_)
    rintro e w2' ⟨rfl, rfl⟩
    rw [HI.out]
    go_wp2
    have hB : w.heap.size + 1 ≤ w2.heap.size := by omega
    have hcgB := fun p b o h => cell_grewB w2 (w.heap.size + 1) p b o hB h
    have hKc : K ≤ cap := by omega
    have hKl : K + 1 ≤ ts.length := by omega
    have e1 : 0 ≤ (K : Int) + 1 := by omega
    have e2 : (K : Int) + 1 ≤ (ts.length : Int) := by omega
    have W1 : IntKind.i64.wrap ((K : Int) + 1) = (K : Int) + 1 := IntWalk.i64_in _ (by omega)
    refine wp_region_u (InB w2 (w.heap.size + 1)) (NetF w (w.heap.size + 1) (w.heap.size + 1) #[.int .i64 0, .slice none 0 0] (.slice none 0 0) []) (up_inB hB) (up_netF _ _ _ _ _) (inB_below hB ⟨rfl, rfl, rfl, Nat.le_refl _, fun _ _ => rfl⟩) ⟨belD B2, R2, OwnsT.nil _ _ _⟩ [0, 1, 3, 4, 5, 6, 8, 9, 10, 11, 12] [2, 7, 13, 14, 15, 16] (by kernel_rfl) (by kernel_rfl) ?_
    simp only [pick, List.map_cons, List.map_nil, Array.getD_eq_getD_getElem?, List.getElem?_toArray, List.getElem?_cons_zero, List.getElem?_cons_succ, Option.getD_some]
    iterate 6 (refine wpG_step (fun K hK => ?_); go_simp; first | (refine hK _ ?_; clear hK K) | (apply Exists.intro; refine ⟨fun _ => ?_, hK _ ?_⟩; (fail); clear hK K))
    iterate 5 (refine wpG_step (fun K hK => ?_); go_simp; first | (refine hK _ ?_; clear hK K) | (apply Exists.intro; refine ⟨fun _ => ?_, hK _ ?_⟩; (fail); clear hK K))
    refine wpG_nil ?_
    clear hcgB W1 e1 e2
    have l1 : (ts.take K).length = K := by simp; omega
    have l2 : (ts.drop (K + 1)).length = ts.length - (K + 1) := by simp
    have HR3 := hide (show Rd3 w (if cap = K + 1 then some ⟨b, off, none⟩ else some ⟨b, off + (K + 1) * 3, none⟩) (ts.drop (K + 1)) by
      split
      · intro j hj; omega
      · exact hR2.out)
    refine wpT_emptyP hB (Nat.le_succ _) rfl (fun wq => by (go_simp; try rfl)) (fun b => ?_)
    simp only [Act.put, List.setIfInBounds_toArray, List.set_cons_zero, List.set_cons_succ, List.nil_append]
    refine wpT_appP (ys := ts.take K) (cap := cap) hB (Nat.le_succ _) rfl hR1.out (by simp; omega) _ _ rfl rfl (by rw [l1]; rfl) (fun a1 c1 => ?_)
    simp only [Act.put, List.setIfInBounds_toArray, List.set_cons_zero, List.set_cons_succ, List.nil_append]
    refine wpT_appP (ys := ts.drop (K + 1)) (cap := cap - (K + 1)) hB (Nat.le_succ _) rfl HR3.out (by simp; omega) _ _ rfl rfl (by rw [l2]; rfl) (fun a2 c2 => ?_)
    simp only [Act.put, List.setIfInBounds_toArray, List.set_cons_zero, List.set_cons_succ, List.nil_append]
    rw [← HM.out]
    refine wpT_pureU (up_netF _ _ _ _ _) rfl (fun wq => by (go_simp; rfl)) ?_
    simp only [Act.put, List.setIfInBounds_toArray, List.set_cons_zero, List.set_cons_succ]
    refine wpT_netSt (p := p) (v1 := .slice a2 (woutM p ts K).length c2) hB (Nat.le_succ _) (Nat.le_refl _) rfl rfl (fun W hW => by have q0 := cell_of_block hW 0; have q1 := cell_of_block hW 1; have f0 := frozen_of_block hW 0; have f1 := frozen_of_block hW 1; simp at q0 q1; go_simp) ?_
    simp only [Act.put, List.setIfInBounds_toArray, List.set_cons_zero, List.set_cons_succ]
    refine wpT_pureU (up_netF _ _ _ _ _) rfl (fun wq => by (go_simp; try rfl)) ?_
    simp only [Act.put, List.setIfInBounds_toArray, List.set_cons_zero, List.set_cons_succ]
    intro w3 hC3 ⟨hb3, hn3, hown3⟩
    have d0 := cell_of_block hn3 0
    have d1 := cell_of_block hn3 1
    simp at d0 d1
    clear l1 l2
    go_wp2
    all_goals exact bodyPost_ret (by simp [results, Try.results19, go_sem, *]; try rfl) rfl ⟨_, rfl, (hown3.mono (Nat.le_succ _)).holds, hb3⟩

end Go.Proofs.Yteimcbhnjhkkbaa
