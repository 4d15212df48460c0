/- The reference's Inherit, where nothing is inherited; for all arguments. -/
import Derived.Test.YtjcoajaoofjjmaaSpi
namespace Go.Proofs.Ytjcoajaoofjjmaa
set_option linter.unusedSimpArgs false
set_option linter.unusedVariables false
set_option linter.unnecessarySimpa false
open Go.RowKit

set_option maxRecDepth 100000 in
set_option maxHeartbeats 2000000 in
theorem specInh_bad (a : Option Addr) (cap n : Nat) (ts : List T3) (o : Int) (ah : Option Addr) (caph nh : Nat) (w : World) (hc : Rd3 w a ts) (hn : ts.length = n) (hl : n ≤ 1048576)
    (hbad : ¬ (rightsM ts = true ∧ inB (nh : Int) 1 6 = true)) :
    Calls Try.prog 43 #[.slice a n cap, .int .i64 o, .slice ah nh caph] w fun e w' => GivesO none ts w e w' := by
  have hRO := hide (fun W (hb : Below w.heap.size w W) => show Calls Try.prog 21 #[.slice a n cap] W fun e w' => Rets W (.bool (rightsM ts)) e w' from by
    have := specRightsOk_any a cap ts W (hc.below hb) (by omega)
    rw [hn] at this; exact this)
  have hWI := hide (fun W => l01In_any (nh : Int) 1 6 W)
  generalize rightsM ts = R at *
  generalize inB (nh : Int) 1 6 = T at *
  have HB := hide hbad
  have bA : Below w.heap.size w (w.alloc (.cells #[] 56)) := (Below.refl _ _).alloc (Nat.le_refl _) _
  have SRC := hide (show Rd3 (w.alloc (.cells #[] 56)) a ts from hc.below bA)
  have hEO : OwnsT 56 w.heap.size (w.alloc (.cells #[] 56)) (.slice (some ⟨w.heap.size, 0, none⟩) 0 0) [] :=
    (RowT.empty' 56 w w.heap.size rfl).owns (Nat.le_refl _)
  have OE := hide hEO
  have hsz : w.heap.size ≤ (w.alloc (.cells #[] 56)).heap.size := bA.size
  have BA := hide bA
  subst hn
  clear hbad hc bA hEO
  go_enter Try.func43, Try.ntmps43
  go_wp2_with (refine appendRightsO rfl _ _ rfl w.heap.size _ [] ts a cap OE.out SRC.out rfl rfl (by simp; omega) hsz (fun v' w1 ho hb hgr => ?_))
  rw [List.nil_append] at ho
  have b1 : Below w.heap.size w w1 := BA.out.trans hb
  have own1 := hide ho
  clear ho hb hgr OE SRC BA hsz
  (with_reducible refine (hRO.out _ b1).mono ?_)
  rintro e w2 ⟨rfl, hb2⟩
  have b2 := belT b1 hb2
  have own2 := hide (own1.out.below hb2)
  clear b1 hb2 own1 hRO
  go_wp2_with (go_at_call 57; (with_reducible refine (hWI.out _).mono ?_); rintro e w' ⟨rfl, rfl⟩)
  all_goals first
    | (refine bodyPost_ret (by simp [results, Try.results43, go_sem, *]; try rfl) rfl ?_; exact GivesO.none own2.out.holds b2)
    | (exfalso; refine HB.out ⟨by simp_all, by simp_all⟩)

theorem specInh_any (a : Option Addr) (cap : Nat) (ts : List T3) (o : Int) (ah : Option Addr) (caph : Nat) (hs : List Int) (w : World) (hc : Rd3 w a ts) (hn : ts.length ≤ 1048576) (hh : Rd w ah hs) :
    Calls Try.prog 43 #[.slice a ts.length cap, .int .i64 o, .slice ah hs.length caph] w fun e w' => GivesO (inhM ts o hs) ts w e w' := by
  by_cases h : rightsM ts = true ∧ inB (hs.length : Int) 1 6 = true
  · obtain ⟨h1, h2⟩ := h
    have hl := (rights_parts h1).1
    obtain ⟨b, off, rfl, _⟩ := hc 0 (by omega)
    refine specInh_ok b off cap ts.length (idxO o ts) ts o ah caph hs.length hs w hc rfl hh rfl h1 rfl h2 _ (fun _ => rfl) _ ?_
    unfold inhM
    by_cases hk : idxO o ts < ts.length
    · rw [if_pos ⟨by rw [h1, h2]; rfl, hk⟩, if_pos hk]
      cases splitM (ts.getD (idxO o ts) default).2.1 (ts.getD (idxO o ts) default).2.2 (hs.length : Int) <;> rfl
    · rw [if_neg (fun x => hk x.2), if_neg hk]
  · have e : inhM ts o hs = none := by
      unfold inhM
      rw [if_neg (fun x => h (by have := x.1; simpa using this))]
    rw [e]
    exact specInh_bad a cap ts.length ts o ah caph hs.length w hc rfl hn h

end Go.Proofs.Ytjcoajaoofjjmaa
