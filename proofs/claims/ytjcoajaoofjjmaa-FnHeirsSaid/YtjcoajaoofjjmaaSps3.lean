/- The reference's SellShare, where it sells nothing; for all arguments. -/
import Derived.Test.YtjcoajaoofjjmaaSps2
namespace Go.Proofs.Ytjcoajaoofjjmaa
set_option linter.unusedSimpArgs false
set_option linter.unusedVariables false
set_option linter.unnecessarySimpa false
open Go.RowKit

set_option maxRecDepth 100000 in
set_option maxHeartbeats 2000000 in
theorem specSell_bad (a : Option Addr) (cap n : Nat) (ts : List T3) (f tw p q : Int) (w : World) (hc : Rd3 w a ts) (hn : ts.length = n) (hl : n ≤ 1048576)
    (hbad : ¬ (rightsM ts = true ∧ frOk p q = true ∧ p ≤ q ∧ ¬ f = tw ∧ inB tw 1 999 = true)) :
    Calls Try.prog 39 #[.slice a n cap, .int .i64 f, .int .i64 tw, .agg #[.int .i64 p, .int .i64 q]] w fun e w' => GivesO none ts w e w' := by
  have hRO := hide (fun W (hb : Below w.heap.size w W) => show Calls Try.prog 21 #[.slice a n cap] W fun e w' => Rets W (.bool (rightsM ts)) e w' from by
    have := specRightsOk_any a cap ts W (hc.below hb) (by omega)
    rw [hn] at this; exact this)
  have hWI := hide (fun W => l01In_any tw 1 999 W)
  have hFO := hide (fun W => specFractionOk_any p q W)
  generalize rightsM ts = R at *
  generalize inB tw 1 999 = T at *
  generalize frOk p q = F at *
  have HB := hide hbad
  have bP : Below w.heap.size w (w.alloc (.cells #[.int .i64 p, .int .i64 q] 25)) := (Below.refl _ _).alloc (Nat.le_refl _) _
  have bA : Below w.heap.size w ((w.alloc (.cells #[.int .i64 p, .int .i64 q] 25)).alloc (.cells #[] 56)) := belA bP
  have SRC := hide (show Rd3 ((w.alloc (.cells #[.int .i64 p, .int .i64 q] 25)).alloc (.cells #[] 56)) a ts from hc.below bA)
  have hEO : OwnsT 56 w.heap.size ((w.alloc (.cells #[.int .i64 p, .int .i64 q] 25)).alloc (.cells #[] 56)) (.slice (some ⟨w.heap.size + 1, 0, none⟩) 0 0) [] := by
    have r := RowT.empty' 56 (w.alloc (.cells #[.int .i64 p, .int .i64 q] 25)) (w.heap.size + 1) (by simp)
    exact r.owns (by omega)
  have OE := hide hEO
  have XP := hide (blk_alloc (o := .cells #[] 56) (blk_new w #[.int .i64 p, .int .i64 q] 25))
  have hsz : w.heap.size ≤ ((w.alloc (.cells #[.int .i64 p, .int .i64 q] 25)).alloc (.cells #[] 56)).heap.size := bA.size
  have BA := hide bA
  subst hn
  clear hbad hc bP bA hEO
  go_enter Try.func39, Try.ntmps39
  go_wp2_with (refine appendRightsO rfl _ _ rfl w.heap.size _ [] ts a cap OE.out SRC.out rfl rfl (by simp; omega) hsz (fun v' w1 ho hb hgr => ?_))
  rw [List.nil_append] at ho
  have b1 : Below w.heap.size w w1 := BA.out.trans hb
  have hx1 := grown_heap hgr XP.out (by intro e; have e2 : w.heap.size + 1 = w.heap.size := by { injection e }; omega)
  have own1 := hide ho
  clear ho hb hgr OE SRC BA XP hsz
  (with_reducible refine (hRO.out _ b1).mono ?_)
  rintro e w2 ⟨rfl, hb2⟩
  have b2 := belT b1 hb2
  have own2 := hide (own1.out.below hb2)
  have hx2 := heap_grow hx1 hb2
  clear b1 hb2 own1 hx1 hRO
  have x0 := cell_of_block hx2 0
  have x1 := cell_of_block hx2 1
  simp at x0 x1
  go_wp2_with (first
    | (go_at_call 57; (with_reducible refine (hWI.out _).mono ?_); rintro e w' ⟨rfl, rfl⟩)
    | (go_at_call 67; (with_reducible refine (hFO.out _).mono ?_); rintro e w4 ⟨rfl, hb4⟩; have kx0 := cellB hb4 x0; have kx1 := cellB hb4 x1))
  all_goals first
    | (exfalso; exact HB.out ⟨by assumption, by assumption, by omega, by assumption, (by have h := (by assumption : (p ≤ q ∧ (f == tw) = false) ∧ (!T) = false); simpa using h.2)⟩)
    | (refine bodyPost_ret (by simp [results, Try.results39, go_sem, *]; try rfl) rfl ?_; exact GivesO.none own2.out.holds b2)
    | (refine bodyPost_ret (by simp [results, Try.results39, go_sem, *]; try rfl) rfl ?_; exact GivesO.none (own2.out.below hb4).holds (belT b2 hb4))

theorem specSell_any (a : Option Addr) (cap : Nat) (ts : List T3) (f tw p q : Int) (w : World) (hc : Rd3 w a ts) (hn : ts.length ≤ 1048576) :
    Calls Try.prog 39 #[.slice a ts.length cap, .int .i64 f, .int .i64 tw, .agg #[.int .i64 p, .int .i64 q]] w fun e w' => GivesO (sellM ts f tw p q) ts w e w' := by
  by_cases h : sellOk ts f tw p q = true
  · have hok' := h
    simp only [sellOk, Bool.and_eq_true, decide_eq_true_eq] at hok'
    obtain ⟨⟨⟨⟨h1, h2⟩, h3⟩, h4⟩, h5⟩ := hok'
    have hl := (rights_parts h1).1
    obtain ⟨b, off, rfl, _⟩ := hc 0 (by omega)
    refine specSell_ok b off cap ts.length (idxO f ts) ts f tw p q w hc rfl h1 rfl h2 h3 h4 h5 _ _ (fun _ => rfl) (fun _ => rfl) _ ?_
    unfold sellM
    by_cases hk : idxO f ts < ts.length
    · rw [if_pos ⟨h, hk⟩, if_pos hk]
      cases timesM (ts.getD (idxO f ts) default).2.1 (ts.getD (idxO f ts) default).2.2 p q with
      | none => rfl
      | some m => cases timesM (ts.getD (idxO f ts) default).2.1 (ts.getD (idxO f ts) default).2.2 (q - p) q <;> rfl
    · rw [if_neg (fun x => hk x.2), if_neg hk]
  · have e : sellM ts f tw p q = none := by unfold sellM; rw [if_neg (fun x => h x.1)]
    rw [e]
    refine specSell_bad a cap ts.length ts f tw p q w hc rfl hn ?_
    rintro ⟨h1, h2, h3, h4, h5⟩
    exact h (by simp [sellOk, h1, h2, h3, h4, h5])

end Go.Proofs.Ytjcoajaoofjjmaa
