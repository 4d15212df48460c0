/- The program's SellShare, where it sells nothing. -/
import Derived.Test.YtjcoajaoofjjmaaSell
namespace Go.Proofs.Ytjcoajaoofjjmaa
set_option linter.unusedSimpArgs false
set_option linter.unusedVariables false
set_option linter.unnecessarySimpa false
open Go.RowKit

set_option maxHeartbeats 2000000 in
theorem implSell_bad (a : Option Addr) (cap n : Nat) (ts : List T3) (f to p q : Int) (w : World) (hc : Rd3 w a ts) (hn : ts.length = n) (hl : n ≤ 1048576)
    (hbad : ¬ (rightsM ts = true ∧ 0 ≤ idxV f ts ∧ ¬ f = to ∧ inB to 1 999 = true ∧ frOk p q = true ∧ p ≤ q)) :
    Calls Try.prog 41 #[.slice a n cap, .int .i64 f, .int .i64 to, .agg #[.int .i64 p, .int .i64 q]] w fun e w' => GivesO none ts w e w' := by
  have hCP := hide (fun W (hb : Below w.heap.size w W) => show Calls Try.prog 69 #[.slice a n cap] W fun e w' => GivesR ts W e w' from by
    have := copyRights_any a cap ts W (hc.below hb) (by omega)
    rw [hn] at this; exact this)
  have hIX := hide (fun W (hb : Below w.heap.size w W) => show Calls Try.prog 70 #[.slice a n cap, .int .i64 f] W fun e w' => Rets W (.int .i64 (idxV f ts)) e w' from by
    have := rightOf_any a cap ts f W (hc.below hb) (by omega)
    rw [hn] at this; exact this)
  have hRO := hide (fun W (hb : Below w.heap.size w W) => show Calls Try.prog 22 #[.slice a n cap] W fun e w' => Rets W (.bool (rightsM ts)) e w' from by
    have := implRightsOk_any a cap ts W (hc.below hb) (by omega)
    rw [hn] at this; exact this)
  have hWI := hide (fun W => within_any to 1 999 W)
  have hFO := hide (fun W => implFractionOk_any p q W)
  generalize rightsM ts = R at *
  generalize idxV f ts = K at *
  generalize inB to 1 999 = T at *
  generalize frOk p q = F at *
  clear hc
  have HB := hide hbad
  clear hbad
  go_enter Try.func41, Try.ntmps41
  go_wp2_with fail
  have bA : Below w.heap.size w (w.alloc (.cells #[.int .i64 p, .int .i64 q] 25)) := (Below.refl _ _).alloc (Nat.le_refl _) _
  (with_reducible refine (hCP.out _ bA).mono ?_)
  rintro e w1 ⟨vS, rfl, hown, hb1⟩
  have b1 := belT bA hb1
  have hx1 := heap_grow (blk_new w #[.int .i64 p, .int .i64 q] 25) hb1
  have hownH := hide (hown.mono (base' := w.heap.size) (by simp))
  clear bA hb1 hown
  go_wp2_with fail
  (with_reducible refine (hIX.out _ b1).mono ?_)
  rintro e w2 ⟨rfl, hb2⟩
  have b2 := belT b1 hb2
  have own2 := hide (hownH.out.below hb2)
  have hx2 := heap_grow hx1 hb2
  clear b1 hb2 hownH hx1
  go_wp2_with fail
  (with_reducible refine (hRO.out _ b2).mono ?_)
  rintro e w3 ⟨rfl, hb3⟩
  have b3 := belT b2 hb3
  have own3 := hide (own2.out.below hb3)
  have hx3 := heap_grow hx2 hb3
  clear b2 hb3 own2 hx2
  have x0 := cell_of_block hx3 0
  have x1 := cell_of_block hx3 1
  simp at x0 x1
  go_wp2_with (first
    | (go_at_call 58; (with_reducible refine (hWI.out _).mono ?_); rintro e w' ⟨rfl, rfl⟩)
    | (go_at_call 59; (with_reducible refine (hFO.out _).mono ?_); rintro e w4 ⟨rfl, hb4⟩; have kx0 := cellB hb4 x0; have kx1 := cellB hb4 x1))
  all_goals first
    | (exfalso; exact HB.out ⟨by assumption, by omega, by assumption, by assumption, by assumption, by omega⟩)
    | (refine bodyPost_ret (by simp [results, Try.results41, go_sem, *]; try rfl) rfl ?_; exact GivesO.none own3.out.holds b3)
    | (refine bodyPost_ret (by simp [results, Try.results41, go_sem, *]; try rfl) rfl ?_; exact GivesO.none (own3.out.below hb4).holds (belT b3 hb4))

theorem idxV_pos {f : Int} {ts : List T3} (h : idxO f ts < ts.length) : 0 ≤ idxV f ts := by unfold idxV; rw [if_pos h]; omega
theorem idxV_neg {f : Int} {ts : List T3} (h : 0 ≤ idxV f ts) : idxO f ts < ts.length := by
  unfold idxV at h; split at h
  · assumption
  · omega

theorem implSell_any (a : Option Addr) (cap : Nat) (ts : List T3) (f to p q : Int) (w : World) (hc : Rd3 w a ts) (hn : ts.length ≤ 1048576) :
    Calls Try.prog 41 #[.slice a ts.length cap, .int .i64 f, .int .i64 to, .agg #[.int .i64 p, .int .i64 q]] w fun e w' => GivesO (sellM ts f to p q) ts w e w' := by
  by_cases h : sellOk ts f to p q = true ∧ idxO f ts < ts.length
  · obtain ⟨hok, hk⟩ := h
    have hok' := hok
    simp only [sellOk, Bool.and_eq_true, decide_eq_true_eq] at hok'
    obtain ⟨⟨⟨⟨h1, h2⟩, h3⟩, h4⟩, h5⟩ := hok'
    have e : sellM ts f to p q = sellX ts (idxO f ts) to (timesM (ts.getD (idxO f ts) default).2.1 (ts.getD (idxO f ts) default).2.2 p q) (timesM (ts.getD (idxO f ts) default).2.1 (ts.getD (idxO f ts) default).2.2 (q - p) q) := by
      unfold sellM
      rw [if_pos ⟨hok, hk⟩]
      cases timesM (ts.getD (idxO f ts) default).2.1 (ts.getD (idxO f ts) default).2.2 p q with
      | none => rfl
      | some m => cases timesM (ts.getD (idxO f ts) default).2.1 (ts.getD (idxO f ts) default).2.2 (q - p) q <;> rfl
    rw [e]
    exact implSell_ok a cap ts.length (idxO f ts) ts f to p q w hc rfl h1 rfl hk h2 h3 h4 h5 _ _ _ rfl _ _ rfl (fun m hm => less_times h5 hm)
  · have e : sellM ts f to p q = none := by unfold sellM; rw [if_neg h]
    rw [e]
    refine implSell_bad a cap ts.length ts f to p q w hc rfl hn ?_
    rintro ⟨h1, h2, h3, h4, h5, h6⟩
    exact h ⟨by simp [sellOk, h1, h3, h4, h5, h6], idxV_neg h2⟩

end Go.Proofs.Ytjcoajaoofjjmaa
