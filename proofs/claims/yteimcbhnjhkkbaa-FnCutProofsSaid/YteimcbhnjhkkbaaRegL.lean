/- A great region that draws its order, all its operations yielding one value in every world that has grown from the region's first: walked once, in the text's order, under a cheap test. -/
import Derived.Test.YteimcbhnjhkkbaaReg
namespace Go.Proofs.Yteimcbhnjhkkbaa
set_option linter.unusedSimpArgs false
set_option linter.unusedVariables false
open Go.RowKit

/-- The text's order is one of the orders, and each operation stands apart from all later ones that do not wait for it. -/
def lexPair (md : Region.Mode) (ops : Array Oper) : Nat → List Oper → List (Nat × Oper) → Bool
  | _, [], _ => true
  | k, o :: l, prev => (o.after.all fun e => !Region.binds md e || decide (e.on < k)) && (prev.all fun p => (o.after.any fun e => Region.binds md e && e.on == p.1) || p.2.apart ops o) && lexPair md ops (k + 1) l ((k, o) :: prev)

structure LexP (md : Region.Mode) (ops : Array Oper) : Prop where
  back : ∀ j oj, ops[j]? = some oj → ∀ e ∈ oj.after, Region.binds md e = true → e.on < j
  pair : ∀ i j oi oj, ops[i]? = some oi → ops[j]? = some oj → i < j → (∃ e ∈ oj.after, Region.binds md e = true ∧ e.on = i) ∨ oi.apart ops oj = true

theorem lexPair_spec {md : Region.Mode} {ops : Array Oper} : ∀ (l : List Oper) (k : Nat) (prev : List (Nat × Oper)), lexPair md ops k l prev = true →
    (∀ (j : Nat) (oj : Oper), l[j]? = some oj → ∀ e ∈ oj.after, Region.binds md e = true → e.on < k + j) ∧
    (∀ (j : Nat) (oj : Oper), l[j]? = some oj → ∀ p ∈ prev, (∃ e ∈ oj.after, Region.binds md e = true ∧ e.on = p.1) ∨ p.2.apart ops oj = true) ∧
    (∀ (i j : Nat) (oi oj : Oper), l[i]? = some oi → l[j]? = some oj → i < j → (∃ e ∈ oj.after, Region.binds md e = true ∧ e.on = k + i) ∨ oi.apart ops oj = true)
  | [], k, prev, _ => ⟨fun j oj h => by simp at h, fun j oj h => by simp at h, fun i j oi oj h => by simp at h⟩
  | o :: l, k, prev, h => by
    simp only [lexPair, Bool.and_eq_true] at h
    obtain ⟨⟨h1, h2⟩, h3⟩ := h
    obtain ⟨g1, g2, g3⟩ := lexPair_spec l (k + 1) _ h3
    have a1 : ∀ e ∈ o.after, Region.binds md e = true → e.on < k := fun e he hb => by
      have := Array.all_eq_true_iff_forall_mem.1 h1 e he
      simpa [hb] using this
    have a2 : ∀ p ∈ prev, (∃ e ∈ o.after, Region.binds md e = true ∧ e.on = p.1) ∨ p.2.apart ops o = true := fun p hp => by
      have := List.all_eq_true.1 h2 p hp
      simp only [Bool.or_eq_true] at this
      rcases this with h | h
      · obtain ⟨e, he, hb⟩ := Array.any_eq_true'.1 h
        simp only [Bool.and_eq_true, beq_iff_eq] at hb
        exact .inl ⟨e, he, hb.1, hb.2⟩
      · exact .inr h
    refine ⟨fun j oj hj => ?_, fun j oj hj p hp => ?_, fun i j oi oj hi hj hij => ?_⟩
    · cases j with
      | zero => simp at hj; subst hj; exact a1
      | succ j => intro e he hb; have := g1 j oj (by simpa using hj) e he hb; omega
    · cases j with
      | zero => simp at hj; subst hj; exact a2 p hp
      | succ j => exact g2 j oj (by simpa using hj) p (List.mem_cons_of_mem _ hp)
    · cases j with
      | zero => omega
      | succ j =>
        cases i with
        | zero =>
          simp at hi; subst hi
          exact g2 j oj (by simpa using hj) (k, o) (List.mem_cons_self ..)
        | succ i =>
          rcases g3 i j oi oj (by simpa using hi) (by simpa using hj) (by omega) with ⟨e, he, hb, ho⟩ | h
          · exact .inl ⟨e, he, hb, by omega⟩
          · exact .inr h

theorem lexP_of {md : Region.Mode} {ops : Array Oper} (h : lexPair md ops 0 ops.toList [] = true) : LexP md ops := by
  obtain ⟨g1, _, g3⟩ := lexPair_spec _ _ _ h
  exact ⟨fun j oj hj e he hb => by have := g1 j oj (by simpa using hj) e he hb; omega, fun i j oi oj hi hj hij => by simpa using g3 i j oi oj (by simpa using hi) (by simpa using hj) hij⟩

section
variable {P : Program} {ops : Array Oper} {md : Region.Mode} {U : World → Prop}

theorem wpM_lexall {Q : Act → (World → Prop) → Prop} {F : World → Prop} (hUU : Up U) (hs0 : Region.noSelect ops = true) (hU : Up F) (hL : LexP md ops) : ∀ (l : List Oper) (k : Nat) (listed : Array Bool) (a : Act), (∀ j, l[j]? = ops[k + j]?) → k + l.length = ops.size →
    (∀ j, j < k → listed.getD j false = true) → (∀ j, k ≤ j → j < ops.size → listed.getD j true = false) →
    wpG P ops U (fun a' => Q a' F) l a → wpM P md ops U Q l.length listed a F
  | [], k, listed, a, hl, hn, h1, h2, h => by
    refine ⟨?_, (by with_unfolding_all exact h)⟩
    apply List.eq_nil_iff_forall_not_mem.2
    intro j hj
    obtain ⟨g1, o, ho, _⟩ := mem_ready.1 hj
    have hlt : j < ops.size := (Array.getElem?_eq_some_iff.1 ho).1
    have hk : j < k := by simp at hn; omega
    have := h1 j hk
    rcases Nat.lt_or_ge j listed.size with h' | h'
    · simp [h'] at this g1; rw [this] at g1; cases g1
    · simp [Array.getElem?_eq_none h'] at this
  | o :: l, k, listed, a, hl, hn, h1, h2, h => by
    have h0 : ops[k]? = some o := by simpa using (hl 0).symm
    have hk : k < ops.size := (Array.getElem?_eq_some_iff.1 h0).1
    have hun := h2 k (Nat.le_refl _) hk
    have hks : k < listed.size := by
      rcases Nat.lt_or_ge k listed.size with h' | h'
      · exact h'
      · simp [Array.getElem?_eq_none h'] at hun
    have hr : k ∈ Region.ready md ops listed := mem_ready.2 ⟨hun, o, h0, fun e he hb => h1 _ (hL.back k o h0 e he hb)⟩
    have hfree : ∀ j oj, ops[j]? = some oj → j ≠ k → listed.getD j true = false → (∀ e ∈ oj.after, Region.binds md e = true → e.on ≠ k) → o.apart ops oj = true := fun j oj hj hjk hju hno => by
      have hkj : k < j := by
        rcases Nat.lt_or_ge j k with h' | h'
        · have := h1 j h'
          rcases Nat.lt_or_ge j listed.size with h3 | h3
          · simp [h3] at this hju; rw [this] at hju; cases hju
          · simp [Array.getElem?_eq_none h3] at this
        · omega
      rcases hL.pair k j o oj h0 hj hkj with ⟨e, he, hb, ho⟩ | h'
      · exact absurd ho (hno e he hb)
      · exact h'
    have hnext : ∀ v : Value, wpG P ops U (fun a' => Q a' F) l (a.put o.dst v) → wpM P md ops U Q l.length (listed.setIfInBounds k true) (a.put o.dst v) F := fun v hv => by
      refine wpM_lexall hUU hs0 hU hL l (k + 1) _ _ (fun j => by have := hl (j + 1); simpa [Nat.add_assoc, Nat.add_comm 1 j] using this) (by simp at hn; omega) (fun j hj => ?_) (fun j hj hjs => ?_) hv
      · by_cases e : k = j
        · subst e; simp [hks]
        · rw [getD_set_ne false e]; exact h1 j (by omega)
      · rw [getD_set_ne true (by omega)]; exact h2 j (by omega) hjs
    have h' : if Region.wanted o (yielded ops a.tmps) then gNext P o a U (wpG P ops U (fun a' => Q a' F) l) else wpG P ops U (fun a' => Q a' F) l (a.put o.dst undef) := by
      with_unfolding_all exact h
    by_cases hw : Region.wanted o (yielded ops a.tmps) = true
    · rw [if_pos hw] at h'
      obtain ⟨v, g1, g2⟩ := h'
      exact wpM_first hUU h0 (Region.noSelect_spec hs0) _ listed a F hU hfree hr (.inl ⟨hw, g1⟩) (hnext v g2)
    · rw [if_neg hw] at h'
      exact wpM_first hUU h0 (Region.noSelect_spec hs0) _ listed a F hU hfree hr (.inr ⟨by simpa using hw, rfl⟩) (hnext undef h')

theorem wp_region_l {id : Nat} {Q : Exit → Act → World → Prop} {a : Act} {w : World} {l : List Oper} (hm : P.follows .mixedOrders = true) (hs : Region.noSelect l.toArray = true) (hB : lexPair .any l.toArray 0 l [] = true)
    (h : wpG P l.toArray (InC w) (fun a' => ∀ w', Below w.heap.size w w' → Q .normal a' w') l a) : (Code.region id l.toArray true).wp P Q a w := by
  refine wp_region_any hm (wpAny_of_wpM (U := InC w) (Q := fun a' _ => ∀ w', Below w.heap.size w w' → Q .normal a' w') (F := fun _ => True) (fun a F w' hC _ hq => hq w' (below_of_inC hC)) _ _ _ _ (inC_of_below ⟨rfl, rfl, rfl, Nat.le_refl _, fun _ _ => rfl⟩) trivial ?_)
  have := wpM_lexall (P := P) (U := InC w) (Q := fun a' _ => ∀ w', Below w.heap.size w w' → Q .normal a' w') (F := fun _ => True) (up_inC w) hs (fun _ _ _ _ => trivial) (lexP_of (md := .any) (by simpa using hB)) l 0 (Array.replicate l.toArray.size false) a (fun j => by simp) (by simp) (fun j hj => by omega) (fun j _ hj => by simp at hj; simp [hj]) h
  simpa using this
end

end Go.Proofs.Yteimcbhnjhkkbaa
