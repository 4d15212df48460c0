/- A region that draws its order, walked once: operations that yield one value in every world that has grown from the region's first (head), then operations that come one behind the other (tail). -/
import Derived.Still
import Derived.Deep.Quiet
import Derived.Deep.QuietTactic
import Derived.Below
import Derived.KernelRfl
namespace Go.Proofs.Ytjcoajaoofjjmaa
set_option linter.unusedSimpArgs false
set_option linter.unusedVariables false
open Go.RowKit

/-- How a world has grown: how often the tape was asked, which blocks were laid. -/
structure Rg where
  d : Nat
  os : Array Obj

instance : Inhabited Rg := ⟨⟨0, #[]⟩⟩

def grew (w : World) (p : Rg) : World := { w with heap := w.heap ++ p.os, drawn := p.d }

abbrev InC (w0 w : World) : Prop := ∃ p : Rg, w = grew w0 p

theorem below_grew (w : World) (p : Rg) : Below w.heap.size w (grew w p) :=
  ⟨rfl, rfl, rfl, by simp [grew], fun k hk => by simp [grew, Array.getElem?_append, hk]⟩

@[go_sem] theorem cell_grew (w : World) (p : Rg) (b o : Nat) (h : b < w.heap.size) : (grew w p).cell? ⟨b, o, none⟩ = w.cell? ⟨b, o, none⟩ := (below_grew w p).cell (p := ⟨b, o, none⟩) h
@[go_sem] theorem frozen_grew (w : World) (p : Rg) (b o : Nat) (h : b < w.heap.size) : (grew w p).frozen? ⟨b, o, none⟩ = w.frozen? ⟨b, o, none⟩ := (below_grew w p).frozen (p := ⟨b, o, none⟩) h

theorem inC_of_below {w w' : World} (h : Below w.heap.size w w') : InC w w' := by
  refine ⟨⟨w'.drawn, w'.heap.extract w.heap.size w'.heap.size⟩, ?_⟩
  obtain ⟨heap', tape', drawn', os', output'⟩ := w'
  have e1 : os' = w.os := h.os
  have e2 : tape' = w.tape := h.tape
  have e3 : output' = w.output := h.output
  have hs : w.heap.size ≤ heap'.size := h.size
  have hb : ∀ k, k < w.heap.size → heap'[k]? = w.heap[k]? := h.block
  subst e1 e2 e3
  have eh : heap' = w.heap ++ heap'.extract w.heap.size heap'.size := by
    apply Array.ext_getElem?
    intro k
    by_cases hk : k < w.heap.size
    · rw [Array.getElem?_append_left hk]; exact hb k hk
    · rw [Array.getElem?_append_right (by omega), Array.getElem?_extract]
      by_cases hk2 : k < heap'.size
      · rw [if_pos (by omega)]; congr 1; omega
      · rw [if_neg (by omega), Array.getElem?_eq_none (by omega)]
  simp only [grew]
  congr 1

theorem below_of_inC {w w' : World} (h : InC w w') : Below w.heap.size w w' := by
  obtain ⟨p, rfl⟩ := h; exact below_grew w p

theorem InC.trans {w w1 w2 : World} (h : InC w w1) (k : Below w1.heap.size w1 w2) : InC w w2 :=
  inC_of_below ((below_of_inC h).trans (k.mono (below_of_inC h).size))

/-- What is known of a world stays true where it grows. -/
def Up (F : World → Prop) : Prop := ∀ w w', F w → Below w.heap.size w w' → F w'

section
variable {P : Program} {ops : Array Oper} {md : Region.Mode} {U : World → Prop}

def gUpon (P : Program) (w : World) (v : Value) : Result Next → Prop
  | .ok (.value u) w' => w' = w ∧ u = v
  | .ok .skip w' => w' = w ∧ v = undef
  | .ok (.enter f args) w' => w' = w ∧ Calls P f args w (fun e w'' => e = .returned v ∧ Below w.heap.size w w'')
  | _ => False

def gAt (P : Program) (o : Oper) (a : Act) (w : World) (v : Value) : Prop := gUpon P w v ((execOp a.eval o).run P w)

/-- One value, in every world that has grown from w0. -/
def gNext (P : Program) (o : Oper) (a : Act) (U : World → Prop) (next : Act → Prop) : Prop := ∃ v, (∀ w, U w → gAt P o a w v) ∧ next (a.put o.dst v)

def wpG (P : Program) (ops : Array Oper) (U : World → Prop) (Q : Act → Prop) : List Oper → Act → Prop
  | [], a => Q a
  | o :: rest, a => if Region.wanted o (yielded ops a.tmps) then gNext P o a U (wpG P ops U Q rest) else wpG P ops U Q rest (a.put o.dst undef)

theorem wpG_nil {Q : Act → Prop} {a : Act} (h : Q a) : wpG P ops U Q [] a := h
theorem wpG_step {Q : Act → Prop} {a : Act} {o : Oper} {rest : List Oper}
    (h : ∀ K : Act → Prop, (∀ a, wpG P ops U Q rest a → K a) → if Region.wanted o (yielded ops a.tmps) then gNext P o a U K else K (a.put o.dst undef)) : wpG P ops U Q (o :: rest) a :=
  h _ (fun _ h => h)

def mUpon (P : Program) (U : World → Prop) (V : Value → Prop) (M : Value → World → Prop) : Result Next → Prop
  | .ok (.value u) w' => V u ∧ U w' ∧ M u w'
  | .ok .skip w' => V undef ∧ U w' ∧ M undef w'
  | .ok (.enter f args) w' => Calls P f args w' (fun e w'' => ∃ v, e = .returned v ∧ V v ∧ U w'' ∧ M v w'')
  | _ => False

def mAt (P : Program) (o : Oper) (a : Act) (U : World → Prop) (w : World) (V : Value → Prop) (M : Value → World → Prop) : Prop := mUpon P U V M ((execOp a.eval o).run P w)

def mNext (P : Program) (o : Oper) (a : Act) (U : World → Prop) (K : Act → (World → Prop) → Prop) (F : World → Prop) : Prop :=
  ∃ (V : Value → Prop) (M : Value → World → Prop), (∀ v, V v → Up (M v)) ∧ (∀ w, U w → F w → mAt P o a U w V M) ∧ ∀ v, V v → K (a.put o.dst v) (M v)

def mOp (P : Program) (ops : Array Oper) (U : World → Prop) (i : Nat) (K : Act → (World → Prop) → Prop) (a : Act) (F : World → Prop) : Prop :=
  match ops[i]? with
  | none => K a F
  | some o => if Region.wanted o (yielded ops a.tmps) then mNext P o a U K F else K (a.put o.dst undef) F

def wpM (P : Program) (md : Region.Mode) (ops : Array Oper) (U : World → Prop) (Q : Act → (World → Prop) → Prop) : Nat → Array Bool → Act → (World → Prop) → Prop
  | 0, listed, a, F => Region.ready md ops listed = [] ∧ Q a F
  | fuel + 1, listed, a, F =>
    (Region.ready md ops listed = [] → Q a F) ∧
    ∀ i ∈ Region.ready md ops listed, mOp P ops U i (wpM P md ops U Q fuel (listed.setIfInBounds i true)) a F

theorem wp_of_mNext {o : Oper} {a : Act} {K : Act → (World → Prop) → Prop} {F : World → Prop} {K' : Act → World → Prop} {Q' : Exit → Act → World → Prop} {w : World} (hC : U w) (hF : F w)
    (h : ∀ a F w', U w' → F w' → K a F → K' a w') (hh : mNext P o a U K F) : o.wp P a w K' Q' := by
  obtain ⟨V, M, _, h1, h2⟩ := hh
  have h3 := h1 w hC hF
  unfold mAt at h3
  unfold Oper.wp
  generalize (execOp a.eval o).run P w = r at *
  cases r with
  | ok n w' =>
    cases n <;> simp only [mUpon] at h3 <;> simp only [Oper.upon]
    case value u => exact h _ _ _ h3.2.1 h3.2.2 (h2 u h3.1)
    case skip => exact h _ _ _ h3.2.1 h3.2.2 (h2 undef h3.1)
    case enter f args =>
      exact h3.mono fun e w'' ⟨v, he, hV, hw, hM⟩ => by subst he; exact h _ _ _ hw hM (h2 v hV)
  | halt x w' => simp only [mUpon] at h3

theorem wpOp_of_mOp {i : Nat} {a : Act} {K : Act → (World → Prop) → Prop} {F : World → Prop} {K' : Act → World → Prop} {Q' : Exit → Act → World → Prop} {w : World} (hC : U w) (hF : F w)
    (h : ∀ a F w', U w' → F w' → K a F → K' a w') (hh : mOp P ops U i K a F) : wpOp P ops Q' i K' a w := by
  unfold mOp at hh
  unfold wpOp
  split
  · rename_i ho; simp only [ho] at hh; exact h _ _ _ hC hF hh
  · rename_i o ho
    simp only [ho] at hh
    split
    · rename_i hw; simp only [hw, if_true] at hh; exact .inl (wp_of_mNext hC hF h hh)
    · rename_i hw; simp only [hw] at hh; exact h _ _ _ hC hF hh

theorem wpAny_of_wpM {Q : Act → (World → Prop) → Prop} {Q' : Exit → Act → World → Prop} (hQ : ∀ a F w, U w → F w → Q a F → Q' .normal a w) :
    ∀ (fuel : Nat) (listed : Array Bool) (a : Act) (F : World → Prop) (w : World), U w → F w → wpM P md ops U Q fuel listed a F → wpAny P md ops Q' fuel listed a w
  | 0, _, _, _, _, hw, hF, h => ⟨h.1, hQ _ _ _ hw hF h.2⟩
  | fuel + 1, _, _, _, _, hw, hF, h => ⟨fun h0 => hQ _ _ _ hw hF (h.1 h0), fun i hi => wpOp_of_mOp hw hF (fun a' F' w' hw' hF' => wpAny_of_wpM hQ fuel _ a' F' w' hw' hF') (h.2 i hi)⟩

def YieldsG (P : Program) (ops : Array Oper) (U : World → Prop) (o : Oper) (v : Value) (a : Act) : Prop :=
  (Region.wanted o (yielded ops a.tmps) = true ∧ ∀ w, U w → gAt P o a w v) ∨
  (Region.wanted o (yielded ops a.tmps) = false ∧ v = undef)

theorem mAt_of_gAt {o : Oper} {a : Act} {w : World} {v : Value} {F : World → Prop} (hUU : Up U) (hU : Up F) (hC : U w) (hF : F w) (h : gAt P o a w v) : mAt P o a U w (· = v) (fun _ => F) := by
  unfold gAt at h
  unfold mAt
  generalize (execOp a.eval o).run P w = r at *
  cases r with
  | ok n w' =>
    cases n <;> simp only [gUpon] at h <;> simp only [mUpon]
    case value u => obtain ⟨rfl, rfl⟩ := h; exact ⟨rfl, hC, hF⟩
    case skip => obtain ⟨rfl, rfl⟩ := h; exact ⟨rfl, hC, hF⟩
    case enter f args =>
      obtain ⟨rfl, h⟩ := h
      exact h.mono fun e w'' ⟨he, hb⟩ => ⟨v, he, rfl, hUU _ _ hC hb, hU _ _ hF hb⟩
  | halt x w' => simp only [gUpon] at h

theorem YieldsG.mOp {i : Nat} {o : Oper} {v : Value} {a : Act} {F : World → Prop} (hUU : Up U) (hU : Up F) (hi : ops[i]? = some o) (hy : YieldsG P ops U o v a) {K : Act → (World → Prop) → Prop} (h : K (a.put o.dst v) F) : mOp P ops U i K a F := by
  unfold Go.Proofs.Ytjcoajaoofjjmaa.mOp
  simp only [hi]
  rcases hy with ⟨hw, hv⟩ | ⟨hw, rfl⟩
  · simp only [hw, if_true]
    exact ⟨(· = v), fun _ => F, fun _ _ => hU, fun w hC hF => mAt_of_gAt hUU hU hC hF (hv w hC), fun u hu => by subst hu; exact h⟩
  · simp only [hw, Bool.false_eq_true, if_false]; exact h

theorem YieldsG.of_same {o : Oper} {v : Value} {a a' : Act} (hy : YieldsG P ops U o v a) (he : execOp a'.eval o = execOp a.eval o)
    (hw : Region.wanted o (yielded ops a'.tmps) = Region.wanted o (yielded ops a.tmps)) : YieldsG P ops U o v a' := by
  unfold YieldsG gAt at *
  rw [he, hw]
  exact hy

theorem mOp_mono {i : Nat} {a : Act} {F : World → Prop} {K K' : Act → (World → Prop) → Prop} (hU : Up F) (h : ∀ a F, Up F → K a F → K' a F) (hh : mOp P ops U i K a F) : mOp P ops U i K' a F := by
  unfold mOp at *
  split
  · exact h _ _ hU (by simpa [*] using hh)
  · rename_i o ho
    simp only [ho] at hh
    split
    · rename_i hw; simp only [hw, if_true] at hh
      obtain ⟨V, M, h0, h1, h2⟩ := hh
      exact ⟨V, M, h0, h1, fun v hv => h _ _ (h0 v hv) (h2 v hv)⟩
    · rename_i hw; simp only [hw] at hh; exact h _ _ hU hh

theorem mOp_put {j : Nat} {oi oj : Oper} {v : Value} (hj : ops[j]? = some oj) (hap : oi.apart ops oj = true)
    (hsi : ∀ cs b, oi.op ≠ .select cs b) (hsj : ∀ cs b, oj.op ≠ .select cs b) {K : Act → (World → Prop) → Prop} {a : Act} {F : World → Prop}
    (hy : YieldsG P ops U oi v a) (h : mOp P ops U j K (a.put oi.dst v) F) :
    mOp P ops U j (fun a' F' => YieldsG P ops U oi v a' ∧ K (a'.put oi.dst v) F') a F := by
  obtain ⟨h1, h2, h3⟩ := Oper.apart_spec hap
  have keep : ∀ (a : Act), YieldsG P ops U oi v a → ∀ u, YieldsG P ops U oi v (a.put oj.dst u) := fun a hy u =>
    hy.of_same (execOp_put oi hsi a oj.dst u h3) (wanted_put oi a oj.dst u h3)
  unfold mOp at *
  simp only [hj] at *
  rw [wanted_put oj a oi.dst v h1] at h
  split
  · rename_i hw
    simp only [hw, if_true] at h
    obtain ⟨V, M, g0, g1, g2⟩ := h
    refine ⟨V, M, g0, fun w hC hF => ?_, fun u hu => ⟨keep a hy u, by rw [← Act.put_comm a v u h2]; exact g2 u hu⟩⟩
    have := g1 w hC hF
    unfold mAt at *
    rwa [execOp_put oj hsj a oi.dst v h1] at this
  · rename_i hw
    simp only [hw] at h
    exact ⟨keep a hy _, by rw [← Act.put_comm a v undef h2]; exact h⟩

theorem wpM_first {Q : Act → (World → Prop) → Prop} (hUU : Up U) {i : Nat} {oi : Oper} {v : Value} (hi : ops[i]? = some oi) (hsel : ∀ (j : Nat) (o : Oper) cs b, ops[j]? = some o → o.op ≠ .select cs b) :
    ∀ (fuel : Nat) (listed : Array Bool) (a : Act) (F : World → Prop), Up F →
      (∀ j oj, ops[j]? = some oj → j ≠ i → listed.getD j true = false → (∀ e ∈ oj.after, Region.binds md e = true → e.on ≠ i) → oi.apart ops oj = true) →
      i ∈ Region.ready md ops listed → YieldsG P ops U oi v a →
      wpM P md ops U Q fuel (listed.setIfInBounds i true) (a.put oi.dst v) F → wpM P md ops U Q (fuel + 1) listed a F := by
  intro fuel
  induction fuel with
  | zero =>
    intro listed a F hU _ hr hy H
    refine ⟨fun h => (by rw [h] at hr; cases hr), fun j hj => ?_⟩
    by_cases hji : j = i
    · subst hji; exact hy.mOp hUU hU hi H
    · have := ready_mono hj hji
      rw [H.1] at this
      cases this
  | succ fuel ih =>
    intro listed a F hU hfree hr hy H
    refine ⟨fun h => (by rw [h] at hr; cases hr), fun j hj => ?_⟩
    by_cases hji : j = i
    · subst hji; exact hy.mOp hUU hU hi H
    · have h1 := H.2 j (ready_mono hj hji)
      obtain ⟨hjun, oj, hoj, hall⟩ := mem_ready.1 hj
      have hnot : ∀ e ∈ oj.after, Region.binds md e = true → e.on ≠ i := fun e he hb heq => by
        have h1 := hall e he hb
        have h0 := (mem_ready.1 hr).1
        rw [heq] at h1
        rcases Nat.lt_or_ge i listed.size with h' | h'
        · simp [h'] at h0 h1; rw [h0] at h1; cases h1
        · simp [Array.getElem?_eq_none h'] at h1
      have h2 := mOp_put hoj (hfree j oj hoj hji hjun hnot) (fun cs b => hsel i oi cs b hi) (fun cs b => hsel j oj cs b hoj) hy h1
      have hfree' : ∀ k ok, ops[k]? = some ok → k ≠ i → (listed.setIfInBounds j true).getD k true = false →
          (∀ e ∈ ok.after, Region.binds md e = true → e.on ≠ i) → oi.apart ops ok = true := fun k ok hk hki hun hno => by
        refine hfree k ok hk hki ?_ hno
        by_cases hjk : j = k
        · subst hjk; exact hjun
        · rw [getD_set_ne true hjk] at hun; exact hun
      refine mOp_mono hU (fun a' F' hU' h3 => ih (listed.setIfInBounds j true) a' F' hU' hfree' (ready_mono hr (Ne.symm hji)) h3.1 ?_) h2
      rw [Array.setIfInBounds_comm _ _ hji]
      exact h3.2

/-- The tail: one operation behind the other, what is known of the world handed on. -/
def wpT (P : Program) (ops : Array Oper) (U : World → Prop) (Q : Act → (World → Prop) → Prop) : List Oper → Act → (World → Prop) → Prop
  | [], a, F => Q a F
  | o :: rest, a, F => if Region.wanted o (yielded ops a.tmps) then mNext P o a U (wpT P ops U Q rest) F else wpT P ops U Q rest (a.put o.dst undef) F

theorem wpT_step {Q : Act → (World → Prop) → Prop} {a : Act} {o : Oper} {rest : List Oper} {F : World → Prop}
    (h : ∀ K : Act → (World → Prop) → Prop, (∀ a F, wpT P ops U Q rest a F → K a F) → if Region.wanted o (yielded ops a.tmps) then mNext P o a U K F else K (a.put o.dst undef) F) : wpT P ops U Q (o :: rest) a F :=
  h _ (fun _ _ h => h)

def okT (md : Region.Mode) (ops : Array Oper) : List Nat → Array Bool → Bool
  | [], listed => (Region.ready md ops listed).isEmpty
  | k :: ts, listed => decide (Region.ready md ops listed = [k]) && okT md ops ts (listed.setIfInBounds k true)

def okH (md : Region.Mode) (ops : Array Oper) (ts : List Nat) : List Nat → Array Bool → Bool
  | [], listed => okT md ops ts listed
  | k :: hs, listed => (Region.ready md ops listed).contains k && Region.free md ops listed k && okH md ops ts hs (listed.setIfInBounds k true)

def okB (md : Region.Mode) (ops : Array Oper) (hs ts : List Nat) : Bool :=
  Region.noSelect ops && decide (hs.length + ts.length = ops.size) && okH md ops ts hs (Array.replicate ops.size false)

def pick (ops : Array Oper) (hs : List Nat) : List Oper := hs.map fun i => ops.getD i default

theorem pick_some {ops : Array Oper} {md : Region.Mode} {listed : Array Bool} {k : Nat} (h : k ∈ Region.ready md ops listed) : ops[k]? = some (ops.getD k default) := by
  obtain ⟨_, o, ho, _⟩ := mem_ready.1 h
  simp [Array.getD_eq_getD_getElem?, ho]

theorem wpM_tail {Q : Act → (World → Prop) → Prop} : ∀ (ts : List Nat) (listed : Array Bool) (a : Act) (F : World → Prop), okT md ops ts listed = true →
    wpT P ops U Q (pick ops ts) a F → wpM P md ops U Q ts.length listed a F
  | [], _, _, _, hB, h => ⟨by simpa [okT] using hB, h⟩
  | k :: ts, listed, a, F, hB, h => by
    simp only [okT, Bool.and_eq_true, decide_eq_true_eq] at hB
    refine ⟨fun h1 => (by rw [hB.1] at h1; cases h1), fun i hi => ?_⟩
    have h0 := pick_some hi
    rw [hB.1] at hi
    have hik : i = k := by simpa using hi
    subst hik
    unfold mOp
    simp only [h0]
    have h' : if Region.wanted (ops.getD i default) (yielded ops a.tmps) then mNext P (ops.getD i default) a U (wpT P ops U Q (pick ops ts)) F else wpT P ops U Q (pick ops ts) (a.put (ops.getD i default).dst undef) F := h
    split
    · rename_i hw
      rw [if_pos hw] at h'
      obtain ⟨V, M, g0, g1, g2⟩ := h'
      exact ⟨V, M, g0, g1, fun v hv => wpM_tail ts _ _ _ hB.2 (g2 v hv)⟩
    · rename_i hw
      rw [if_neg hw] at h'
      exact wpM_tail ts _ _ _ hB.2 h'

theorem wpM_head {Q : Act → (World → Prop) → Prop} {F : World → Prop} (hUU : Up U) (hs0 : Region.noSelect ops = true) (hU : Up F) (ts : List Nat) : ∀ (hs : List Nat) (listed : Array Bool) (a : Act), okH md ops ts hs listed = true →
    wpG P ops U (fun a' => wpT P ops U Q (pick ops ts) a' F) (pick ops hs) a → wpM P md ops U Q (hs.length + ts.length) listed a F
  | [], listed, a, hB, h => by
    rw [List.length_nil, Nat.zero_add]
    exact wpM_tail ts listed a F hB h
  | k :: hs, listed, a, hB, h => by
    simp only [okH, Bool.and_eq_true] at hB
    obtain ⟨⟨hr, hf⟩, hB'⟩ := hB
    have hr' : k ∈ Region.ready md ops listed := by simpa using hr
    have h0 := pick_some hr'
    rw [show (k :: hs).length + ts.length = (hs.length + ts.length) + 1 by simp; omega]
    have h' : if Region.wanted (ops.getD k default) (yielded ops a.tmps) then gNext P (ops.getD k default) a U (wpG P ops U (fun a' => wpT P ops U Q (pick ops ts) a' F) (pick ops hs)) else wpG P ops U (fun a' => wpT P ops U Q (pick ops ts) a' F) (pick ops hs) (a.put (ops.getD k default).dst undef) := h
    by_cases hw : Region.wanted (ops.getD k default) (yielded ops a.tmps) = true
    · rw [if_pos hw] at h'
      obtain ⟨v, h1, h2⟩ := h'
      exact wpM_first hUU h0 (Region.noSelect_spec hs0) _ listed a F hU (Region.free_spec h0 hf) hr' (.inl ⟨hw, h1⟩) (wpM_head hUU hs0 hU ts hs _ _ hB' h2)
    · rw [if_neg hw] at h'
      exact wpM_first hUU h0 (Region.noSelect_spec hs0) _ listed a F hU (Region.free_spec h0 hf) hr' (.inr ⟨by simpa using hw, rfl⟩) (wpM_head hUU hs0 hU ts hs _ _ hB' h')

/-- What stands behind the region: in every world of the class of which F is known. -/
def Qc (Q : Exit → Act → World → Prop) (U : World → Prop) (a : Act) (F : World → Prop) : Prop := ∀ w, U w → F w → Q .normal a w

theorem wp_region_u {id : Nat} {Q : Exit → Act → World → Prop} {a : Act} {w : World} (U F : World → Prop) (hUU : Up U) (hU : Up F) (hU0 : U { w with drawn := w.drawn + 1 }) (hF0 : F { w with drawn := w.drawn + 1 })
    (hs ts : List Nat) (hm : P.follows .mixedOrders = true) (hB : okB .any ops hs ts = true)
    (h : wpG P ops U (fun a' => wpT P ops U (Qc Q U) (pick ops ts) a' F) (pick ops hs) a) : (Code.region id ops true).wp P Q a w := by
  simp only [okB, Bool.and_eq_true, decide_eq_true_eq] at hB
  obtain ⟨⟨hsel, hlen⟩, hok⟩ := hB
  refine wp_region_any hm (wpAny_of_wpM (U := U) (Q := Qc Q U) (F := F) (fun a F w' hC hF hq => hq w' hC hF) _ _ _ _ hU0 hF0 ?_)
  rw [← hlen]
  exact wpM_head hUU hsel hU ts hs _ a (by rw [hlen]; exact hok) h

theorem up_inC (w : World) : Up (InC w) := fun _ _ h hb => InC.trans h hb

theorem wp_region_g {id : Nat} {Q : Exit → Act → World → Prop} {a : Act} {w : World} (hs ts : List Nat) (hm : P.follows .mixedOrders = true) (hB : okB .any ops hs ts = true)
    (h : wpG P ops (InC w) (fun a' => wpT P ops (InC w) (Qc Q (InC w)) (pick ops ts) a' (fun _ => True)) (pick ops hs) a) : (Code.region id ops true).wp P Q a w :=
  wp_region_u (InC w) (fun _ => True) (up_inC w) (fun _ _ _ _ => trivial) (inC_of_below ⟨rfl, rfl, rfl, Nat.le_refl _, fun _ _ => rfl⟩) trivial hs ts hm hB h

end

attribute [go_sem] gUpon gAt gNext
attribute [irreducible] wpG

theorem same_g {P : Program} {f : FuncId} {args : Array Value} {w : World} {v : Value} (h : Calls P f args w fun e w' => e = .returned v ∧ w = w') : Calls P f args w fun e w'' => e = .returned v ∧ Below w.heap.size w w'' :=
  h.mono fun _ _ ⟨he, hw⟩ => ⟨he, by subst hw; exact Below.refl _ _⟩

end Go.Proofs.Ytjcoajaoofjjmaa
