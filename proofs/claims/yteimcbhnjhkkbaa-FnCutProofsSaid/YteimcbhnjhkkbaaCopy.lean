/- Nets copied. -/
import Derived.Test.YteimcbhnjhkkbaaNetB
import Derived.Deep.AppendSrc
import Derived.Deep.Upon
import Derived.Deep.RegionLaw
import Derived.StillTailTactics
namespace Go.Proofs.Yteimcbhnjhkkbaa
set_option linter.unusedSimpArgs false
set_option linter.unusedVariables false
open Go.RowKit

/-- A drawn region: n operations that only read, then the others in their order. -/
theorem region_still {P : Program} {id : Nat} {Q : Exit → Act → World → Prop} {a : Act} {w : World} {l : List Oper} (n : Nat) (hm : P.follows .mixedOrders = true) (hB : Region.lexTailB .any l.toArray n = true)
    (h : ∀ w1, w1.heap = w.heap → (∀ b o, w1.cell? ⟨b, o, none⟩ = w.cell? ⟨b, o, none⟩) → (∀ b o, w1.frozen? ⟨b, o, none⟩ = w.frozen? ⟨b, o, none⟩) → Below w.heap.size w w1 → wpStill P l.toArray w1 (fun a' => wpList P l.toArray Q (l.drop n) a' w1) (l.take n) a) : (Code.region id l.toArray true).wp P Q a w :=
  wp_region_still_tail n hm hB (h _ rfl (fun _ _ => rfl) (fun _ _ => rfl) ⟨rfl, rfl, rfl, Nat.le_refl _, fun _ _ => rfl⟩)

/-- The tail of a drawn region: one operation, whatever it does to the call's own blocks. -/
theorem wpT_runB {P : Program} {ops : Array Oper} {w0 : World} {B : Nat} {Q : Act → (World → Prop) → Prop} {a : Act} {o : Oper} {rest : List Oper} {F : World → Prop}
    (hB : B ≤ w0.heap.size) (V : Value → Prop) (M : Value → World → Prop) (hUp : ∀ v, V v → Up (M v)) (hg : o.guard = none)
    (hrun : ∀ w, B ≤ w.heap.size → F w → ∃ v w', ((execOp a.eval o).run P w = .ok (.value v) w' ∨ ((execOp a.eval o).run P w = .ok .skip w' ∧ v = undef)) ∧ V v ∧ Below B w w' ∧ M v w')
    (h : ∀ v, V v → wpT P ops (InB w0 B) Q rest (a.put o.dst v) (M v)) : wpT P ops (InB w0 B) Q (o :: rest) a F := by
  refine wpT_step fun K hK => ?_
  rw [if_pos (by simp [Region.wanted, hg])]
  refine ⟨V, M, hUp, fun w hC hF => ?_, fun v hv => hK _ _ (h v hv)⟩
  obtain ⟨v, w', hr, hV, hb, hM⟩ := hrun w (inB_parts hB hC).2.2.2.1 hF
  unfold mAt
  rcases hr with hr | ⟨hr, rfl⟩
  · rw [hr]; exact ⟨hV, inB_step hB hC hb, hM⟩
  · rw [hr]; exact ⟨hV, inB_step hB hC hb, hM⟩

/-- 'append(out, l...)', out the call's own, l a slice of pipes or nil. -/
theorem run_appendP {w : World} (ty : TypeId) (base : Nat) (v : Value) (xs ys : List T3) (a : Option Addr) (cap : Nat) (hown : OwnsT 60 base w v xs) (hr : Rd3 w a ys) (hn : xs.length + ys.length ≤ 100000000) (hb : base ≤ w.heap.size) :
    ∃ v' w', (Builtin.append_ #[24, 24] ty #[v, .slice a ys.length cap]).run Try.prog w = .ok v' w' ∧ OwnsT 60 base w' v' (xs ++ ys) ∧ Below base w w' ∧ w.grownBy w' v.ownBlock := by
  obtain ⟨z, hinf, hzc⟩ := infPipe
  obtain ⟨i0, hi, hz0, hz1, hz2⟩ := info_parts hinf
  have ht := Try.underlying24
  cases a with
  | some ad =>
    obtain ⟨v', w', hrun', hown', hgr, _⟩ := run_append_own (P := Try.prog) (w := w) base 24 ty 60 i0 z 3 24 ht hi hz0 hz1 hz2 hzc (by decide) v xs.length ((flat xs).map (Value.int .i64)) hown ad ys.length cap ((flat ys).map (Value.int .i64)) (by simp [flat_length])
      (fun j u hj => rd3_get hr j u hj) (by intro u hu; simp at hu; obtain ⟨y, _, rfl⟩ := hu; rfl) (by unfold maxLen; omega) (by omega) hb
    exact ⟨v', w', hrun', by unfold OwnsT; rw [flat_append]; simpa using hown', (Below.refl base w).grown hgr hb (fun k hk => (OwnsT.lt hown k hk).1), hgr⟩
  | none =>
    have hy : ys = [] := by
      cases ys with
      | nil => rfl
      | cons y r => obtain ⟨b, off, e, _⟩ := hr 0 (by simp); cases e
    subst hy
    have hv : ∃ bo n c, v = .slice bo n c ∧ n ≤ c := by
      rcases hown.2 with ⟨rfl, _⟩ | ⟨g, cap, cur, rfl, _, _, hnc, _⟩
      · exact ⟨_, _, _, rfl, Nat.le_refl _⟩
      · exact ⟨_, _, _, rfl, hnc⟩
    obtain ⟨bo, n, c, rfl, hle⟩ := hv
    exact ⟨_, w, run_append_nothing w 24 24 ty 60 i0 ht hi bo n c hle _ (Src.ofNil w ht cap), by simpa using hown, Below.refl _ _, grownBy_refl _ _⟩

theorem appendPipesO {ops : Array Oper} {rest : List Oper} {o : Oper} {a : Act} {Q : Exit → Act → World → Prop} {w : World} (hgd : o.guard = none) (s x : Operand)
    (ho : o.op = .call { callee := .builtin .append, args := #[s, x], argTypes := #[24, 24] })
    (base : Nat) (v : Value) (xs ys : List T3) (ad : Option Addr) (cap : Nat) (hown : OwnsT 60 base w v xs) (hr : Rd3 w ad ys) (hs : a.eval s = v) (hx : a.eval x = .slice ad ys.length cap)
    (hn : xs.length + ys.length ≤ 100000000) (hb : base ≤ w.heap.size)
    (h : ∀ v' w', OwnsT 60 base w' v' (xs ++ ys) → Below base w w' → w.grownBy w' v.ownBlock → wpList Try.prog ops Q rest (a.put o.dst v') w') :
    wpList Try.prog ops Q (o :: rest) a w := by
  obtain ⟨v', w', hrun', hown', hbel, hgr⟩ := run_appendP (w := w) o.type base v xs ys ad cap hown hr hn hb
  refine wpList_plain hgd fun K hK => ?_
  unfold Oper.wp execOp
  simp only [ho, resolve, invoke, builtin, Sem.run_bind, Sem.run_pure, Result.andThen_ok, List.map_toArray, List.map_cons, List.map_nil, hs, hx, hrun']
  exact hK _ _ (h v' w' hown' hbel hgr)

/-- The call hands back a net of its own. -/
def GivesN (p : Int) (ts : List T3) (w : World) (e : Ending) (w' : World) : Prop := ∃ v, e = .returned (.agg #[.int .i64 p, v]) ∧ OwnsT 60 w.heap.size w' v ts ∧ Below w.heap.size w w'
/-- .. and a bool. -/
def GivesNB (p : Int) (ts : List T3) (ok : Bool) (w : World) (e : Ending) (w' : World) : Prop := ∃ v, e = .returned (.tuple #[.agg #[.int .i64 p, v], .bool ok]) ∧ HoldsT 60 w.heap.size w' v ts ∧ Below w.heap.size w w'

theorem blk_grown {w w' : World} {b : Nat} {r : Option Nat} {x : Obj} (h : w.heap[b]? = some x) (hb : w.grownBy w' r) (hne : some b ≠ r) : w'.heap[b]? = some x := by
  rw [hb.block b (Array.getElem?_eq_some_iff.1 h).1 hne]; exact h

/-- What is known while a net is built: the block of the net, the slice (in blocks from B on). -/
def NetF (w : World) (B g : Nat) (C : Array Value) (v : Value) (ts : List T3) (W : World) : Prop := Below w.heap.size w W ∧ W.heap[g]? = some (.cells C 26 (0, 0)) ∧ OwnsT 60 B W v ts
theorem up_netF {w : World} (B g : Nat) (C : Array Value) (v : Value) (ts : List T3) : Up (NetF w B g C v ts) :=
  fun _ _ h hb => ⟨h.1.trans (hb.mono h.1.size), heap_grow h.2.1 hb, h.2.2.below hb⟩
theorem own_type {T T' : TypeId} {B g : Nat} {W : World} {v : Value} {ts : List T3} {C : Array Value} (h : OwnsT T B W v ts) (hg : W.heap[g]? = some (.cells C T' (0, 0))) (hT : T ≠ T') : v.ownBlock ≠ some g := by
  rcases h.cases with ⟨rfl, _⟩ | ⟨g', c, rfl, _, C', hh, _⟩
  · intro e; cases e
  · intro e
    have e2 : g' = g := by injection e
    subst e2
    rw [hh] at hg
    injection hg with h1
    injection h1 with h2 h3
    exact hT h3

theorem wpT_appP {ops : Array Oper} {w w0 : World} {B g : Nat} {C : Array Value} {Q : Act → (World → Prop) → Prop} {a : Act} {o : Oper} {rest : List Oper} {v : Value} {xs ys : List T3} {ad : Option Addr} {cap : Nat}
    (hB : B ≤ w0.heap.size) (hwB : w.heap.size ≤ B) (hgd : o.guard = none) (hr : Rd3 w ad ys) (hn : xs.length + ys.length ≤ 100000000)
    (s x : Operand) (ho : o.op = .call { callee := .builtin .append, args := #[s, x], argTypes := #[24, 24] }) (hs : a.eval s = v) (hx : a.eval x = .slice ad ys.length cap)
    (h : ∀ a1 c1, wpT Try.prog ops (InB w0 B) Q rest (a.put o.dst (.slice a1 (xs ++ ys).length c1)) (NetF w B g C (.slice a1 (xs ++ ys).length c1) (xs ++ ys))) :
    wpT Try.prog ops (InB w0 B) Q (o :: rest) a (NetF w B g C v xs) := by
  refine wpT_runB hB (fun u => ∃ a1 c1, u = .slice a1 (xs ++ ys).length c1) (fun u W => NetF w B g C u (xs ++ ys) W) (fun u _ => up_netF B g C u _) hgd (fun W hW hF => ?_) (fun u hu => ?_)
  · obtain ⟨v', w', hrun', hown', hbel, hgr⟩ := run_appendP (w := W) o.type B v xs ys ad cap hF.2.2 (hr.below hF.1) hn hW
    obtain ⟨a1, c1, hv1, _⟩ := hown'.slice
    refine ⟨v', w', .inl ?_, ⟨a1, c1, hv1⟩, hbel, hF.1.trans (hbel.mono hwB), blk_grown hF.2.1 hgr (Ne.symm (own_type hF.2.2 hF.2.1 (by decide))), hown'⟩
    unfold execOp
    simp only [ho, resolve, invoke, builtin, Sem.run_bind, Sem.run_pure, Result.andThen_ok, List.map_toArray, List.map_cons, List.map_nil, hs, hx, hrun']
  · obtain ⟨a1, c1, rfl⟩ := hu
    exact h a1 c1

theorem wpT_netSt {ops : Array Oper} {w w0 : World} {B g : Nat} {C : Array Value} {Q : Act → (World → Prop) → Prop} {a : Act} {o : Oper} {rest : List Oper} {v v1 : Value} {p : Int} {ts : List T3}
    (hB : B ≤ w0.heap.size) (hwB : w.heap.size ≤ B) (hgB : B ≤ g) (hC : C.size = 2) (hgd : o.guard = none)
    (hrun : ∀ W, W.heap[g]? = some (.cells C 26 (0, 0)) → (execOp a.eval o).run Try.prog W = .ok .skip ((W.setCell ⟨g, 0, none⟩ (.int .i64 p)).setCell ⟨g, 1, none⟩ v1))
    (h : wpT Try.prog ops (InB w0 B) Q rest (a.put o.dst undef) (NetF w B g #[.int .i64 p, v1] v ts)) :
    wpT Try.prog ops (InB w0 B) Q (o :: rest) a (NetF w B g C v ts) := by
  refine wpT_runB hB (fun u => u = undef) (fun _ W => NetF w B g #[.int .i64 p, v1] v ts W) (fun u _ => up_netF B g _ _ _) hgd (fun W hW hF => ?_) (fun u hu => by subst hu; exact h)
  obtain ⟨c0, c1, hcc⟩ : ∃ c0 c1, C = #[c0, c1] := by
    match C, hC with
    | ⟨[c0, c1]⟩, _ => exact ⟨c0, c1, rfl⟩
  subst hcc
  obtain ⟨h1, h2⟩ := store_two (x := .int .i64 p) (y := v1) hF.2.1
  have h3 := h2.mono hgB
  have h4 : W.grownBy ((W.setCell ⟨g, 0, none⟩ (.int .i64 p)).setCell ⟨g, 1, none⟩ v1) (some g) := grownBy_trans (grownBy_set _ _ _ _) (grownBy_set _ _ _ _)
  exact ⟨undef, _, .inr ⟨hrun W hF.2.1, rfl⟩, rfl, h3, hF.1.trans (h3.mono hwB), h1, World.ownsRow.kept hF.2.2 h4 (.inr (own_type hF.2.2 hF.2.1 (by decide)))⟩

theorem copyNet_any (p : Int) (a : Option Addr) (cap : Nat) (ts : List T3) (w : World) (hc : Rd3 w a ts) (hn : ts.length ≤ 1048576) :
    Calls Try.prog 57 #[.agg #[.int .i64 p, .slice a ts.length cap]] w fun e w' => GivesN p ts w e w' := by
  go_enter Try.func57, Try.ntmps57
  go_wp2
  have R1 := blk_new (w.alloc (.cells #[.int .i64 p, .slice a ts.length cap] 26)) #[.int .i64 0, .slice none 0 0] 26
  have X1 := blk_alloc (o := .cells #[.int .i64 0, .slice none 0 0] 26) (blk_new w #[.int .i64 p, .slice a ts.length cap] 26)
  have B1 : Below w.heap.size w ((w.alloc (.cells #[.int .i64 p, .slice a ts.length cap] 26)).alloc (.cells #[.int .i64 0, .slice none 0 0] 26)) := belA (belA (Below.refl _ _))
  have hsz : ((w.alloc (.cells #[.int .i64 p, .slice a ts.length cap] 26)).alloc (.cells #[.int .i64 0, .slice none 0 0] 26)).heap.size = w.heap.size + 2 := by simp
  rw [World.size_alloc] at R1
  generalize (w.alloc (.cells #[.int .i64 p, .slice a ts.length cap] 26)).alloc (.cells #[.int .i64 0, .slice none 0 0] 26) = w0 at *
  have c0 := cell_of_block X1 0
  have c1 := cell_of_block X1 1
  simp at c0 c1
  have hB : w.heap.size + 1 ≤ w0.heap.size := by omega
  have hcgB := fun p b o h => cell_grewB w0 (w.heap.size + 1) p b o hB h
  refine wp_region_u (InB w0 (w.heap.size + 1)) (NetF w (w.heap.size + 1) (w.heap.size + 1) #[.int .i64 0, .slice none 0 0] (.slice none 0 0) []) (up_inB hB) (up_netF _ _ _ _ _) (inB_below hB ⟨rfl, rfl, rfl, Nat.le_refl _, fun _ _ => rfl⟩) ⟨belD B1, R1, OwnsT.nil _ _ _⟩ [0, 1, 2, 3] [4, 5, 6] (by kernel_rfl) (by kernel_rfl) ?_
  simp only [pick, List.map_cons, List.map_nil, Array.getD_eq_getD_getElem?, List.getElem?_toArray, List.getElem?_cons_zero, List.getElem?_cons_succ, Option.getD_some]
  iterate 4 (refine wpG_step (fun K hK => ?_); go_simp; first | (refine hK _ ?_; clear hK K) | (apply Exists.intro; refine ⟨fun _ => ?_, hK _ ?_⟩; (fail); clear hK K))
  refine wpG_nil ?_
  clear hcgB
  refine wpT_appP (ys := ts) (ad := a) (cap := cap) hB (Nat.le_succ _) rfl hc (by simp; omega) _ _ rfl rfl rfl (fun a1 c1 => ?_)
  simp only [Act.put, List.setIfInBounds_toArray, List.set_cons_zero, List.set_cons_succ, List.nil_append]
  refine wpT_pureU (up_netF _ _ _ _ _) rfl (fun wq => by (go_simp; rfl)) ?_
  simp only [Act.put, List.setIfInBounds_toArray, List.set_cons_zero, List.set_cons_succ]
  refine wpT_netSt (p := p) (v1 := .slice a1 ts.length c1) hB (Nat.le_succ _) (Nat.le_refl _) rfl rfl (fun W hW => by have q0 := cell_of_block hW 0; have q1 := cell_of_block hW 1; have f0 := frozen_of_block hW 0; have f1 := frozen_of_block hW 1; simp at q0 q1; go_simp) ?_
  simp only [Act.put, List.setIfInBounds_toArray, List.set_cons_zero, List.set_cons_succ]
  intro w3 hC3 ⟨hb3, hn3, hown3⟩
  have d0 := cell_of_block hn3 0
  have d1 := cell_of_block hn3 1
  simp at d0 d1
  go_wp2
  exact bodyPost_ret (by simp [results, Try.results57, go_sem, *]; try rfl) rfl ⟨_, rfl, hown3.mono (Nat.le_succ _), hb3⟩

/-- '[]Pipe{}'. -/
theorem wpT_emptyP {ops : Array Oper} {w w0 : World} {B g : Nat} {C : Array Value} {Q : Act → (World → Prop) → Prop} {a : Act} {o : Oper} {rest : List Oper} {v : Value} {xs : List T3}
    (hB : B ≤ w0.heap.size) (hwB : w.heap.size ≤ B) (hgd : o.guard = none)
    (hrun : ∀ W, (execOp a.eval o).run Try.prog W = .ok (.value (.slice (some ⟨W.heap.size, 0, none⟩) 0 0)) (W.alloc (.cells #[] 60)))
    (h : ∀ b : Nat, wpT Try.prog ops (InB w0 B) Q rest (a.put o.dst (.slice (some ⟨b, 0, none⟩) 0 0)) (NetF w B g C (.slice (some ⟨b, 0, none⟩) 0 0) [])) :
    wpT Try.prog ops (InB w0 B) Q (o :: rest) a (NetF w B g C v xs) := by
  refine wpT_runB hB (fun u => ∃ b : Nat, u = .slice (some ⟨b, 0, none⟩) 0 0) (fun u W => NetF w B g C u [] W) (fun u _ => up_netF B g C u _) hgd (fun W hW hF => ?_) (fun u hu => ?_)
  · have hal : Below W.heap.size W (W.alloc (.cells #[] 60)) := (Below.refl _ _).alloc (Nat.le_refl _) _
    exact ⟨_, _, .inl (hrun W), ⟨_, rfl⟩, hal.mono hW, hF.1.trans (hal.mono hF.1.size), heap_grow hF.2.1 hal, OwnsT.empty _ _ W hW⟩
  · obtain ⟨b, rfl⟩ := hu
    exact h b

theorem l08Copy_any (p : Int) (a : Option Addr) (cap : Nat) (ts : List T3) (w : World) (hc : Rd3 w a ts) (hn : ts.length ≤ 1048576) :
    Calls Try.prog 49 #[.agg #[.int .i64 p, .slice a ts.length cap]] w fun e w' => GivesN p ts w e w' := by
  go_enter Try.func49, Try.ntmps49
  go_wp2
  have R1 := blk_new (w.alloc (.cells #[.int .i64 p, .slice a ts.length cap] 26)) #[.int .i64 0, .slice none 0 0] 26
  have X1 := blk_alloc (o := .cells #[.int .i64 0, .slice none 0 0] 26) (blk_new w #[.int .i64 p, .slice a ts.length cap] 26)
  have B1 : Below w.heap.size w ((w.alloc (.cells #[.int .i64 p, .slice a ts.length cap] 26)).alloc (.cells #[.int .i64 0, .slice none 0 0] 26)) := belA (belA (Below.refl _ _))
  have hsz : ((w.alloc (.cells #[.int .i64 p, .slice a ts.length cap] 26)).alloc (.cells #[.int .i64 0, .slice none 0 0] 26)).heap.size = w.heap.size + 2 := by simp
  rw [World.size_alloc] at R1
  generalize (w.alloc (.cells #[.int .i64 p, .slice a ts.length cap] 26)).alloc (.cells #[.int .i64 0, .slice none 0 0] 26) = w0 at *
  have c0 := cell_of_block X1 0
  have c1 := cell_of_block X1 1
  simp at c0 c1
  have hB : w.heap.size + 1 ≤ w0.heap.size := by omega
  have hcgB := fun p b o h => cell_grewB w0 (w.heap.size + 1) p b o hB h
  refine wp_region_u (InB w0 (w.heap.size + 1)) (NetF w (w.heap.size + 1) (w.heap.size + 1) #[.int .i64 0, .slice none 0 0] (.slice none 0 0) []) (up_inB hB) (up_netF _ _ _ _ _) (inB_below hB ⟨rfl, rfl, rfl, Nat.le_refl _, fun _ _ => rfl⟩) ⟨belD B1, R1, OwnsT.nil _ _ _⟩ [0, 1, 3, 4] [2, 5, 6, 7] (by kernel_rfl) (by kernel_rfl) ?_
  simp only [pick, List.map_cons, List.map_nil, Array.getD_eq_getD_getElem?, List.getElem?_toArray, List.getElem?_cons_zero, List.getElem?_cons_succ, Option.getD_some]
  iterate 4 (refine wpG_step (fun K hK => ?_); go_simp; first | (refine hK _ ?_; clear hK K) | (apply Exists.intro; refine ⟨fun _ => ?_, hK _ ?_⟩; (fail); clear hK K))
  refine wpG_nil ?_
  clear hcgB
  refine wpT_emptyP hB (Nat.le_succ _) rfl (fun wq => by (go_simp; try rfl)) (fun b => ?_)
  simp only [Act.put, List.setIfInBounds_toArray, List.set_cons_zero, List.set_cons_succ, List.nil_append]
  refine wpT_appP (ys := ts) (ad := a) (cap := cap) hB (Nat.le_succ _) rfl hc (by simp; omega) _ _ rfl rfl rfl (fun a1 c1 => ?_)
  simp only [Act.put, List.setIfInBounds_toArray, List.set_cons_zero, List.set_cons_succ, List.nil_append]
  refine wpT_pureU (up_netF _ _ _ _ _) rfl (fun wq => by (go_simp; rfl)) ?_
  simp only [Act.put, List.setIfInBounds_toArray, List.set_cons_zero, List.set_cons_succ]
  refine wpT_netSt (p := p) (v1 := .slice a1 ts.length c1) hB (Nat.le_succ _) (Nat.le_refl _) rfl rfl (fun W hW => by have q0 := cell_of_block hW 0; have q1 := cell_of_block hW 1; have f0 := frozen_of_block hW 0; have f1 := frozen_of_block hW 1; simp at q0 q1; go_simp) ?_
  simp only [Act.put, List.setIfInBounds_toArray, List.set_cons_zero, List.set_cons_succ]
  intro w3 hC3 ⟨hb3, hn3, hown3⟩
  have d0 := cell_of_block hn3 0
  have d1 := cell_of_block hn3 1
  simp at d0 d1
  go_wp2
  exact bodyPost_ret (by simp [results, Try.results49, go_sem, *]; try rfl) rfl ⟨_, rfl, hown3.mono (Nat.le_succ _), hb3⟩

end Go.Proofs.Yteimcbhnjhkkbaa
