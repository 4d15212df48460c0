/- Slices of structs of three ints that a call makes itself: appended to, handed back, marked, held. -/
import Derived.Test.YtjcoajaoofjjmaaT3
import Derived.Test.YtjcoajaoofjjmaaReg3
namespace Go.Proofs.Ytjcoajaoofjjmaa
set_option linter.unusedSimpArgs false
set_option linter.unusedVariables false
open Go.RowKit

/-- v is a slice of the structs ts that the call itself made (its blocks from base on). -/
def OwnsT (T : TypeId) (base : Nat) (w : World) (v : Value) (ts : List T3) : Prop := w.ownsRow base T 3 v ts.length ((flat ts).map (Value.int .i64))

theorem OwnsT.nil (T : TypeId) (base : Nat) (w : World) : OwnsT T base w (.slice none 0 0) [] := World.ownsRow_nil w base _ 3
theorem OwnsT.empty (T : TypeId) (base : Nat) (w : World) (h : base ≤ w.heap.size) : OwnsT T base (w.alloc (.cells #[] T)) (.slice (some ⟨w.heap.size, 0, none⟩) 0 0) [] :=
  World.ownsRow_made w #[] 0 h (by unfold maxLen; omega) rfl
theorem OwnsT.below {T : TypeId} {base : Nat} {w w' : World} {v : Value} {xs : List T3} (h : OwnsT T base w v xs) (hb : Below w.heap.size w w') : OwnsT T base w' v xs :=
  World.ownsRow.kept h (row := none) ⟨hb.os, hb.tape, hb.output, hb.size, fun k hk _ => hb.block k hk⟩ (by
    cases hv : v.ownBlock with
    | none => exact .inl rfl
    | some k => exact .inr (by simp))
theorem OwnsT.mono {T : TypeId} {base base' : Nat} {w : World} {v : Value} {xs : List T3} (h : OwnsT T base w v xs) (hb : base' ≤ base) : OwnsT T base' w v xs := by
  obtain ⟨h1, h2⟩ := h
  refine ⟨h1, h2.imp id ?_⟩
  rintro ⟨g, cap, cur, hv, hg, r⟩
  exact ⟨g, cap, cur, hv, by omega, r⟩
theorem OwnsT.cases {T : TypeId} {base : Nat} {w : World} {v : Value} {xs : List T3} (h : OwnsT T base w v xs) :
    (v = .slice none 0 0 ∧ xs = []) ∨ ∃ g cap, v = .slice (some ⟨g, 0, none⟩) xs.length cap ∧ base ≤ g ∧ OwnP w g T (flat xs) := by
  obtain ⟨h1, h2⟩ := h
  rcases h2 with ⟨hv, hn⟩ | ⟨g, cap, cur, hv, hg, hh, hnc, hm, hcs, ht⟩
  · exact .inl ⟨hv, List.length_eq_zero_iff.1 hn⟩
  · exact .inr ⟨g, cap, hv, hg, cur.toList, by simpa using hh, by rw [flat_length]; exact ht⟩
theorem OwnsT.slice {T : TypeId} {base : Nat} {w : World} {v : Value} {xs : List T3} (h : OwnsT T base w v xs) : ∃ a cap, v = .slice a xs.length cap ∧ Rd3 w a xs := by
  rcases h.cases with ⟨hv, hx⟩ | ⟨g, cap, hv, _, ho⟩
  · subst hx; exact ⟨none, 0, hv, fun j hj => by simp at hj⟩
  · exact ⟨_, cap, hv, ho.rd3⟩
theorem OwnsT.lt {T : TypeId} {base : Nat} {w : World} {v : Value} {xs : List T3} (h : OwnsT T base w v xs) (k : Nat) (hk : v.ownBlock = some k) : base ≤ k ∧ k < w.heap.size := World.ownsRow.lt h k hk

/-- v is a slice of the structs ts, at the head of a block of the call's own (or nil). -/
def HoldsT (T : TypeId) (base : Nat) (w : World) (v : Value) (ts : List T3) : Prop :=
  (v = .slice none 0 0 ∧ ts = []) ∨ ∃ g cap, v = .slice (some ⟨g, 0, none⟩) ts.length cap ∧ base ≤ g ∧ OwnP w g T (flat ts)
theorem HoldsT.below {T : TypeId} {base : Nat} {w w' : World} {v : Value} {ts : List T3} (h : HoldsT T base w v ts) (hb : Below w.heap.size w w') : HoldsT T base w' v ts := by
  rcases h with h | ⟨g, cap, hv, hg, ho⟩
  · exact .inl h
  · exact .inr ⟨g, cap, hv, hg, ho.below hb⟩
theorem HoldsT.mono {T : TypeId} {base base' : Nat} {w : World} {v : Value} {ts : List T3} (h : HoldsT T base w v ts) (hb : base' ≤ base) : HoldsT T base' w v ts := by
  rcases h with h | ⟨g, cap, hv, hg, ho⟩
  · exact .inl h
  · exact .inr ⟨g, cap, hv, by omega, ho⟩
theorem HoldsT.slice {T : TypeId} {base : Nat} {w : World} {v : Value} {ts : List T3} (h : HoldsT T base w v ts) : ∃ a cap, v = .slice a ts.length cap ∧ Rd3 w a ts ∧ (∀ x, a = some x → base ≤ x.block ∧ x.block < w.heap.size) := by
  rcases h with ⟨hv, hx⟩ | ⟨g, cap, hv, hg, ho⟩
  · subst hx; exact ⟨none, 0, hv, fun j hj => (by simp at hj), fun x hx => by cases hx⟩
  · exact ⟨_, cap, hv, ho.rd3, fun x hx => by cases hx; exact ⟨hg, ho.lt⟩⟩

/-- The call hands back a slice of the structs ts that it made itself, and a bool. -/
def GivesT (T : TypeId) (ts : List T3) (ok : Bool) (w : World) (e : Ending) (w' : World) : Prop := ∃ v, e = .returned (.tuple #[v, .bool ok]) ∧ HoldsT T w.heap.size w' v ts ∧ Below w.heap.size w w'

theorem rd3_get {w : World} {ad : Addr} {ts : List T3} (h : Rd3 w (some ad) ts) (j : Nat) (u : Value) (hj : ((flat ts).map (Value.int .i64))[j]? = some u) : w.cell? (ad.add j) = some u := by
  have hjl : j < ts.length * 3 := by have := (List.getElem?_eq_some_iff.1 hj).1; simpa [flat_length] using this
  have hu : u = .int .i64 ((flat ts).getD j 0) := by
    have hjf : j < (flat ts).length := by rw [flat_length]; exact hjl
    simp [hjf] at hj; rw [← hj]; simp [List.getD_eq_getElem?_getD, hjf]
  subst hu
  obtain ⟨b, off, e, h0, h1, h2⟩ := h (j / 3) (by omega)
  cases e
  have e3 : j = j / 3 * 3 ∨ j = j / 3 * 3 + 1 ∨ j = j / 3 * 3 + 2 := by omega
  have ea : (⟨b, off, none⟩ : Addr).add j = ⟨b, off + j, none⟩ := by simp only [Addr.add]; split <;> simp_all
  rw [ea]
  generalize j / 3 = q at *
  rcases e3 with rfl | rfl | rfl
  · rw [flat_get0]; exact h0
  · rw [flat_get1]; exact h1
  · rw [flat_get2]; exact h2

theorem infRight : ∃ z : Value, (Try.prog.info? 56).map (fun i => (i.zero, i.size, i.bytes)) = some (some z, 3, 24) ∧ z.cells.size = 3 := by
  first
    | exact ⟨.agg #[.int .i64 0, .int .i64 0, .int .i64 0], by kernel_rfl, rfl⟩
    | exact ⟨.agg #[.int .i64 0, .agg #[.int .i64 0, .int .i64 0]], by kernel_rfl, rfl⟩

/-- 'append(out, l...)', out the call's own. -/
theorem appendRightsN {ops : Array Oper} {rest : List Oper} {o : Oper} {a : Act} {Q : Exit → Act → World → Prop} {w : World} (hgd : o.guard = none) (s x : Operand)
    (ho : o.op = .call { callee := .builtin .append, args := #[s, x], argTypes := #[28, 28] })
    (base : Nat) (v : Value) (xs ys : List T3) (ad : Addr) (cap : Nat) (hown : OwnsT 56 base w v xs) (hr : Rd3 w (some ad) ys) (hs : a.eval s = v) (hx : a.eval x = .slice (some ad) ys.length cap)
    (hn : xs.length + ys.length ≤ 100000000) (hb : base ≤ w.heap.size)
    (h : ∀ v' w', OwnsT 56 base w' v' (xs ++ ys) → Below base w w' → (v' = .slice none 0 0 → v = .slice none 0 0 ∧ ys.length = 0) → wpList Try.prog ops Q rest (a.put o.dst v') w') :
    wpList Try.prog ops Q (o :: rest) a w := by
  obtain ⟨z, hinf, hzc⟩ := infRight
  obtain ⟨i0, hi, hz0, hz1, hz2⟩ := info_parts hinf
  have ht := Try.underlying28
  refine wpList_append_own _ hgd s x 28 ho base 56 i0 z 3 24 ht hi hz0 hz1 hz2 hzc (by decide) v xs.length ((flat xs).map (Value.int .i64)) hs hown ad ys.length cap ((flat ys).map (Value.int .i64)) hx (by simp [flat_length]) ?_ ?_ ?_ ?_ ?_ ?_
  · intro j u hj; exact rd3_get hr j u hj
  · intro u hu; simp at hu; obtain ⟨y, _, rfl⟩ := hu; rfl
  · unfold maxLen; omega
  · omega
  · exact hb
  · intro v' w' h1 h2 h3
    refine h v' w' ?_ ?_ h3.1
    · unfold OwnsT; rw [flat_append]; simpa using h1
    · exact (Below.refl base w).grown h2 hb (fun k hk => (OwnsT.lt hown k hk).1)

/-- 'append(out, l...)', out the call's own. -/
theorem appendRights {ops : Array Oper} {rest : List Oper} {o : Oper} {a : Act} {Q : Exit → Act → World → Prop} {w : World} (hgd : o.guard = none) (s x : Operand)
    (ho : o.op = .call { callee := .builtin .append, args := #[s, x], argTypes := #[28, 28] })
    (base : Nat) (v : Value) (xs ys : List T3) (ad : Addr) (cap : Nat) (hown : OwnsT 56 base w v xs) (hr : Rd3 w (some ad) ys) (hs : a.eval s = v) (hx : a.eval x = .slice (some ad) ys.length cap)
    (hn : xs.length + ys.length ≤ 100000000) (hb : base ≤ w.heap.size)
    (h : ∀ v' w', OwnsT 56 base w' v' (xs ++ ys) → Below base w w' → wpList Try.prog ops Q rest (a.put o.dst v') w') :
    wpList Try.prog ops Q (o :: rest) a w :=
  appendRightsN hgd s x ho base v xs ys ad cap hown hr hs hx hn hb fun v' w' h1 h2 _ => h v' w' h1 h2

/-- 'append(out, x)'. -/
theorem appendRight1N {ops : Array Oper} {rest : List Oper} {o : Oper} {a : Act} {Q : Exit → Act → World → Prop} {w : World} (hgd : o.guard = none) (s x : Operand)
    (ho : o.op = .call { callee := .builtin .append, args := #[s, x], argTypes := #[28, 28] })
    (base : Nat) (v : Value) (xs : List T3) (p q r : Int) (hown : OwnsT 56 base w v xs) (hs : a.eval s = v) (hx : a.eval x = .slice (some ⟨w.heap.size, 0, none⟩) 1 1)
    (hn : xs.length ≤ 10000000) (hb : base ≤ w.heap.size)
    (h : ∀ v' w', OwnsT 56 base w' v' (xs ++ [(p, q, r)]) → Below base w w' → v' ≠ .slice none 0 0 → wpList Try.prog ops Q rest (a.put o.dst v') w') :
    wpList Try.prog ops Q (o :: rest) a (w.alloc (.cells #[.int .i64 p, .int .i64 q, .int .i64 r] 56)) := by
  have hal : Below w.heap.size w (w.alloc (.cells #[.int .i64 p, .int .i64 q, .int .i64 r] 56)) := (Below.refl _ _).alloc (Nat.le_refl _) _
  have hbk : (w.alloc (.cells #[.int .i64 p, .int .i64 q, .int .i64 r] 56)).heap[w.heap.size]? = some (.cells #[.int .i64 p, .int .i64 q, .int .i64 r] 56 (0, 0)) := by
    show (w.heap.push _)[w.heap.size]? = _
    simp
  refine appendRightsN hgd s x ho base v xs [(p, q, r)] ⟨w.heap.size, 0, none⟩ 1 (hown.below hal) ?_ hs (by simpa using hx) (by simp; omega) (Nat.le_trans hb hal.size) ?_
  · intro j hj
    have hj0 : j = 0 := by simp at hj; exact hj
    subst hj0
    exact ⟨_, 0, rfl, by rw [cell_of_block hbk]; rfl, by rw [cell_of_block hbk]; rfl, by rw [cell_of_block hbk]; rfl⟩
  · intro v' w' h1 h2 h3
    exact h v' w' h1 ((hal.mono hb).trans h2) (fun e => by have := (h3 e).2; simp at this)
/-- 'append(out, x)'. -/
theorem appendRight1 {ops : Array Oper} {rest : List Oper} {o : Oper} {a : Act} {Q : Exit → Act → World → Prop} {w : World} (hgd : o.guard = none) (s x : Operand)
    (ho : o.op = .call { callee := .builtin .append, args := #[s, x], argTypes := #[28, 28] })
    (base : Nat) (v : Value) (xs : List T3) (p q r : Int) (hown : OwnsT 56 base w v xs) (hs : a.eval s = v) (hx : a.eval x = .slice (some ⟨w.heap.size, 0, none⟩) 1 1)
    (hn : xs.length ≤ 10000000) (hb : base ≤ w.heap.size)
    (h : ∀ v' w', OwnsT 56 base w' v' (xs ++ [(p, q, r)]) → Below base w w' → wpList Try.prog ops Q rest (a.put o.dst v') w') :
    wpList Try.prog ops Q (o :: rest) a (w.alloc (.cells #[.int .i64 p, .int .i64 q, .int .i64 r] 56)) :=
  appendRight1N hgd s x ho base v xs p q r hown hs hx hn hb fun v' w' h1 h2 _ => h v' w' h1 h2
theorem markRightS_nil (k0 : Int) (w : World) (cap : Nat) (a : Option Addr) :
    Calls Try.prog 34 #[.slice a 0 cap, .int .i64 k0] w fun e w' => e = .returned (.int .i64 k0) ∧ w = w' := by
  go_enter Try.func34, Try.ntmps34
  go_wp2
  refine wp_loop_rounds 1 ?_
  rw [rounds_succ]
  go_wp2
  go_ret
  exact ⟨rfl, rfl⟩

theorem markRightS_any (g cap n : Nat) (T : TypeId) (xs : List Int) (k0 : Int) (w : World) (ho : OwnP w g T xs) (hx : xs.length = n * 3) (hn : n ≤ 1048576) (h0 : 0 ≤ k0) (h1 : k0 ≤ 10000000) :
    Calls Try.prog 34 #[.slice (some ⟨g, 0, none⟩) n cap, .int .i64 k0] w fun e w' => e = .returned (.int .i64 (k0 + (n * 3 : Nat))) ∧ OwnP w' g T (fromI k0 (n * 3)) ∧ w.grownBy w' (some g) := by
  have HX := hide hx
  clear hx
  go_enter Try.func34, Try.ntmps34
  go_wp2
  go_loopw [1, 5] (fun q i wr => ∃ k : Nat, k ≤ n ∧ i = .int .i64 k ∧ q = .int .i64 (k0 + (k * 3 : Nat)) ∧ OwnP wr g T (fromI k0 (k * 3) ++ xs.drop (k * 3)) ∧ w.grownBy wr (some g)) (fun q i _ => n - (intOf i).toNat)
  case atStart => exact ⟨0, Nat.zero_le _, rfl, by simp, by simpa [fromI] using ho, grownBy_refl _ _⟩
  case round =>
    obtain ⟨k, hk, rfl, rfl, hown, hgr⟩ := hrel
    by_cases hlt : k < n
    · have hxl := HX.out
      have hl : (fromI k0 (k * 3) ++ xs.drop (k * 3)).length = n * 3 := by simp [fromI_length]; omega
      have s1 := hown.set (k * 3) (k0 + (k * 3 : Nat))
      rw [mark_step xs k0 (k * 3) (by omega)] at s1
      have s2 := s1.set (k * 3 + 1) (k0 + (k * 3 + 1 : Nat))
      rw [mark_step xs k0 (k * 3 + 1) (by omega)] at s2
      have s3 := s2.set (k * 3 + 1 + 1) (k0 + (k * 3 + 1 + 1 : Nat))
      rw [mark_step xs k0 (k * 3 + 1 + 1) (by omega)] at s3
      have c1 := hown.cell (k * 3) (by omega)
      have c2 := hown.cell (k * 3 + 1) (by omega)
      have c3 := hown.cell (k * 3 + 2) (by omega)
      have f1 := hown.frozen (k * 3)
      have f2 := hown.frozen (k * 3 + 1)
      have f3 := hown.frozen (k * 3 + 2)
      have e1 : k0 + ((k * 3 + 1 : Nat) : Int) = k0 + ((k * 3 : Nat) : Int) + 1 := by omega
      have e2 : k0 + ((k * 3 + 1 + 1 : Nat) : Int) = k0 + ((k * 3 : Nat) : Int) + 1 + 1 := by omega
      rw [e1, e2] at s3
      have S3 := hide (And.intro s3 (show k0 + ((k * 3 : Nat) : Int) + 1 + 1 + 1 = k0 + (((k + 1) * 3 : Nat) : Int) by omega))
      have kb : 0 ≤ k0 + ((k * 3 : Nat) : Int) := by omega
      have kb' : k0 + ((k * 3 : Nat) : Int) ≤ 100000000 := by omega
      clear s1 s2 s3 e1 e2 hl hxl hown
      generalize List.getD _ (k * 3) 0 = y1 at c1
      generalize List.getD _ (k * 3 + 1) 0 = y2 at c2
      generalize List.getD _ (k * 3 + 2) 0 = y3 at c3
      generalize k0 + ((k * 3 : Nat) : Int) = kk at *
      go_wp2
      go_roundw
      case rel => exact ⟨k + 1, by omega, by go_num, by rw [← S3.out.2], by rw [show (k + 1) * 3 = k * 3 + 1 + 1 + 1 by omega]; exact S3.out.1, grownBy_trans hgr (grownBy_trans (grownBy_trans (grownBy_set _ _ _ _) (grownBy_set _ _ _ _)) (grownBy_set _ _ _ _))⟩
      case measure => simp [intOf]; omega
    · have hkk : k = n := by omega
      subst hkk
      have hxl := HX.out
      clear HX
      go_wp2
      go_ret
      exact ⟨rfl, by rw [List.drop_of_length_le (by omega), List.append_nil] at hown; exact hown, hgr⟩
theorem heldRightS_any (a : Option Addr) (cap n : Nat) (k0 : Int) (w : World) (hc : Rd w a (fromI k0 (n * 3))) (hn : n ≤ 1048576) (h0 : 0 ≤ k0) (h1 : k0 ≤ 10000000) :
    Calls Try.prog 42 #[.slice a n cap, .int .i64 k0] w fun e w' => e = .returned (.int .i64 (k0 + (n * 3 : Nat))) ∧ w = w' := by
  go_enter Try.func42, Try.ntmps42
  go_wp2
  go_loop [1, 5] (fun q i => ∃ k : Nat, k ≤ n ∧ i = .int .i64 k ∧ q = .int .i64 (k0 + (k * 3 : Nat))) (fun q i => n - (intOf i).toNat)
  case atStart => exact ⟨0, Nat.zero_le _, rfl, by simp⟩
  case round =>
    obtain ⟨k, hk, rfl, rfl⟩ := hrel
    by_cases hlt : k < n
    · obtain ⟨b, off, rfl, c1⟩ := hc (k * 3) (by rw [fromI_length]; omega)
      obtain ⟨b', off', e', c2⟩ := hc (k * 3 + 1) (by rw [fromI_length]; omega)
      cases e'
      obtain ⟨b', off', e', c3⟩ := hc (k * 3 + 2) (by rw [fromI_length]; omega)
      cases e'
      rw [fromI_getD _ _ _ (by omega)] at c1 c2 c3
      have e1 : k0 + ((k * 3 + 1 : Nat) : Int) = k0 + ((k * 3 : Nat) : Int) + 1 := by omega
      have e2 : k0 + ((k * 3 + 2 : Nat) : Int) = k0 + ((k * 3 : Nat) : Int) + 1 + 1 := by omega
      rw [e1] at c2
      rw [e2] at c3
      rw [← Nat.add_assoc] at c2 c3
      have S3 := hide (show k0 + ((k * 3 : Nat) : Int) + 1 + 1 + 1 = k0 + (((k + 1) * 3 : Nat) : Int) by omega)
      have kb : 0 ≤ k0 + ((k * 3 : Nat) : Int) := by omega
      have kb' : k0 + ((k * 3 : Nat) : Int) ≤ 100000000 := by omega
      clear e1 e2
      generalize k0 + ((k * 3 : Nat) : Int) = kk at *
      go_wp2
      go_round
      case rel => exact ⟨k + 1, by omega, by go_num, by rw [← S3.out]⟩
      case measure => simp [intOf]; omega
    · have hkk : k = n := by omega
      subst hkk
      go_wp2
      go_ret
      exact ⟨rfl, rfl⟩

/-- What is known of the block that is written to. -/
def OwnG (w0 : World) (B g : Nat) (T : TypeId) (xs : List Int) (w : World) : Prop := Below B w0 w ∧ OwnP w g T xs
theorem up_ownG {w0 : World} {B : Nat} (hB : B ≤ w0.heap.size) (g : Nat) (T : TypeId) (xs : List Int) : Up (OwnG w0 B g T xs) :=
  fun w w' h hb => ⟨h.1.trans (hb.mono (Nat.le_trans hB h.1.size)), h.2.below hb⟩

/-- The tail of a drawn region: a number is stored into a block of the call's own. -/
theorem wpT_set {P : Program} {ops : Array Oper} {w0 : World} {B g j : Nat} {T : TypeId} {xs : List Int} {x : Int} {Q : Act → (World → Prop) → Prop} {a : Act} {o : Oper} {rest : List Oper}
    (hB : B ≤ w0.heap.size) (hg : B ≤ g) (hgd : o.guard = none)
    (hrun : ∀ w, OwnP w g T xs → (execOp a.eval o).run P w = .ok .skip (w.setCell ⟨g, j, none⟩ (.int .i64 x)))
    (h : wpT P ops (InB w0 B) Q rest (a.put o.dst undef) (OwnG w0 B g T (xs.set j x))) : wpT P ops (InB w0 B) Q (o :: rest) a (OwnG w0 B g T xs) := by
  refine wpT_step fun K hK => ?_
  rw [if_pos (by simp [Region.wanted, hgd])]
  refine ⟨fun v => v = undef, fun _ w => OwnG w0 B g T (xs.set j x) w, fun _ _ => up_ownG hB _ _ _, fun w hC hF => ?_, fun v hv => by subst hv; exact hK _ _ h⟩
  unfold mAt
  rw [hrun w hF.2]
  have hst : Below B w (w.setCell ⟨g, j, none⟩ (.int .i64 x)) := (Below.refl B w).setCell (p := ⟨g, j, none⟩) hg _
  exact ⟨rfl, inB_step hB hC hst, hF.1.trans hst, hF.2.set j x⟩

end Go.Proofs.Ytjcoajaoofjjmaa
