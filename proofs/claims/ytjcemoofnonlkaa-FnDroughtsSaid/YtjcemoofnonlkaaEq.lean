/- Equal parts: the contracts. -/
import Derived.Test.YtjcemoofnonlkaaEqM
import Derived.Test.YtjcemoofnonlkaaFirst
import Derived.Laws.AppendOwnNone
namespace Go.Proofs.Ytjcemoofnonlkaa
set_option linter.unusedSimpArgs false
set_option linter.unusedVariables false
open Go.RowKit

/-- 'append(out, l...)', out the call's own, l whatever slice. -/
theorem appendAll {ops : Array Oper} {rest : List Oper} {o : Oper} {a : Act} {Q : Exit → Act → World → Prop} {w : World} (hgd : o.guard = none) (s x : Operand)
    (ho : o.op = .call { callee := .builtin .append, args := #[s, x], argTypes := #[25, 25] })
    (base : Nat) (v : Value) (xs ys : List Int) (ad : Option Addr) (cap : Nat) (hown : OwnsI base w v xs) (hr : Rd w ad ys) (hs : a.eval s = v) (hx : a.eval x = .slice ad ys.length cap) (hy : ys ≠ [])
    (hn : xs.length + ys.length ≤ 100000000) (hb : base ≤ w.heap.size)
    (h : ∀ v' w', OwnsI base w' v' (xs ++ ys) → Below base w w' → wpList Try.prog ops Q rest (a.put o.dst v') w') :
    wpList Try.prog ops Q (o :: rest) a w := by
  obtain ⟨i0, hi, hz0, hz1, hz2⟩ := info_parts infoInt
  have hl : 0 < ys.length := List.length_pos_iff.2 hy
  obtain ⟨b, off, rfl, _⟩ := hr 0 hl
  have ht := Try.underlying25
  refine wpList_append_own _ hgd s x 25 ho base 3 i0 (.int .i64 0) 1 8 ht hi hz0 hz1 hz2 rfl (by decide) v xs.length (xs.map (Value.int .i64)) hs hown ⟨b, off, none⟩ ys.length cap (ys.map (Value.int .i64)) hx (by simp) ?_ ?_ ?_ ?_ ?_ ?_
  · intro j u hj
    have hjl : j < ys.length := by
      have := (List.getElem?_eq_some_iff.1 hj).1; simpa using this
    obtain ⟨b', off', e1, hc⟩ := hr j hjl
    cases e1
    have hu : u = .int .i64 (ys.getD j 0) := by
      simp [hjl] at hj; rw [← hj]; simp [List.getD_eq_getElem?_getD, hjl]
    subst hu
    rw [← hc]
    by_cases h0 : j = 0
    · subst h0; simp [Addr.add]
    · simp [Addr.add, h0]
  · intro u hu; simp at hu; obtain ⟨y, _, rfl⟩ := hu; rfl
  · unfold maxLen; omega
  · omega
  · exact hb
  · intro v' w' h1 h2 _
    refine h v' w' ?_ ?_
    · unfold OwnsI; simpa using h1
    · exact (Below.refl base w).grown h2 hb (fun k hk => (OwnsI.lt hown k hk).1)

theorem copyInts_any (a : Option Addr) (cap : Nat) (xs : List Int) (w : World) (hc : Rd w a xs) (hn : xs.length ≤ 1048576) (hx : xs ≠ []) :
    Calls Try.prog 55 #[.slice a xs.length cap] w fun e w' => GivesI xs w e w' := by
  go_enter Try.func55, Try.ntmps55
  go_wp2_with (at_builtin; refine appendAll rfl _ _ rfl w.heap.size (.slice none 0 0) [] xs a cap (OwnsI.nil _ _) hc rfl rfl hx (by simp; omega) (Nat.le_refl _) ?_; intro v1 w1 hown1 hbel1)
  go_ret
  exact ⟨_, rfl, by simpa using hown1, hbel1⟩

theorem filled_any (h : Int) (B cap : Nat) (a : Option Addr) (xs : List Int) (w : World) (hB : w.cell? ⟨B, 0, none⟩ = some (.slice a xs.length cap)) (hc : Rd w a xs) (hn : xs.length ≤ 1048576) (h0 : 0 ≤ h) (h1 : h ≤ 1000000) (hb : ∀ x ∈ xs, 0 ≤ x ∧ x ≤ 80000) :
    Calls Try.prog 56 #[.int .i64 h, .pointer (some ⟨B, 0, none⟩)] w fun e w' => e = .returned (.int .i64 (under xs h)) ∧ w = w' := by
  have HB := hide hb
  clear hb
  go_enter Try.func56, Try.ntmps56
  go_wp2
  go_loop [4, 9] (fun s i => ∃ k : Nat, k ≤ xs.length ∧ i = .int .i64 k ∧ s = .int .i64 (under (xs.take k) h)) (fun s i => xs.length - (intOf i).toNat)
  case atStart => exact ⟨0, Nat.zero_le _, rfl, rfl⟩
  case round =>
    obtain ⟨k, hk, rfl, rfl⟩ := hrel
    have hs := under_bound (xs.take k) h 80000 h0 (by omega) (fun x hx => HB.out x (List.mem_of_mem_take hx))
    have hl : (xs.take k).length ≤ k := List.length_take_le _ _
    by_cases hlt : k < xs.length
    · obtain ⟨b, off, rfl, hcell⟩ := hc k hlt
      have hx := HB.out (xs.getD k 0) (getD_mem' hlt)
      have ht := under_take xs h k hlt
      have HT := hide ht
      clear ht
      generalize xs.getD k 0 = x at *
      go_wp2
      go_round
      case rel => exact ⟨k + 1, by omega, by go_num, by rw [HT.out]; first | rfl | (congr 1; omega)⟩
      case measure => simp [intOf]; omega
    · go_wp2
      go_ret
      exact ⟨ret_int (by rw [List.take_of_length_le (by omega)]), rfl⟩

theorem enough_any (h water : Int) (B B1 B2 cap : Nat) (a : Option Addr) (xs : List Int) (w : World) (hB : w.cell? ⟨B, 0, none⟩ = some (.slice a xs.length cap)) (hc : Rd w a xs) (hn : xs.length ≤ 1048576) (h0 : 0 ≤ h) (h1 : h ≤ 1000000) (hb : ∀ x ∈ xs, 0 ≤ x ∧ x ≤ 80000)
    (hB1 : w.cell? ⟨B1, 0, none⟩ = some (.int .i64 water)) (hB2 : w.cell? ⟨B2, 0, none⟩ = some (.func (.func 56) #[] #[.pointer (some ⟨B, 0, none⟩)])) :
    Calls Try.prog 58 #[.int .i64 h, .pointer (some ⟨B2, 0, none⟩), .pointer (some ⟨B1, 0, none⟩)] w fun e w' => Rets w (.bool (decide (water < under xs h))) e w' := by
  have HB := hide hb
  clear hb
  have l0 : B < w.heap.size := World.block_lt_of_cell? w _ hB
  have l1 : B1 < w.heap.size := World.block_lt_of_cell? w _ hB1
  have l2 : B2 < w.heap.size := World.block_lt_of_cell? w _ hB2
  go_enter Try.func58, Try.ntmps58
  go_wp2
  (refine wp_region_g [0, 1, 2, 3, 4, 5] [] (by kernel_rfl) (by kernel_rfl) ?_; simp only [pick, List.map_cons, List.map_nil, Array.getD_eq_getD_getElem?, List.getElem?_toArray, List.getElem?_cons_zero, List.getElem?_cons_succ, Option.getD_some]; (iterate 6 (refine wpG_step (fun K hK => ?_); go_simp; first | (refine hK _ ?_; clear hK K) | (apply Exists.intro; refine ⟨fun _ => ?_, hK _ ?_⟩; ((go_at_call 56; exact same_g (filled_any h B cap a xs _ ((cell_grew _ _ _ _ l0).trans hB) (hc.below (below_grew _ _)) hn h0 h1 HB.out))); clear hK K))); refine wpG_nil ?_)
  (refine wpT_end ?_; intro w2 hbr _; obtain ⟨hcb, hfb⟩ := bcell hbr; have hzr := hbr.size; (try simp at hzr); (try (refine ltk (a := w.heap.size) (b := w2.heap.size) ?_ ?_; (focus omega); intro _ _)); (try (refine ltk (a := w.heap.size + 1) (b := w2.heap.size) ?_ ?_; (focus omega); intro _ _)); (try (refine ltk (a := w.heap.size + 2) (b := w2.heap.size) ?_ ?_; (focus omega); intro _ _)); (try (refine ltk (a := w.heap.size + 3) (b := w2.heap.size) ?_ ?_; (focus omega); intro _ _)))
  go_wp2
  go_ret
  exact ⟨rfl, (by repeat first | exact Below.refl _ _ | assumption | (refine belA ?_) | (refine belD ?_) | (refine belN ?_) | (refine belS ?_ (by simp <;> omega)) | (refine belT ?_ (by assumption)))⟩

/-- What the search comes to: r is in the range or one past it; r is enough; one below is not. -/
theorem least_any (lo hi : Int) (c1 c2 : Value) (p : Int → Bool) (w : World) (h0 : 0 ≤ lo) (h1 : lo ≤ hi) (h2 : hi ≤ 1000000)
    (hcl : ∀ (W : World) (m : Int), Below w.heap.size w W → lo ≤ m → m ≤ hi → Calls Try.prog 58 #[.int .i64 m, c1, c2] W fun e w' => Rets W (.bool (p m)) e w') :
    Calls Try.prog 57 #[.int .i64 lo, .int .i64 hi, .func (.func 58) #[] #[c1, c2]] w fun e w' => ∃ r, lo ≤ r ∧ r ≤ hi + 1 ∧ (r = lo ∨ p (r - 1) = false) ∧ (r = hi + 1 ∨ p r = true) ∧ Rets w (.int .i64 r) e w' := by
  have HC := hide hcl
  clear hcl
  go_enter Try.func57, Try.ntmps57
  go_wp2
  go_loopw [0, 1] (fun x y wr => ∃ l h : Int, lo ≤ l ∧ l ≤ h ∧ h ≤ hi + 1 ∧ x = .int .i64 l ∧ y = .int .i64 h ∧ (l = lo ∨ p (l - 1) = false) ∧ (h = hi + 1 ∨ p h = true) ∧ Below w.heap.size w wr) (fun x y _ => (intOf y - intOf x).toNat)
  case atStart => exact ⟨lo, hi + 1, Int.le_refl _, by omega, Int.le_refl _, rfl, rfl, .inl rfl, .inl rfl, Below.refl _ _⟩
  case round =>
    obtain ⟨l, h, hl, hlh, hh, rfl, rfl, hp, hq, hbel⟩ := hrel
    have HP := hide hp
    have HQ := hide hq
    clear hp hq
    by_cases hlt : l < h
    · have hm1 : l ≤ (l + h) / 2 := by omega
      have hm2 : (l + h) / 2 < h := by omega
      have hcc := hide (HC.out wr ((l + h) / 2) hbel (by omega) (by omega))
      have HE := hide (show ∃ m, m = (l + h) / 2 from ⟨_, rfl⟩)
      go_wp2_with (go_at_call 58; refine hcc.out.mono ?_; rintro e w2 ⟨rfl, hb2⟩)
      · have hpm : p ((l + h) / 2) = true := by assumption
        go_roundw
        case rel => exact ⟨l, (l + h) / 2, hl, by omega, by omega, rfl, rfl, HP.out, .inr hpm, (by repeat first | exact Below.refl _ _ | assumption | (refine belA ?_) | (refine belD ?_) | (refine belN ?_) | (refine belS ?_ (by simp <;> omega)) | (refine belT ?_ (by assumption)))⟩
        case measure => simp [intOf]; omega
      · have hpm : p ((l + h) / 2) = false := by simp_all
        go_roundw
        case rel => exact ⟨(l + h) / 2 + 1, h, by omega, by omega, by omega, rfl, rfl, .inr (by rw [Int.add_sub_cancel]; exact hpm), HQ.out, (by repeat first | exact Below.refl _ _ | assumption | (refine belA ?_) | (refine belD ?_) | (refine belN ?_) | (refine belS ?_ (by simp <;> omega)) | (refine belT ?_ (by assumption)))⟩
        case measure => simp [intOf]; omega
    · go_wp2
      go_ret
      have : h = l := by omega
      subst this
      exact ⟨h, by omega, by omega, HP.out, HQ.out, rfl, hbel⟩

end Go.Proofs.Ytjcemoofnonlkaa
