/- The law BladeParts: the walk. -/
import Derived.Test.YthhiadnjndnjoaaMakes
namespace Go.Proofs.Ythhiadnjndnjoaa
open Go.RowKit
set_option linter.unusedVariables false
set_option linter.unusedSimpArgs false

theorem B.cut_part_eq (l r n a : Int) (h0 : 0 ≤ a) (h1 : a ≤ 10000000000) (h : r + a < l) : B.cut ⟨l, 2, r, n⟩ a = (⟨l, 2, r + a, n + a⟩, a, 0) := by
  have e : ¬ (a < 0 ∨ 10000000000 < a) := by omega
  simp only [B.cut, if_true, if_neg e, if_pos h]
theorem B.cut_full_eq (l r n a : Int) (h0 : 0 ≤ a) (h1 : a ≤ 10000000000) (h : l ≤ r + a) : B.cut ⟨l, 2, r, n⟩ a = (⟨l, 4, l, n + (l - r)⟩, l - r, 0) := by
  have e : ¬ (a < 0 ∨ 10000000000 < a) := by omega
  have h' : ¬ r + a < l := by omega
  simp only [B.cut, if_true, if_neg e, if_neg h']

theorem parts_bad (l x y : Int) (w : World) (hb : l < 1 ∨ 1000000000000 < l) :
    Calls Try.prog 4 #[.int .i64 l, .agg #[.int .i64 x, .int .i64 y]] w fun e w' => e = .returned (.bool true) ∧ Below w.heap.size w w' := by
  go_enter Try.func4, Try.ntmps4
  go_wp2_with fail
  refine (new_bad l _ hb).mono ?_
  rintro e w' ⟨rfl, rfl⟩
  go_wp2_with fail
  refine (new_bad l _ hb).mono ?_
  rintro e w' ⟨rfl, rfl⟩
  go_wp2_with fail
  go_quiet (fail)
  go_wp2_with fail
  refine (awake_c _).mono ?_
  rintro e w5 ⟨rfl, m5⟩
  go_wp2_with fail
  go_ret
  exact ⟨rfl, ((((Mod.refl _ _).alloc _).drewN _).trans m5).toBelow _ (Nat.le_refl _) (fun _ _ h => h)⟩

theorem parts_out (l x y : Int) (w : World) (h1 : 1 ≤ l) (h2 : l ≤ 1000000000000) (h : x < 0 ∨ (0 ≤ x ∧ y < 0) ∨ (0 ≤ x ∧ 0 ≤ y ∧ 5000000000 < x) ∨ (0 ≤ x ∧ 0 ≤ y ∧ x ≤ 5000000000 ∧ 5000000000 < y)) :
    Calls Try.prog 4 #[.int .i64 l, .agg #[.int .i64 x, .int .i64 y]] w fun e w' => e = .returned (.bool true) ∧ Below w.heap.size w w' := by
  rcases h with h | h | h | h
  all_goals
    try obtain ⟨g1, h⟩ := h
    try obtain ⟨g2, h⟩ := h
    try obtain ⟨g3, h⟩ := h
    go_enter Try.func4, Try.ntmps4
    go_wp2_with fail
    refine (new_c l _ h1 h2).mono ?_
    rintro e w1 ⟨b, rfl, hb1, hB1, m1⟩
    have q0 := m1.size
    have q1 : w1.cell? ⟨w.heap.size, 0, none⟩ = some (.int .i64 x) := (At.mod (At.new w (.cells #[.int .i64 x, .int .i64 y] 33)) m1 id).cell 0
    have q2 : w1.cell? ⟨w.heap.size, 1, none⟩ = some (.int .i64 y) := (At.mod (At.new w (.cells #[.int .i64 x, .int .i64 y] 33)) m1 id).cell 1
    go_wp2_with fail
    refine (new_c l _ h1 h2).mono ?_
    rintro e w2 ⟨b2, rfl, hb2, hB2, m2⟩
    have q3 : w2.cell? ⟨w.heap.size, 0, none⟩ = some (.int .i64 x) := (At.mod (At.mod (At.new w (.cells #[.int .i64 x, .int .i64 y] 33)) m1 id) m2 id).cell 0
    have q4 : w2.cell? ⟨w.heap.size, 1, none⟩ = some (.int .i64 y) := (At.mod (At.mod (At.new w (.cells #[.int .i64 x, .int .i64 y] 33)) m1 id) m2 id).cell 1
    go_wp2_with fail
    go_quiet (fail)
    go_wp2_with fail
    refine (awake_c _).mono ?_
    rintro e w5 ⟨rfl, m5⟩
    go_wp2_with fail
    go_ret
    exact ⟨rfl, ((((((Mod.refl _ _).alloc _).trans m1).trans m2).drewN _).trans m5).toBelow _ (Nat.le_refl _) (fun _ _ h => h)⟩

theorem parts_dull (l x y : Int) (w : World) (h1 : 1 ≤ l) (h2 : l ≤ 1000000000000) (hx0 : 0 ≤ x) (hx1 : x ≤ 5000000000) (hy0 : 0 ≤ y) (hy1 : y ≤ 5000000000) (hl : l ≤ x) :
    Calls Try.prog 4 #[.int .i64 l, .agg #[.int .i64 x, .int .i64 y]] w fun e w' => e = .returned (.bool true) ∧ Below w.heap.size w w' := by
  go_enter Try.func4, Try.ntmps4
  go_wp2_with fail
  refine (new_c l _ h1 h2).mono ?_
  rintro e w1 ⟨b, rfl, hb1, hB1, m1⟩
  have q0 := m1.size
  have q1 : w1.cell? ⟨w.heap.size, 0, none⟩ = some (.int .i64 x) := (At.mod (At.new w (.cells #[.int .i64 x, .int .i64 y] 33)) m1 id).cell 0
  have q2 : w1.cell? ⟨w.heap.size, 1, none⟩ = some (.int .i64 y) := (At.mod (At.new w (.cells #[.int .i64 x, .int .i64 y] 33)) m1 id).cell 1
  have l1 := At.lt hB1
  go_wp2_with fail
  refine (new_c l _ h1 h2).mono ?_
  rintro e w2 ⟨b2, rfl, hb2, hB2, m2⟩
  have l2 := At.lt hB2
  have n1 : b ≠ b2 := by omega
  have n2 : b2 ≠ b := by omega
  have hA2 : BlX w2 b ⟨l, 1, 0, 0⟩ := At.mod hB1 m2 id
  have q3 : w2.cell? ⟨w.heap.size, 0, none⟩ = some (.int .i64 x) := (At.mod (At.mod (At.new w (.cells #[.int .i64 x, .int .i64 y] 33)) m1 id) m2 id).cell 0
  have q4 : w2.cell? ⟨w.heap.size, 1, none⟩ = some (.int .i64 y) := (At.mod (At.mod (At.new w (.cells #[.int .i64 x, .int .i64 y] 33)) m1 id) m2 id).cell 1
  go_wp2_with fail
  go_quiet (fail)
  go_wp2_with fail
  refine (start_eq (x := ⟨l, 1, 0, 0⟩) (y := ⟨l, 2, 0, 0⟩) (e := 0) (At.drewN hA2 _) rfl).mono ?_
  rintro e w3 ⟨rfl, hA3, m3⟩
  have hB3 : BlX w3 b2 ⟨l, 1, 0, 0⟩ := At.mod (At.drewN hB2 _) m3 n2
  clear q0 q1 q2 q3 q4
  go_wp2_with fail
  refine (start_eq (x := ⟨l, 1, 0, 0⟩) (y := ⟨l, 2, 0, 0⟩) (e := 0) hB3 rfl).mono ?_
  rintro e w4 ⟨rfl, hB4, m4⟩
  have hA4 : BlX w4 b ⟨l, 2, 0, 0⟩ := At.mod hA3 m4 n1
  go_wp2_with fail
  refine (cut_eq (y := ⟨l, 4, l, l⟩) (n := l) (e := 0) hA4 ⟨h1, h2, by simp, by simp; omega, by simp, by simp⟩ (by have := B.cut_full_eq l 0 0 x hx0 (by omega) (by omega); simpa using this)).mono ?_
  rintro e w5 ⟨rfl, hA5, m5⟩
  go_wp2_with fail
  refine (state_c hA5).mono ?_
  rintro e w' ⟨rfl, rfl⟩
  go_wp2_with fail
  refine (awake_c _).mono ?_
  rintro e w6 ⟨rfl, m6⟩
  go_wp2_with fail
  go_ret
  refine ⟨rfl, Mod.toBelow (S := fun i => i = b ∨ i = b2) ?_ _ (Nat.le_refl _) (by intro i hi; have q := m1.size; simp at q hb1; omega)⟩
  exact (((((((((Mod.refl _ _).alloc _).trans' m1 (fun _ _ h => h.elim)).trans' m2 (fun _ _ h => h.elim)).drewN _).trans' m3 (fun _ _ h => Or.inl h)).trans' m4 (fun _ _ h => Or.inr h)).trans' m5 (fun _ _ h => Or.inl h)).trans' m6 (fun _ _ h => h.elim))

theorem parts_two (l x y : Int) (w : World) (h1 : 1 ≤ l) (h2 : l ≤ 1000000000000) (hx0 : 0 ≤ x) (hx1 : x ≤ 5000000000) (hy0 : 0 ≤ y) (hy1 : y ≤ 5000000000) (hl : x < l) :
    Calls Try.prog 4 #[.int .i64 l, .agg #[.int .i64 x, .int .i64 y]] w fun e w' => e = .returned (.bool true) ∧ Below w.heap.size w w' := by
  obtain ⟨s, r, n, k, hc1, hc2⟩ : ∃ s r n k : Int, B.cut ⟨l, 2, x, x⟩ y = (⟨l, s, r, n⟩, k, 0) ∧ B.cut ⟨l, 2, 0, 0⟩ (x + y) = (⟨l, s, r, n⟩, x + k, 0) := by
    by_cases hq : x + y < l
    · exact ⟨2, x + y, x + y, y, B.cut_part_eq l x x y hy0 (by omega) hq, by have := B.cut_part_eq l 0 0 (x + y) (by omega) (by omega) (by omega); simpa using this⟩
    · have e : x + (l - x) = l := by omega
      exact ⟨4, l, l, l - x, by have := B.cut_full_eq l x x y hy0 (by omega) (by omega); rw [e] at this; exact this, by have := B.cut_full_eq l 0 0 (x + y) (by omega) (by omega) (by omega); rw [e]; simpa using this⟩
  have hk : 0 ≤ k ∧ k ≤ 1000000000000 := by
    by_cases hq : x + y < l
    · have := congrArg (fun q => q.2.1) (hc1.symm.trans (B.cut_part_eq l x x y hy0 (by omega) hq))
      simp only at this
      omega
    · have := congrArg (fun q => q.2.1) (hc1.symm.trans (B.cut_full_eq l x x y hy0 (by omega) (by omega)))
      simp only at this
      omega
  have H1 := hid hc1
  have H2 := hid hc2
  clear hc1 hc2
  obtain ⟨hk1, hk2⟩ := hk
  go_enter Try.func4, Try.ntmps4
  go_wp2_with fail
  refine (new_c l _ h1 h2).mono ?_
  rintro e w1 ⟨b, rfl, hb1, hB1, m1⟩
  have q0 := m1.size
  have q1 : w1.cell? ⟨w.heap.size, 0, none⟩ = some (.int .i64 x) := (At.mod (At.new w (.cells #[.int .i64 x, .int .i64 y] 33)) m1 id).cell 0
  have q2 : w1.cell? ⟨w.heap.size, 1, none⟩ = some (.int .i64 y) := (At.mod (At.new w (.cells #[.int .i64 x, .int .i64 y] 33)) m1 id).cell 1
  have l1 := At.lt hB1
  go_wp2_with fail
  refine (new_c l _ h1 h2).mono ?_
  rintro e w2 ⟨b2, rfl, hb2, hB2, m2⟩
  have l2 := At.lt hB2
  have n1 : b ≠ b2 := by omega
  have n2 : b2 ≠ b := by omega
  have hA2 : BlX w2 b ⟨l, 1, 0, 0⟩ := At.mod hB1 m2 id
  have q3 : w2.cell? ⟨w.heap.size, 0, none⟩ = some (.int .i64 x) := (At.mod (At.mod (At.new w (.cells #[.int .i64 x, .int .i64 y] 33)) m1 id) m2 id).cell 0
  have q4 : w2.cell? ⟨w.heap.size, 1, none⟩ = some (.int .i64 y) := (At.mod (At.mod (At.new w (.cells #[.int .i64 x, .int .i64 y] 33)) m1 id) m2 id).cell 1
  go_wp2_with fail
  go_quiet (fail)
  go_wp2_with fail
  refine (start_eq (x := ⟨l, 1, 0, 0⟩) (y := ⟨l, 2, 0, 0⟩) (e := 0) (At.drewN hA2 _) rfl).mono ?_
  rintro e w3 ⟨rfl, hA3, m3⟩
  have hB3 : BlX w3 b2 ⟨l, 1, 0, 0⟩ := At.mod (At.drewN hB2 _) m3 n2
  clear q0 q1 q2 q3 q4
  go_wp2_with fail
  refine (start_eq (x := ⟨l, 1, 0, 0⟩) (y := ⟨l, 2, 0, 0⟩) (e := 0) hB3 rfl).mono ?_
  rintro e w4 ⟨rfl, hB4, m4⟩
  have hA4 : BlX w4 b ⟨l, 2, 0, 0⟩ := At.mod hA3 m4 n1
  go_wp2_with fail
  refine (cut_eq (y := ⟨l, 2, x, x⟩) (n := x) (e := 0) hA4 ⟨h1, h2, by simp, by simp; omega, by simp, by simp⟩ (by have := B.cut_part_eq l 0 0 x hx0 (by omega) (by omega); simpa using this)).mono ?_
  rintro e w5 ⟨rfl, hA5, m5⟩
  have hB5 : BlX w5 b2 ⟨l, 2, 0, 0⟩ := At.mod hB4 m5 n2
  go_wp2_with fail
  refine (state_c hA5).mono ?_
  rintro e w' ⟨rfl, rfl⟩
  go_wp2_with fail
  refine (cut_eq (y := ⟨l, s, r, n⟩) (n := k) (e := 0) hA5 ⟨h1, h2, hx0, by simp; omega, hx0, by simp; omega⟩ H1.out).mono ?_
  rintro e w6 ⟨rfl, hA6, m6⟩
  have hB6 : BlX w6 b2 ⟨l, 2, 0, 0⟩ := At.mod hB5 m6 n2
  go_wp2_with fail
  refine (cut_eq (y := ⟨l, s, r, n⟩) (n := x + k) (e := 0) hB6 ⟨h1, h2, by simp, by simp; omega, by simp, by simp⟩ H2.out).mono ?_
  rintro e w7 ⟨rfl, hB7, m7⟩
  have hA7 : BlX w7 b ⟨l, s, r, n⟩ := At.mod hA6 m7 n1
  go_wp2_with fail
  refine (state_c hA7).mono ?_
  rintro e w' ⟨rfl, rfl⟩
  go_wp2_with fail
  refine (state_c hB7).mono ?_
  rintro e w' ⟨rfl, rfl⟩
  go_wp2_with fail
  refine (wear_c hA7).mono ?_
  rintro e w' ⟨rfl, rfl⟩
  go_wp2_with fail
  refine (wear_c hB7).mono ?_
  rintro e w' ⟨rfl, rfl⟩
  go_wp2_with fail
  refine (awake_c _).mono ?_
  rintro e w8 ⟨rfl, m8⟩
  go_wp2_with fail
  go_ret
  refine ⟨rfl, Mod.toBelow (S := fun i => i = b ∨ i = b2) ?_ _ (Nat.le_refl _) (by intro i hi; have q := m1.size; simp at q hb1; omega)⟩
  exact (((((((((((Mod.refl _ _).alloc _).trans' m1 (fun _ _ h => h.elim)).trans' m2 (fun _ _ h => h.elim)).drewN _).trans' m3 (fun _ _ h => Or.inl h)).trans' m4 (fun _ _ h => Or.inr h)).trans' m5 (fun _ _ h => Or.inl h)).trans' m6 (fun _ _ h => Or.inl h)).trans' m7 (fun _ _ h => Or.inr h)).trans' m8 (fun _ _ h => h.elim))

theorem bladeParts_walk (l x y : Int) (w : World) (_ : (Lit.int .i64 l).wf = true) :
    Calls Try.prog 4 #[.int .i64 l, .agg #[.int .i64 x, .int .i64 y]] w fun e w' => e = .returned (.bool true) ∧ Below w.heap.size w w' := by
  by_cases hb : l < 1 ∨ 1000000000000 < l
  · exact parts_bad l x y w hb
  by_cases h : x < 0 ∨ (0 ≤ x ∧ y < 0) ∨ (0 ≤ x ∧ 0 ≤ y ∧ 5000000000 < x) ∨ (0 ≤ x ∧ 0 ≤ y ∧ x ≤ 5000000000 ∧ 5000000000 < y)
  · exact parts_out l x y w (by omega) (by omega) h
  by_cases hl : l ≤ x
  · exact parts_dull l x y w (by omega) (by omega) (by omega) (by omega) (by omega) (by omega) hl
  · exact parts_two l x y w (by omega) (by omega) (by omega) (by omega) (by omega) (by omega) (by omega)
end Go.Proofs.Ythhiadnjndnjoaa
