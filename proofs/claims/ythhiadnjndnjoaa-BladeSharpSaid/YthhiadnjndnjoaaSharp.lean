/- The law BladeSharp: the walk. -/
import Derived.Test.YthhiadnjndnjoaaWears
namespace Go.Proofs.Ythhiadnjndnjoaa
open Go.RowKit
set_option linter.unusedVariables false
set_option linter.unusedSimpArgs false

theorem step_shift {l s r q op a s' r' q' k e : Int} (d : Int) (h : B.step ⟨l, s, r, q⟩ op a = (⟨l, s', r', q'⟩, k, e)) :
    B.step ⟨l, s, r, d + q⟩ op a = (⟨l, s', r', d + q'⟩, k, e) := by
  by_cases h0 : op = 0
  · subst h0
    by_cases h4 : s = 4
    · simp [B.step, B.start, h4] at h ⊢; omega
    by_cases h2 : s = 2
    · simp [B.step, B.start, h2] at h ⊢; omega
    · simp [B.step, B.start, h2, h4] at h ⊢; omega
  by_cases h1 : op = 1
  · subst h1
    by_cases h2 : s = 2
    · by_cases ha : a < 0 ∨ 10000000000 < a
      · simp [B.step, B.cut, h2, ha] at h ⊢; omega
      by_cases hl : r + a < l
      · simp [B.step, B.cut, h2, ha, hl] at h ⊢; omega
      · simp [B.step, B.cut, h2, ha, hl] at h ⊢; omega
    · simp [B.step, B.cut, h2] at h ⊢; omega
  by_cases h2 : op = 2
  · subst h2
    by_cases hs : s = 2
    · simp [B.step, B.stop, hs] at h ⊢; omega
    · simp [B.step, B.stop, hs] at h ⊢; omega
  by_cases hs : s = 2
  · simp [B.step, B.sharpen, hs, h0, h1, h2] at h ⊢; omega
  · simp [B.step, B.sharpen, hs, h0, h1, h2] at h ⊢; omega

theorem step_form {m : Int} (x : B) (op a : Int) (hx : x.ok m) : ∃ s' r' q' k e, B.step x op a = (⟨x.l, s', r', q'⟩, k, e) := by
  have := (B.step_ok hx op a).2
  rcases h : B.step x op a with ⟨⟨l', s', r', q'⟩, k, e⟩
  rw [h] at this
  simp only at this
  subst this
  exact ⟨s', r', q', k, e, rfl⟩

theorem stop_sharpen (l s r n : Int) : ∃ s' e, B.stop ⟨l, s, r, n⟩ = (⟨l, s', r, n⟩, e) ∧ B.sharpen ⟨l, s', r, n⟩ = (⟨l, 1, 0, n⟩, 0) := by
  by_cases h : s = 2
  · exact ⟨3, 0, by simp [B.stop, h], by simp [B.sharpen]⟩
  · exact ⟨s, 14, by simp [B.stop, h], by simp [B.sharpen, h]⟩

set_option maxRecDepth 100000 in
set_option maxHeartbeats 1600000 in
theorem sharp_loop (l : Int) (A A' : Option Addr) (n c n' c' : Nat) (op ar op' ar' : Nat → Int) (w : World) (h1 : 1 ≤ l) (h2 : l ≤ 1000000000000) (hS : Steps w A n op ar) (hS' : Steps w A' n' op' ar') (hn : n ≤ 100) (hn' : n' ≤ 100) :
    Calls Try.prog 7 #[.int .i64 l, .slice A n c, .slice A' n' c'] w fun e w' => e = .returned (.bool true) ∧ Below w.heap.size w w' := by
  have hn0 : ¬ (100 : Int) < (n : Int) := by omega
  have hn0' : ¬ (100 : Int) < (n' : Int) := by omega
  go_enter Try.func7, Try.ntmps7
  go_wp2_with fail
  refine (new_c l _ h1 h2).mono ?_
  rintro e w1 ⟨b, rfl, hb1, hB1, m1⟩
  go_wp2_with fail
  refine (new_c l _ h1 h2).mono ?_
  rintro e w2 ⟨b2, rfl, hb2, hB2, m2⟩
  have l1 := At.lt hB1
  have z1 := m1.size
  have hA2 : BlX w2 b ⟨l, 1, 0, 0⟩ := At.mod0 hB1 m2
  have nb : b ≠ b2 := by omega
  have nb2 : b2 ≠ b := by omega
  have M2 := (m1.trans m2).toBelow _ (Nat.le_refl _) (fun _ _ h => h)
  clear m1 m2 hB1
  go_wp2_with fail
  go_loopw [11] (fun i wr => ∃ k : Nat, k ≤ n ∧ i = .int .i64 k ∧ BlX wr b (run l op ar k) ∧ BlX wr b2 ⟨l, 1, 0, 0⟩ ∧ Below w.heap.size w wr)
    (fun i _ => n - (intOf i).toNat)
  case atStart => exact ⟨0, by omega, rfl, hA2, hB2, M2⟩
  case round =>
    clear hA2 hB2 M2
    obtain ⟨k, hk, rfl, hA, hB, hbel⟩ := hrel
    by_cases hlt : k < n
    · obtain ⟨g, off, rfl, hq, hc⟩ := hS.2 (by omega)
      have g0 := (hbel.cell (p := ⟨g, off + k * 2, none⟩) hq).trans (hc k hlt).1
      have g1 := (hbel.cell (p := ⟨g, off + k * 2 + 1, none⟩) hq).trans (hc k hlt).2
      have hok2 : (run l op ar k).ok 1000000000000000 := B.ok_mono (run_ok h1 h2 op ar k).1 (by omega)
      clear hc
      go_wp2_with fail
      refine (do_c (op k) (ar k) hA hok2).mono ?_
      rintro e w3 ⟨rfl, hA3, m3⟩
      go_wp2_with fail
      go_roundw
      case rel => exact ⟨k + 1, by omega, by go_num, hA3, At.mod hB m3 nb2, hbel.trans (m3.toBelow _ hbel.size (by intro i hi; omega))⟩
      case measure => simp [intOf]; omega
    · have : k = n := by omega
      subst this
      have hok := (run_ok h1 h2 op ar k)
      rcases hx : run l op ar k with ⟨l0, s0, r0, n0⟩
      rw [hx] at hA hok
      have hl0 : l0 = l := hok.2
      subst hl0
      have hn1 := hok.1.n1
      have hn2 := hok.1.n2
      simp only at hn1 hn2
      have hok1 := B.ok_mono hok.1 (show (k : Int) * 10000000000 ≤ 1000000000000000 by omega)
      clear hx hok
      obtain ⟨s1, e1, hst, hsh⟩ := stop_sharpen l0 s0 r0 n0
      have Hst := hid hst
      have Hsh := hid hsh
      clear hst hsh
      go_wp2_with fail
      refine (stop_eq hA Hst.out).mono ?_
      rintro e w3 ⟨rfl, hA3, m3⟩
      go_wp2_with fail
      refine (sharpen_eq hA3 Hsh.out).mono ?_
      rintro e w4 ⟨rfl, hA4, m4⟩
      go_wp2_with fail
      refine (sawn_c hA4).mono ?_
      rintro e w' ⟨rfl, rfl⟩
      have hB4 : BlX w4 b2 ⟨l0, 1, 0, 0⟩ := At.mod (At.mod hB m3 nb2) m4 nb2
      have hbel4 := hbel.trans ((m3.trans m4).toBelow _ hbel.size (by intro i hi; omega))
      clear hA hA3 hB m3 m4 hbel
      go_wp2_with fail
      go_loopw [13] (fun i wr => ∃ (j : Nat) (s r q : Int), j ≤ n' ∧ i = .int .i64 j ∧ Bl wr b l0 s r (n0 + q) ∧ Bl wr b2 l0 s r q ∧ Hid ((⟨l0, s, r, q⟩ : B).ok (j * 10000000000)) ∧ Below w.heap.size w wr)
        (fun i _ => n' - (intOf i).toNat)
      case atStart => exact ⟨0, 1, 0, 0, by omega, rfl, by rw [Int.add_zero]; exact hA4, hB4, ⟨h1, h2, by simp, by simp only; omega, by simp, by simp⟩, hbel4⟩
      case round =>
        clear hA4 hB4 hbel4
        obtain ⟨j, s, r, q, hj, rfl, hA, hB, hH, hbel⟩ := hrel
        by_cases hlt' : j < n'
        · obtain ⟨g, off, rfl, hq, hc⟩ := hS'.2 (by omega)
          have g0 := (hbel.cell (p := ⟨g, off + j * 2, none⟩) hq).trans (hc j hlt').1
          have g1 := (hbel.cell (p := ⟨g, off + j * 2 + 1, none⟩) hq).trans (hc j hlt').2
          have hgb : ¬ g = b := by omega
          clear hc
          generalize hop : op' j = o at g0 g1
          generalize har : ar' j = a at g0 g1
          clear hop har
          obtain ⟨s', r', q', m, e, hst⟩ := step_form ⟨l0, s, r, q⟩ o a hH.out
          have hst2 := step_shift n0 hst
          have hok2 : (⟨l0, s, r, q⟩ : B).ok 1000000000000000 := B.ok_mono hH.out (by omega)
          have hok4 : (⟨l0, s, r, n0 + q⟩ : B).ok 1000000000000000 := by
            have h := hH.out
            refine ⟨h.l1, h.l2, h.r1, h.r2, ?_, ?_⟩
            · have := h.n1; simp only at this ⊢; omega
            · have := h.n2; simp only at this ⊢; omega
          have hok3 : (⟨l0, s', r', q'⟩ : B).ok ((j + 1 : Nat) * 10000000000) := by
            have := (B.step_ok hH.out o a).1
            rw [hst] at this
            have e : ((j + 1 : Nat) : Int) * 10000000000 = j * 10000000000 + 10000000000 := by omega
            rw [e]
            exact this
          have Hst := hid hst
          have Hst2 := hid hst2
          have Hok3 := hid hok3
          have hq2 := hok3.n1
          have hq3 : q' ≤ 1000000000000000 := by have := hok3.n2; simp only at this; omega
          simp only at hq2
          clear hst hst2 hok3 hH
          go_wp2_with fail
          refine (do_eq _ _ hA hok4 Hst2).mono ?_
          rintro e1 w5 ⟨rfl, hA5, m5⟩
          have hB5 : Bl w5 b2 l0 s r q := At.mod hB m5 nb2
          have d0 := m5.keep hgb g0
          have d1 := m5.keep hgb g1
          clear g0 g1
          go_wp2_with fail
          refine (do_eq _ _ hB5 hok2 Hst).mono ?_
          rintro e1 w6 ⟨rfl, hB6, m6⟩
          have hA6 : Bl w6 b l0 s' r' (n0 + q') := At.mod hA5 m6 nb
          clear d0 d1
          go_wp2_with fail
          refine (state_b hA6).mono ?_
          rintro e1 w' ⟨rfl, rfl⟩
          go_wp2_with fail
          refine (state_b hB6).mono ?_
          rintro e1 w' ⟨rfl, rfl⟩
          go_wp2_with fail
          refine (wear_b hA6).mono ?_
          rintro e1 w' ⟨rfl, rfl⟩
          go_wp2_with fail
          refine (wear_b hB6).mono ?_
          rintro e1 w' ⟨rfl, rfl⟩
          go_wp2_with fail
          refine (sawn_b hA6).mono ?_
          rintro e1 w' ⟨rfl, rfl⟩
          go_wp2_with fail
          refine (sawn_b hB6).mono ?_
          rintro e1 w' ⟨rfl, rfl⟩
          go_wp2_with fail
          go_roundw
          case rel => exact ⟨j + 1, s', r', q', by omega, by go_num, hA6, hB6, Hok3.out, hbel.trans (((m5.mono (T := fun i => i = b ∨ i = b2) (fun _ _ h => Or.inl h)).trans' m6 (fun _ _ h => Or.inr h)).toBelow _ hbel.size (by intro i hi; omega))⟩
          case measure => simp [intOf]; omega
        · have : j = n' := by omega
          subst this
          go_wp2_with fail
          refine (awake_c _).mono ?_
          rintro e w5 ⟨rfl, m5⟩
          go_wp2_with fail
          go_ret
          exact ⟨rfl, hbel.trans (m5.toBelow _ hbel.size (fun _ _ h => h))⟩

theorem sharp_nn_bad (l : Int) (A A' : Option Addr) (n c n' c' : Nat) (w : World) (h : l < 1 ∨ 1000000000000 < l) (hn : n ≤ 100) (hn' : n' ≤ 100) (hm : n ≤ 9223372036854775807) (hm' : n' ≤ 9223372036854775807) :
    Calls Try.prog 7 #[.int .i64 l, .slice A n c, .slice A' n' c'] w fun e w' => e = .returned (.bool true) ∧ Below w.heap.size w w' := by
  have hn0 : ¬ (100 : Int) < (n : Int) := by omega
  have hn0' : ¬ (100 : Int) < (n' : Int) := by omega
  go_enter Try.func7, Try.ntmps7
  go_wp2_with fail
  refine (new_bad l _ h).mono ?_
  rintro e w' ⟨rfl, rfl⟩
  go_wp2_with fail
  refine (new_bad l _ h).mono ?_
  rintro e w' ⟨rfl, rfl⟩
  go_wp2_with fail
  refine (awake_c _).mono ?_
  rintro e w5 ⟨rfl, m5⟩
  go_wp2_with fail
  go_ret
  exact ⟨rfl, m5.toBelow _ (Nat.le_refl _) (fun _ _ h => h)⟩

theorem sharp_l_bad (l : Int) (A A' : Option Addr) (n c n' c' : Nat) (w : World) (h : l < 1 ∨ 1000000000000 < l) (hn : 100 < n) (hm : n ≤ 9223372036854775807) (hm' : n' ≤ 9223372036854775807) :
    Calls Try.prog 7 #[.int .i64 l, .slice A n c, .slice A' n' c'] w fun e w' => e = .returned (.bool true) ∧ Below w.heap.size w w' := by
  have hn0 : (100 : Int) < (n : Int) := by omega
  go_enter Try.func7, Try.ntmps7
  go_wp2_with fail
  refine (new_bad l _ h).mono ?_
  rintro e w' ⟨rfl, rfl⟩
  go_wp2_with fail
  refine (new_bad l _ h).mono ?_
  rintro e w' ⟨rfl, rfl⟩
  go_wp2_with fail
  refine (awake_c _).mono ?_
  rintro e w5 ⟨rfl, m5⟩
  go_wp2_with fail
  go_ret
  exact ⟨rfl, m5.toBelow _ (Nat.le_refl _) (fun _ _ h => h)⟩

theorem sharp_l_good (l : Int) (A A' : Option Addr) (n c n' c' : Nat) (w : World) (h1 : 1 ≤ l) (h2 : l ≤ 1000000000000) (hn : 100 < n) (hm : n ≤ 9223372036854775807) (hm' : n' ≤ 9223372036854775807) :
    Calls Try.prog 7 #[.int .i64 l, .slice A n c, .slice A' n' c'] w fun e w' => e = .returned (.bool true) ∧ Below w.heap.size w w' := by
  have hn0 : (100 : Int) < (n : Int) := by omega
  go_enter Try.func7, Try.ntmps7
  go_wp2_with fail
  refine (new_c l _ h1 h2).mono ?_
  rintro e w1 ⟨b, rfl, hb1, hB1, m1⟩
  go_wp2_with fail
  refine (new_c l _ h1 h2).mono ?_
  rintro e w2 ⟨b2, rfl, hb2, hB2, m2⟩
  go_wp2_with fail
  refine (awake_c _).mono ?_
  rintro e w5 ⟨rfl, m5⟩
  go_wp2_with fail
  go_ret
  exact ⟨rfl, ((m1.trans m2).trans m5).toBelow _ (Nat.le_refl _) (fun _ _ h => h)⟩

theorem sharp_nl_bad (l : Int) (A A' : Option Addr) (n c n' c' : Nat) (w : World) (h : l < 1 ∨ 1000000000000 < l) (hn : n ≤ 100) (hn' : 100 < n') (hm : n ≤ 9223372036854775807) (hm' : n' ≤ 9223372036854775807) :
    Calls Try.prog 7 #[.int .i64 l, .slice A n c, .slice A' n' c'] w fun e w' => e = .returned (.bool true) ∧ Below w.heap.size w w' := by
  have hn0 : ¬ (100 : Int) < (n : Int) := by omega
  have hn0' : (100 : Int) < (n' : Int) := by omega
  go_enter Try.func7, Try.ntmps7
  go_wp2_with fail
  refine (new_bad l _ h).mono ?_
  rintro e w' ⟨rfl, rfl⟩
  go_wp2_with fail
  refine (new_bad l _ h).mono ?_
  rintro e w' ⟨rfl, rfl⟩
  go_wp2_with fail
  refine (awake_c _).mono ?_
  rintro e w5 ⟨rfl, m5⟩
  go_wp2_with fail
  go_ret
  exact ⟨rfl, m5.toBelow _ (Nat.le_refl _) (fun _ _ h => h)⟩

theorem sharp_nl_good (l : Int) (A A' : Option Addr) (n c n' c' : Nat) (w : World) (h1 : 1 ≤ l) (h2 : l ≤ 1000000000000) (hn : n ≤ 100) (hn' : 100 < n') (hm : n ≤ 9223372036854775807) (hm' : n' ≤ 9223372036854775807) :
    Calls Try.prog 7 #[.int .i64 l, .slice A n c, .slice A' n' c'] w fun e w' => e = .returned (.bool true) ∧ Below w.heap.size w w' := by
  have hn0 : ¬ (100 : Int) < (n : Int) := by omega
  have hn0' : (100 : Int) < (n' : Int) := by omega
  go_enter Try.func7, Try.ntmps7
  go_wp2_with fail
  refine (new_c l _ h1 h2).mono ?_
  rintro e w1 ⟨b, rfl, hb1, hB1, m1⟩
  go_wp2_with fail
  refine (new_c l _ h1 h2).mono ?_
  rintro e w2 ⟨b2, rfl, hb2, hB2, m2⟩
  go_wp2_with fail
  refine (awake_c _).mono ?_
  rintro e w5 ⟨rfl, m5⟩
  go_wp2_with fail
  go_ret
  exact ⟨rfl, ((m1.trans m2).trans m5).toBelow _ (Nat.le_refl _) (fun _ _ h => h)⟩

theorem bladeSharp_walk (l : Int) (A : Option Addr) (n c : Nat) (op ar : Nat → Int) (A' : Option Addr) (n' c' : Nat) (op' ar' : Nat → Int) (w : World) (_ : (Lit.int .i64 l).wf = true) (hS : Steps w A n op ar) (hS' : Steps w A' n' op' ar') :
    Calls Try.prog 7 #[.int .i64 l, .slice A n c, .slice A' n' c'] w fun e w' => e = .returned (.bool true) ∧ Below w.heap.size w w' := by
  by_cases hb : l < 1 ∨ 1000000000000 < l
  · by_cases hn : n ≤ 100
    · by_cases hn' : n' ≤ 100
      · exact sharp_nn_bad l A A' n c n' c' w hb hn hn' hS.1 hS'.1
      · exact sharp_nl_bad l A A' n c n' c' w hb hn (by omega) hS.1 hS'.1
    · exact sharp_l_bad l A A' n c n' c' w hb (by omega) hS.1 hS'.1
  · by_cases hn : n ≤ 100
    · by_cases hn' : n' ≤ 100
      · exact sharp_loop l A A' n c n' c' op ar op' ar' w (by omega) (by omega) hS hS' hn hn'
      · exact sharp_nl_good l A A' n c n' c' w (by omega) (by omega) hn (by omega) hS.1 hS'.1
    · exact sharp_l_good l A A' n c n' c' w (by omega) (by omega) (by omega) hS.1 hS'.1
end Go.Proofs.Ythhiadnjndnjoaa
