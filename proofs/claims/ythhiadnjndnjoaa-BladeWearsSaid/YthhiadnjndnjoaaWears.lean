/- The law BladeWears: the walk. -/
import Derived.Test.YthhiadnjndnjoaaRuns
namespace Go.Proofs.Ythhiadnjndnjoaa
open Go.RowKit
set_option linter.unusedVariables false
set_option linter.unusedSimpArgs false

/-- What a step can be: an error; Start or Stop; a cut; a sharpening. -/
theorem step_ways (l s r n op ar : Int) (m : Int) (hx : (⟨l, s, r, n⟩ : B).ok m) (hi : s = 4 ↔ r = l) :
    ∃ s' r' n' k e, B.step ⟨l, s, r, n⟩ op ar = (⟨l, s', r', n'⟩, k, e) ∧
      ((e ≠ 0 ∧ k = 0 ∧ s' = s ∧ r' = r ∧ n' = n) ∨ (e = 0 ∧ k = 0 ∧ 0 ≤ op ∧ op ≤ 2 ∧ s' ≠ 4 ∧ r' = r ∧ n' = n ∧ r ≠ l) ∨
       (e = 0 ∧ op = 1 ∧ 0 ≤ k ∧ k ≤ ar ∧ r' = r + k ∧ n' = n + k ∧ r + k ≤ l ∧ (s' = 4 ↔ r + k = l)) ∨ (e = 0 ∧ k = 0 ∧ (op < 0 ∨ 2 < op) ∧ s' = 1 ∧ r' = 0 ∧ n' = n)) := by
  obtain ⟨l1, l2, r1, r2, n1, n2⟩ := hx
  simp only at l1 l2 r1 r2 n1 n2
  by_cases h0 : op = 0
  · subst h0
    by_cases h4 : s = 4
    · exact ⟨s, r, n, 0, 17, by simp [B.step, B.start, h4], .inl ⟨by decide, rfl, rfl, rfl, rfl⟩⟩
    by_cases h2 : s = 2
    · exact ⟨s, r, n, 0, 14, by simp [B.step, B.start, h2], .inl ⟨by decide, rfl, rfl, rfl, rfl⟩⟩
    · exact ⟨2, r, n, 0, 0, by simp [B.step, B.start, h2, h4], .inr (.inl ⟨rfl, rfl, by omega, by omega, by decide, rfl, rfl, by omega⟩)⟩
  by_cases h1 : op = 1
  · subst h1
    by_cases h2 : s = 2
    · by_cases ha : ar < 0 ∨ 10000000000 < ar
      · exact ⟨s, r, n, 0, 9, by simp [B.step, B.cut, h2, ha], .inl ⟨by decide, rfl, rfl, rfl, rfl⟩⟩
      by_cases hl : r + ar < l
      · exact ⟨s, r + ar, n + ar, ar, 0, by simp [B.step, B.cut, h2, ha, hl], .inr (.inr (.inl ⟨rfl, rfl, by omega, by omega, rfl, rfl, by omega, by omega⟩))⟩
      · exact ⟨4, r + (l - r), n + (l - r), l - r, 0, by simp [B.step, B.cut, h2, ha, hl]; omega, .inr (.inr (.inl ⟨rfl, rfl, by omega, by omega, rfl, rfl, by omega, by omega⟩))⟩
    · exact ⟨s, r, n, 0, 14, by simp [B.step, B.cut, h2], .inl ⟨by decide, rfl, rfl, rfl, rfl⟩⟩
  by_cases h2 : op = 2
  · subst h2
    by_cases h2 : s = 2
    · exact ⟨3, r, n, 0, 0, by simp [B.step, B.stop, h2], .inr (.inl ⟨rfl, rfl, by omega, by omega, by decide, rfl, rfl, by omega⟩)⟩
    · exact ⟨s, r, n, 0, 14, by simp [B.step, B.stop, h2], .inl ⟨by decide, rfl, rfl, rfl, rfl⟩⟩
  by_cases hs : s = 2
  · exact ⟨s, r, n, 0, 14, by simp [B.step, B.sharpen, hs, h0, h1, h2], .inl ⟨by decide, rfl, rfl, rfl, rfl⟩⟩
  · exact ⟨1, 0, n, 0, 0, by simp [B.step, B.sharpen, hs, h0, h1, h2], .inr (.inr (.inr ⟨rfl, rfl, by omega, rfl, rfl, rfl⟩))⟩

theorem do_eq {b : Nat} {w : World} {l s r n s' r' n' k e : Int} (op ar : Int) (hB : Bl w b l s r n) (hx : (⟨l, s, r, n⟩ : B).ok 1000000000000000) (h : Hid (B.step ⟨l, s, r, n⟩ op ar = (⟨l, s', r', n'⟩, k, e))) :
    Calls Try.prog 17 #[.pointer (some ⟨b, 0, none⟩), .agg #[.int .i64 op, .int .i64 ar]] w fun e' w' =>
      e' = .returned (.tuple #[.int .i64 k, .int .i64 e]) ∧ Bl w' b l s' r' n' ∧ Mod (· = b) w w' := by
  have := do_c (x := ⟨l, s, r, n⟩) op ar hB hx
  rw [h.out] at this
  exact this

set_option maxRecDepth 100000 in
set_option maxHeartbeats 3000000 in
theorem wears_loop (l : Int) (A : Option Addr) (n c : Nat) (op ar : Nat → Int) (w : World) (h1 : 1 ≤ l) (h2 : l ≤ 1000000000000) (hS : Steps w A n op ar) (hn : n ≤ 200) :
    Calls Try.prog 6 #[.int .i64 l, .slice A n c] w fun e w' => e = .returned (.bool true) ∧ Below w.heap.size w w' := by
  have hn0 : ¬ (200 : Int) < (n : Int) := by omega
  go_enter Try.func6, Try.ntmps6
  go_wp2_with fail
  refine (new_c l _ h1 h2).mono ?_
  rintro e w1 ⟨b, rfl, hb1, hB1, m1⟩
  go_wp2_with fail
  go_loopw [7, 8, 9] (fun wear sawn i wr => ∃ (k : Nat) (s r q : Int), k ≤ n ∧ i = .int .i64 k ∧ wear = .int .i64 r ∧ sawn = .int .i64 q ∧ Bl wr b l s r q ∧
      Hid ((⟨l, s, r, q⟩ : B).ok (k * 10000000000) ∧ (s = 4 ↔ r = l)) ∧ Below w.heap.size w wr)
    (fun _ _ i _ => n - (intOf i).toNat)
  case atStart =>
    refine ⟨0, 1, 0, 0, by omega, rfl, rfl, rfl, hB1, ⟨⟨h1, h2, Int.le_refl _, by simp only; omega, Int.le_refl _, by simp⟩, by omega⟩, ?_⟩
    exact m1.toBelow _ (Nat.le_refl _) (fun _ _ h => h)
  case round =>
    obtain ⟨k, s, r, q, hk, rfl, rfl, rfl, hB, hH, hbel⟩ := hrel
    by_cases hlt : k < n
    · obtain ⟨g, off, rfl, hq, hc⟩ := hS.2 (by omega)
      have g0 := (hbel.cell (p := ⟨g, off + k * 2, none⟩) hq).trans (hc k hlt).1
      have g1 := (hbel.cell (p := ⟨g, off + k * 2 + 1, none⟩) hq).trans (hc k hlt).2
      have hgb : ¬ g = b := by omega
      clear hc
      generalize hop : op k = o at g0 g1
      generalize har : ar k = a at g0 g1
      clear hop har
      obtain ⟨s', r', q', m, e, hst, hways⟩ := step_ways l s r q o a _ hH.out.1 hH.out.2
      have hok2 : (⟨l, s, r, q⟩ : B).ok 1000000000000000 := B.ok_mono hH.out.1 (by omega)
      have hok3 : (⟨l, s', r', q'⟩ : B).ok ((k + 1 : Nat) * 10000000000) := by
        have := (B.step_ok hH.out.1 o a).1
        rw [hst] at this
        have e : ((k + 1 : Nat) : Int) * 10000000000 = k * 10000000000 + 10000000000 := by omega
        rw [e]
        exact this
      have Hst := hid hst
      have Hok3 := hid hok3
      have hr0 := hok2.r1
      have hr1 := hok2.r2
      have hq0 := hok2.n1
      have hq1 := hok2.n2
      have hr2 := hok3.r1
      have hr3 := hok3.r2
      have hq2 := hok3.n1
      have hq3 : q' ≤ 1000000000000000 := by have := hok3.n2; simp only at this; omega
      have hii := hH.out.2
      have hH4 : Hid (s' = 4 ↔ r' = l) := by
        unfold Hid
        rcases hways with h | h | h | h <;> omega
      simp only at hr0 hr1 hq0 hq1 hr2 hr3 hq2
      clear hst hok3 hii hH
      rcases hways with ⟨he, hm, hs, hr, hqq⟩ | ⟨he, hm, ho1, ho2, hs4, hr, hqq, hrl⟩ | ⟨he, ho, hm0, hma, hr, hqq, hrl, hs4⟩ | ⟨he, hm, ho, hs, hr, hqq⟩
      · subst hm hs hr hqq
        have t1 : (e != 0) = true := by simpa using he
        have t2 : (e == 0) = false := by simpa using he
        clear he
        have hd := hH4.out
        by_cases h4 : s' = 4
        · have t3 : (r' == l) = true := by simp; omega
          subst h4
          clear hd
          by_cases ho : o < 0
          · go_wp2_with fail
            refine (state_b hB).mono ?_
            rintro e1 w' ⟨rfl, rfl⟩
            go_wp2_with fail
            refine (do_eq _ _ hB hok2 Hst).mono ?_
            rintro e1 w3 ⟨rfl, hB3, m3⟩
            have d0 := m3.keep hgb g0
            have d1 := m3.keep hgb g1
            go_wp2_with fail
            refine (state_b hB3).mono ?_
            rintro e1 w' ⟨rfl, rfl⟩
            go_wp2_with fail
            refine (wear_b hB3).mono ?_
            rintro e1 w' ⟨rfl, rfl⟩
            go_wp2_with fail
            refine (sawn_b hB3).mono ?_
            rintro e1 w' ⟨rfl, rfl⟩
            go_wp2_with fail
            refine (state_b hB3).mono ?_
            rintro e1 w' ⟨rfl, rfl⟩
            go_wp2_with fail
            go_roundw
            case rel => exact ⟨k + 1, _, _, _, by omega, by go_num, rfl, rfl, hB3, ⟨Hok3.out, (by first | exact hH4.out | simpa using hH4.out)⟩, hbel.trans (m3.toBelow _ hbel.size (fun i hi h => by omega))⟩
            case measure => simp [intOf]; omega
          by_cases ho2 : 2 < o
          · go_wp2_with fail
            refine (state_b hB).mono ?_
            rintro e1 w' ⟨rfl, rfl⟩
            go_wp2_with fail
            refine (do_eq _ _ hB hok2 Hst).mono ?_
            rintro e1 w3 ⟨rfl, hB3, m3⟩
            have d0 := m3.keep hgb g0
            have d1 := m3.keep hgb g1
            go_wp2_with fail
            refine (state_b hB3).mono ?_
            rintro e1 w' ⟨rfl, rfl⟩
            go_wp2_with fail
            refine (wear_b hB3).mono ?_
            rintro e1 w' ⟨rfl, rfl⟩
            go_wp2_with fail
            refine (sawn_b hB3).mono ?_
            rintro e1 w' ⟨rfl, rfl⟩
            go_wp2_with fail
            refine (state_b hB3).mono ?_
            rintro e1 w' ⟨rfl, rfl⟩
            go_wp2_with fail
            go_roundw
            case rel => exact ⟨k + 1, _, _, _, by omega, by go_num, rfl, rfl, hB3, ⟨Hok3.out, (by first | exact hH4.out | simpa using hH4.out)⟩, hbel.trans (m3.toBelow _ hbel.size (fun i hi h => by omega))⟩
            case measure => simp [intOf]; omega
          · go_wp2_with fail
            refine (state_b hB).mono ?_
            rintro e1 w' ⟨rfl, rfl⟩
            go_wp2_with fail
            refine (do_eq _ _ hB hok2 Hst).mono ?_
            rintro e1 w3 ⟨rfl, hB3, m3⟩
            have d0 := m3.keep hgb g0
            have d1 := m3.keep hgb g1
            go_wp2_with fail
            refine (state_b hB3).mono ?_
            rintro e1 w' ⟨rfl, rfl⟩
            go_wp2_with fail
            refine (wear_b hB3).mono ?_
            rintro e1 w' ⟨rfl, rfl⟩
            go_wp2_with fail
            refine (sawn_b hB3).mono ?_
            rintro e1 w' ⟨rfl, rfl⟩
            go_wp2_with fail
            refine (state_b hB3).mono ?_
            rintro e1 w' ⟨rfl, rfl⟩
            go_wp2_with fail
            go_roundw
            case rel => exact ⟨k + 1, _, _, _, by omega, by go_num, rfl, rfl, hB3, ⟨Hok3.out, (by first | exact hH4.out | simpa using hH4.out)⟩, hbel.trans (m3.toBelow _ hbel.size (fun i hi h => by omega))⟩
            case measure => simp [intOf]; omega
        · have t3 : (r' == l) = false := by simp; omega
          have t4 : (s' == 4) = false := by simpa using h4
          clear hd h4
          by_cases ho : o < 0
          · go_wp2_with fail
            refine (state_b hB).mono ?_
            rintro e1 w' ⟨rfl, rfl⟩
            go_wp2_with fail
            refine (do_eq _ _ hB hok2 Hst).mono ?_
            rintro e1 w3 ⟨rfl, hB3, m3⟩
            have d0 := m3.keep hgb g0
            have d1 := m3.keep hgb g1
            go_wp2_with fail
            refine (state_b hB3).mono ?_
            rintro e1 w' ⟨rfl, rfl⟩
            go_wp2_with fail
            refine (wear_b hB3).mono ?_
            rintro e1 w' ⟨rfl, rfl⟩
            go_wp2_with fail
            refine (sawn_b hB3).mono ?_
            rintro e1 w' ⟨rfl, rfl⟩
            go_wp2_with fail
            refine (state_b hB3).mono ?_
            rintro e1 w' ⟨rfl, rfl⟩
            go_wp2_with fail
            go_roundw
            case rel => exact ⟨k + 1, _, _, _, by omega, by go_num, rfl, rfl, hB3, ⟨Hok3.out, (by first | exact hH4.out | simpa using hH4.out)⟩, hbel.trans (m3.toBelow _ hbel.size (fun i hi h => by omega))⟩
            case measure => simp [intOf]; omega
          by_cases ho2 : 2 < o
          · go_wp2_with fail
            refine (state_b hB).mono ?_
            rintro e1 w' ⟨rfl, rfl⟩
            go_wp2_with fail
            refine (do_eq _ _ hB hok2 Hst).mono ?_
            rintro e1 w3 ⟨rfl, hB3, m3⟩
            have d0 := m3.keep hgb g0
            have d1 := m3.keep hgb g1
            go_wp2_with fail
            refine (state_b hB3).mono ?_
            rintro e1 w' ⟨rfl, rfl⟩
            go_wp2_with fail
            refine (wear_b hB3).mono ?_
            rintro e1 w' ⟨rfl, rfl⟩
            go_wp2_with fail
            refine (sawn_b hB3).mono ?_
            rintro e1 w' ⟨rfl, rfl⟩
            go_wp2_with fail
            refine (state_b hB3).mono ?_
            rintro e1 w' ⟨rfl, rfl⟩
            go_wp2_with fail
            go_roundw
            case rel => exact ⟨k + 1, _, _, _, by omega, by go_num, rfl, rfl, hB3, ⟨Hok3.out, (by first | exact hH4.out | simpa using hH4.out)⟩, hbel.trans (m3.toBelow _ hbel.size (fun i hi h => by omega))⟩
            case measure => simp [intOf]; omega
          · go_wp2_with fail
            refine (state_b hB).mono ?_
            rintro e1 w' ⟨rfl, rfl⟩
            go_wp2_with fail
            refine (do_eq _ _ hB hok2 Hst).mono ?_
            rintro e1 w3 ⟨rfl, hB3, m3⟩
            have d0 := m3.keep hgb g0
            have d1 := m3.keep hgb g1
            go_wp2_with fail
            refine (state_b hB3).mono ?_
            rintro e1 w' ⟨rfl, rfl⟩
            go_wp2_with fail
            refine (wear_b hB3).mono ?_
            rintro e1 w' ⟨rfl, rfl⟩
            go_wp2_with fail
            refine (sawn_b hB3).mono ?_
            rintro e1 w' ⟨rfl, rfl⟩
            go_wp2_with fail
            refine (state_b hB3).mono ?_
            rintro e1 w' ⟨rfl, rfl⟩
            go_wp2_with fail
            go_roundw
            case rel => exact ⟨k + 1, _, _, _, by omega, by go_num, rfl, rfl, hB3, ⟨Hok3.out, (by first | exact hH4.out | simpa using hH4.out)⟩, hbel.trans (m3.toBelow _ hbel.size (fun i hi h => by omega))⟩
            case measure => simp [intOf]; omega
      · subst he hm hr hqq
        have t3 : (r' == l) = false := by simpa using hrl
        have t4 : (s' == 4) = false := by simpa using hs4
        have hno : ¬ o < 0 := by omega
        have hno2 : ¬ 2 < o := by omega
        clear hrl hs4
        go_wp2_with fail
        refine (state_b hB).mono ?_
        rintro e1 w' ⟨rfl, rfl⟩
        go_wp2_with fail
        refine (do_eq _ _ hB hok2 Hst).mono ?_
        rintro e1 w3 ⟨rfl, hB3, m3⟩
        have d0 := m3.keep hgb g0
        have d1 := m3.keep hgb g1
        go_wp2_with fail
        refine (wear_b hB3).mono ?_
        rintro e1 w' ⟨rfl, rfl⟩
        go_wp2_with fail
        refine (sawn_b hB3).mono ?_
        rintro e1 w' ⟨rfl, rfl⟩
        go_wp2_with fail
        refine (state_b hB3).mono ?_
        rintro e1 w' ⟨rfl, rfl⟩
        go_wp2_with fail
        go_roundw
        case rel => exact ⟨k + 1, _, _, _, by omega, by go_num, rfl, rfl, hB3, ⟨Hok3.out, (by first | exact hH4.out | simpa using hH4.out)⟩, hbel.trans (m3.toBelow _ hbel.size (fun i hi h => by omega))⟩
        case measure => simp [intOf]; omega
      · subst he ho hr hqq
        have tm : ¬ m < 0 := by omega
        have tma : ¬ a < m := by omega
        by_cases hd : s' = 4
        · have t3 : (r + m == l) = true := by simp; omega
          subst hd
          clear hs4
          by_cases hm1 : 0 < m
          · go_wp2_with fail
            refine (state_b hB).mono ?_
            rintro e1 w' ⟨rfl, rfl⟩
            go_wp2_with fail
            refine (do_eq _ _ hB hok2 Hst).mono ?_
            rintro e1 w3 ⟨rfl, hB3, m3⟩
            have d0 := m3.keep hgb g0
            have d1 := m3.keep hgb g1
            go_wp2_with fail
            refine (wear_b hB3).mono ?_
            rintro e1 w' ⟨rfl, rfl⟩
            go_wp2_with fail
            refine (sawn_b hB3).mono ?_
            rintro e1 w' ⟨rfl, rfl⟩
            go_wp2_with fail
            refine (state_b hB3).mono ?_
            rintro e1 w' ⟨rfl, rfl⟩
            go_wp2_with fail
            go_roundw
            case rel => exact ⟨k + 1, _, _, _, by omega, by go_num, rfl, rfl, hB3, ⟨Hok3.out, (by first | exact hH4.out | simpa using hH4.out)⟩, hbel.trans (m3.toBelow _ hbel.size (fun i hi h => by omega))⟩
            case measure => simp [intOf]; omega
          · go_wp2_with fail
            refine (state_b hB).mono ?_
            rintro e1 w' ⟨rfl, rfl⟩
            go_wp2_with fail
            refine (do_eq _ _ hB hok2 Hst).mono ?_
            rintro e1 w3 ⟨rfl, hB3, m3⟩
            have d0 := m3.keep hgb g0
            have d1 := m3.keep hgb g1
            go_wp2_with fail
            refine (wear_b hB3).mono ?_
            rintro e1 w' ⟨rfl, rfl⟩
            go_wp2_with fail
            refine (sawn_b hB3).mono ?_
            rintro e1 w' ⟨rfl, rfl⟩
            go_wp2_with fail
            refine (state_b hB3).mono ?_
            rintro e1 w' ⟨rfl, rfl⟩
            go_wp2_with fail
            go_roundw
            case rel => exact ⟨k + 1, _, _, _, by omega, by go_num, rfl, rfl, hB3, ⟨Hok3.out, (by first | exact hH4.out | simpa using hH4.out)⟩, hbel.trans (m3.toBelow _ hbel.size (fun i hi h => by omega))⟩
            case measure => simp [intOf]; omega
        · have t3 : (r + m == l) = false := by simp; omega
          have t4 : (s' == 4) = false := by simpa using hd
          clear hs4 hd
          by_cases hm1 : 0 < m
          · go_wp2_with fail
            refine (state_b hB).mono ?_
            rintro e1 w' ⟨rfl, rfl⟩
            go_wp2_with fail
            refine (do_eq _ _ hB hok2 Hst).mono ?_
            rintro e1 w3 ⟨rfl, hB3, m3⟩
            have d0 := m3.keep hgb g0
            have d1 := m3.keep hgb g1
            go_wp2_with fail
            refine (wear_b hB3).mono ?_
            rintro e1 w' ⟨rfl, rfl⟩
            go_wp2_with fail
            refine (sawn_b hB3).mono ?_
            rintro e1 w' ⟨rfl, rfl⟩
            go_wp2_with fail
            refine (state_b hB3).mono ?_
            rintro e1 w' ⟨rfl, rfl⟩
            go_wp2_with fail
            go_roundw
            case rel => exact ⟨k + 1, _, _, _, by omega, by go_num, rfl, rfl, hB3, ⟨Hok3.out, (by first | exact hH4.out | simpa using hH4.out)⟩, hbel.trans (m3.toBelow _ hbel.size (fun i hi h => by omega))⟩
            case measure => simp [intOf]; omega
          · go_wp2_with fail
            refine (state_b hB).mono ?_
            rintro e1 w' ⟨rfl, rfl⟩
            go_wp2_with fail
            refine (do_eq _ _ hB hok2 Hst).mono ?_
            rintro e1 w3 ⟨rfl, hB3, m3⟩
            have d0 := m3.keep hgb g0
            have d1 := m3.keep hgb g1
            go_wp2_with fail
            refine (wear_b hB3).mono ?_
            rintro e1 w' ⟨rfl, rfl⟩
            go_wp2_with fail
            refine (sawn_b hB3).mono ?_
            rintro e1 w' ⟨rfl, rfl⟩
            go_wp2_with fail
            refine (state_b hB3).mono ?_
            rintro e1 w' ⟨rfl, rfl⟩
            go_wp2_with fail
            go_roundw
            case rel => exact ⟨k + 1, _, _, _, by omega, by go_num, rfl, rfl, hB3, ⟨Hok3.out, (by first | exact hH4.out | simpa using hH4.out)⟩, hbel.trans (m3.toBelow _ hbel.size (fun i hi h => by omega))⟩
            case measure => simp [intOf]; omega
      · subst he hm hs hr hqq
        have t3 : ((0 : Int) == l) = false := by simp; omega
        by_cases ho0 : o < 0
        · go_wp2_with fail
          refine (state_b hB).mono ?_
          rintro e1 w' ⟨rfl, rfl⟩
          go_wp2_with fail
          refine (do_eq _ _ hB hok2 Hst).mono ?_
          rintro e1 w3 ⟨rfl, hB3, m3⟩
          have d0 := m3.keep hgb g0
          have d1 := m3.keep hgb g1
          go_wp2_with fail
          refine (wear_b hB3).mono ?_
          rintro e1 w' ⟨rfl, rfl⟩
          go_wp2_with fail
          refine (sawn_b hB3).mono ?_
          rintro e1 w' ⟨rfl, rfl⟩
          go_wp2_with fail
          refine (state_b hB3).mono ?_
          rintro e1 w' ⟨rfl, rfl⟩
          go_wp2_with fail
          go_roundw
          case rel => exact ⟨k + 1, _, _, _, by omega, by go_num, rfl, rfl, hB3, ⟨Hok3.out, (by first | exact hH4.out | simpa using hH4.out)⟩, hbel.trans (m3.toBelow _ hbel.size (fun i hi h => by omega))⟩
          case measure => simp [intOf]; omega
        · have ho2 : 2 < o := by omega
          go_wp2_with fail
          refine (state_b hB).mono ?_
          rintro e1 w' ⟨rfl, rfl⟩
          go_wp2_with fail
          refine (do_eq _ _ hB hok2 Hst).mono ?_
          rintro e1 w3 ⟨rfl, hB3, m3⟩
          have d0 := m3.keep hgb g0
          have d1 := m3.keep hgb g1
          go_wp2_with fail
          refine (wear_b hB3).mono ?_
          rintro e1 w' ⟨rfl, rfl⟩
          go_wp2_with fail
          refine (sawn_b hB3).mono ?_
          rintro e1 w' ⟨rfl, rfl⟩
          go_wp2_with fail
          refine (state_b hB3).mono ?_
          rintro e1 w' ⟨rfl, rfl⟩
          go_wp2_with fail
          go_roundw
          case rel => exact ⟨k + 1, _, _, _, by omega, by go_num, rfl, rfl, hB3, ⟨Hok3.out, (by first | exact hH4.out | simpa using hH4.out)⟩, hbel.trans (m3.toBelow _ hbel.size (fun i hi h => by omega))⟩
          case measure => simp [intOf]; omega
    · have : k = n := by omega
      subst this
      go_wp2_with fail
      refine (awake_c _).mono ?_
      rintro e w5 ⟨rfl, m5⟩
      go_wp2_with fail
      go_ret
      exact ⟨rfl, hbel.trans (m5.toBelow _ hbel.size (fun _ _ h => h))⟩

theorem wears_bad (l : Int) (A : Option Addr) (n c : Nat) (w : World) (h : l < 1 ∨ 1000000000000 < l) (hn : n ≤ 200) :
    Calls Try.prog 6 #[.int .i64 l, .slice A n c] w fun e w' => e = .returned (.bool true) ∧ Below w.heap.size w w' := by
  have hn0 : ¬ (200 : Int) < (n : Int) := by omega
  go_enter Try.func6, Try.ntmps6
  go_wp2_with fail
  refine (new_bad l _ h).mono ?_
  rintro e w' ⟨rfl, rfl⟩
  go_wp2_with fail
  refine (awake_c _).mono ?_
  rintro e w5 ⟨rfl, m5⟩
  go_wp2_with fail
  go_ret
  exact ⟨rfl, m5.toBelow _ (Nat.le_refl _) (fun _ _ h => h)⟩
theorem wears_long_bad (l : Int) (A : Option Addr) (n c : Nat) (w : World) (h : l < 1 ∨ 1000000000000 < l) (hn : 200 < n) (hm : n ≤ 9223372036854775807) :
    Calls Try.prog 6 #[.int .i64 l, .slice A n c] w fun e w' => e = .returned (.bool true) ∧ Below w.heap.size w w' := by
  have hn0 : (200 : Int) < (n : Int) := by omega
  go_enter Try.func6, Try.ntmps6
  go_wp2_with fail
  refine (new_bad l _ h).mono ?_
  rintro e w' ⟨rfl, rfl⟩
  go_wp2_with fail
  refine (awake_c _).mono ?_
  rintro e w5 ⟨rfl, m5⟩
  go_wp2_with fail
  go_ret
  exact ⟨rfl, m5.toBelow _ (Nat.le_refl _) (fun _ _ h => h)⟩
theorem wears_long (l : Int) (A : Option Addr) (n c : Nat) (w : World) (h1 : 1 ≤ l) (h2 : l ≤ 1000000000000) (hn : 200 < n) (hm : n ≤ 9223372036854775807) :
    Calls Try.prog 6 #[.int .i64 l, .slice A n c] w fun e w' => e = .returned (.bool true) ∧ Below w.heap.size w w' := by
  have hn0 : (200 : Int) < (n : Int) := by omega
  go_enter Try.func6, Try.ntmps6
  go_wp2_with fail
  refine (new_c l _ h1 h2).mono ?_
  rintro e w1 ⟨b, rfl, hb1, hB1, m1⟩
  go_wp2_with fail
  refine (awake_c _).mono ?_
  rintro e w5 ⟨rfl, m5⟩
  go_wp2_with fail
  go_ret
  exact ⟨rfl, (m1.trans m5).toBelow _ (Nat.le_refl _) (fun _ _ h => h)⟩

theorem bladeWears_walk (l : Int) (A : Option Addr) (n c : Nat) (op ar : Nat → Int) (w : World) (_ : (Lit.int .i64 l).wf = true) (hS : Steps w A n op ar) :
    Calls Try.prog 6 #[.int .i64 l, .slice A n c] w fun e w' => e = .returned (.bool true) ∧ Below w.heap.size w w' := by
  by_cases hb : l < 1 ∨ 1000000000000 < l
  · by_cases hn : n ≤ 200
    · exact wears_bad l A n c w hb hn
    · exact wears_long_bad l A n c w hb (by omega) hS.1
  · by_cases hn : n ≤ 200
    · exact wears_loop l A n c op ar w (by omega) (by omega) hS hn
    · exact wears_long l A n c w (by omega) (by omega) (by omega) hS.1
end Go.Proofs.Ythhiadnjndnjoaa
