/- before, of the law and of the specification: their contracts. -/
import Derived.Test.YtdnodloinlijaaaPlain2
namespace Go.Proofs.Ytdnodloinlijaaa
open Go.RowKit
set_option linter.unusedVariables false
set_option linter.unusedSimpArgs false

theorem before_c (A1 A2 : Option Addr) (c1 c2 : Nat) (a b : List Int) (w : World) (h1 : Is w A1 a) (h2 : Is w A2 b) (hl : a.length ≤ 1000) :
    Calls Try.prog 20 #[.slice A1 a.length c1, .slice A2 b.length c2] w fun e w' => e = .returned (.bool (bef a b)) ∧ Mod (fun _ => False) w w' := by
  have H1 := hid h1
  have H2 := hid h2
  clear h1 h2
  obtain ⟨T, hT⟩ : ∃ T, T = bef a b := ⟨_, rfl⟩
  rw [← hT]
  have HT := hid hT
  clear hT
  go_enter Try.func20, Try.ntmps20
  go_wp2_with fail
  go_loopw [5] (fun s wr => ∃ k : Nat, k ≤ a.length ∧ k ≤ b.length ∧ s = .int .i64 k ∧ Hid (bef (a.drop k) (b.drop k) = T) ∧ Mod (fun _ => False) w wr)
    (fun s _ => a.length - (intOf s).toNat)
  case atStart => exact ⟨0, by omega, by omega, rfl, hid HT.out.symm, Mod.refl _ _⟩
  case round =>
    obtain ⟨k, hk, hk2, rfl, hp, m⟩ := hrel
    have M := hid m
    clear m
    by_cases hlt : k < a.length
    · by_cases hlt2 : k < b.length
      · obtain ⟨y, hy⟩ := getE hlt
        obtain ⟨z, hz⟩ := getE hlt2
        obtain ⟨g, off, rfl, hb, x0⟩ := (H1.out.mod0 M.out).get hy
        obtain ⟨g', off', rfl, hb', x0'⟩ := (H2.out.mod0 M.out).get hz
        have hk1 : (k : Int) < a.length := by omega
        have hk3 : (k : Int) < b.length := by omega
        have hg := hp.out
        rw [drop_at hy, drop_at hz, bef] at hg
        have Hg := hid hg
        clear hy hz hg hp
        by_cases e : y = z
        · subst e
          have hg := Hg.out
          rw [if_pos rfl] at hg
          have Hg2 := hid hg
          clear hg
          go_wp2_with fail
          go_quiet (fail)
          go_wp2_with fail
          go_roundw
          case rel => exact ⟨k + 1, by omega, by omega, by go_num, Hg2, M.out.drewN _⟩
          case measure => simp [intOf]; omega
        · have hg := Hg.out
          rw [if_neg e] at hg
          by_cases hyz : y < z
          · rw [decide_eq_true hyz] at hg
            subst hg
            go_wp2_with fail
            go_quiet (fail)
            go_wp2_with fail
            go_quiet (fail)
            go_wp2_with fail
            go_ret
            exact ⟨by first | rfl | simp [hyz], (M.out.drewN _).drewN _⟩
          · rw [decide_eq_false hyz] at hg
            subst hg
            go_wp2_with fail
            go_quiet (fail)
            go_wp2_with fail
            go_quiet (fail)
            go_wp2_with fail
            go_ret
            exact ⟨by first | rfl | simp [hyz], (M.out.drewN _).drewN _⟩
      · have hkb : k = b.length := by omega
        have hk3 : ¬ (k : Int) < b.length := by omega
        have hk1 : (k : Int) < a.length := by omega
        have hab : ¬ (a.length : Int) < b.length := by omega
        have hg := hp.out
        rw [hkb, List.drop_length] at hg
        have e : bef (a.drop b.length) [] = false := by simp [bef]
        rw [e] at hg
        subst hg
        clear hkb hp e
        go_wp2_with fail
        go_ret
        exact ⟨rfl, M.out⟩
    · have hka : k = a.length := by omega
      have hk1 : ¬ (k : Int) < a.length := by omega
      have hg := hp.out
      rw [hka, List.drop_length] at hg
      by_cases hab : (a.length : Int) < b.length
      · have e : bef [] (b.drop a.length) = true := by
          obtain ⟨z, hz⟩ := getE (show a.length < b.length by omega)
          rw [drop_at hz]
          rfl
        rw [e] at hg
        subst hg
        clear hka hp e
        go_wp2_with fail
        go_ret
        exact ⟨rfl, M.out⟩
      · have e : bef [] (b.drop a.length) = false := by
          rw [List.drop_of_length_le (by omega)]
          rfl
        rw [e] at hg
        subst hg
        clear hka hp e
        go_wp2_with fail
        go_ret
        exact ⟨rfl, M.out⟩

theorem rbefore_c (A1 A2 : Option Addr) (c1 c2 : Nat) (a b : List Int) (w : World) (h1 : Is w A1 a) (h2 : Is w A2 b) (hl : a.length ≤ 1000) :
    Calls Try.prog 30 #[.slice A1 a.length c1, .slice A2 b.length c2] w fun e w' => e = .returned (.bool (bef a b)) ∧ Mod (fun _ => False) w w' := by
  have H1 := hid h1
  have H2 := hid h2
  clear h1 h2
  obtain ⟨T, hT⟩ : ∃ T, T = bef a b := ⟨_, rfl⟩
  rw [← hT]
  have HT := hid hT
  clear hT
  go_enter Try.func30, Try.ntmps30
  go_wp2_with fail
  go_loopw [5] (fun s wr => ∃ k : Nat, k ≤ a.length ∧ k ≤ b.length ∧ s = .int .i64 k ∧ Hid (bef (a.drop k) (b.drop k) = T) ∧ Mod (fun _ => False) w wr)
    (fun s _ => a.length - (intOf s).toNat)
  case atStart => exact ⟨0, by omega, by omega, rfl, hid HT.out.symm, Mod.refl _ _⟩
  case round =>
    obtain ⟨k, hk, hk2, rfl, hp, m⟩ := hrel
    have M := hid m
    clear m
    by_cases hlt : k < a.length
    · by_cases hlt2 : k < b.length
      · obtain ⟨y, hy⟩ := getE hlt
        obtain ⟨z, hz⟩ := getE hlt2
        obtain ⟨g, off, rfl, hb, x0⟩ := (H1.out.mod0 M.out).get hy
        obtain ⟨g', off', rfl, hb', x0'⟩ := (H2.out.mod0 M.out).get hz
        have hk1 : (k : Int) < a.length := by omega
        have hk3 : (k : Int) < b.length := by omega
        have hg := hp.out
        rw [drop_at hy, drop_at hz, bef] at hg
        have Hg := hid hg
        clear hy hz hg hp
        by_cases e : y = z
        · subst e
          have hg := Hg.out
          rw [if_pos rfl] at hg
          have Hg2 := hid hg
          clear hg
          go_wp2_with fail
          go_quiet (fail)
          go_wp2_with fail
          go_roundw
          case rel => exact ⟨k + 1, by omega, by omega, by go_num, Hg2, M.out.drewN _⟩
          case measure => simp [intOf]; omega
        · have hg := Hg.out
          rw [if_neg e] at hg
          by_cases hyz : y < z
          · rw [decide_eq_true hyz] at hg
            subst hg
            go_wp2_with fail
            go_quiet (fail)
            go_wp2_with fail
            go_quiet (fail)
            go_wp2_with fail
            go_ret
            exact ⟨by first | rfl | simp [hyz], (M.out.drewN _).drewN _⟩
          · rw [decide_eq_false hyz] at hg
            subst hg
            go_wp2_with fail
            go_quiet (fail)
            go_wp2_with fail
            go_quiet (fail)
            go_wp2_with fail
            go_ret
            exact ⟨by first | rfl | simp [hyz], (M.out.drewN _).drewN _⟩
      · have hkb : k = b.length := by omega
        have hk3 : ¬ (k : Int) < b.length := by omega
        have hk1 : (k : Int) < a.length := by omega
        have hab : ¬ (a.length : Int) < b.length := by omega
        have hg := hp.out
        rw [hkb, List.drop_length] at hg
        have e : bef (a.drop b.length) [] = false := by simp [bef]
        rw [e] at hg
        subst hg
        clear hkb hp e
        go_wp2_with fail
        go_ret
        exact ⟨rfl, M.out⟩
    · have hka : k = a.length := by omega
      have hk1 : ¬ (k : Int) < a.length := by omega
      have hg := hp.out
      rw [hka, List.drop_length] at hg
      by_cases hab : (a.length : Int) < b.length
      · have e : bef [] (b.drop a.length) = true := by
          obtain ⟨z, hz⟩ := getE (show a.length < b.length by omega)
          rw [drop_at hz]
          rfl
        rw [e] at hg
        subst hg
        clear hka hp e
        go_wp2_with fail
        go_ret
        exact ⟨rfl, M.out⟩
      · have e : bef [] (b.drop a.length) = false := by
          rw [List.drop_of_length_le (by omega)]
          rfl
        rw [e] at hg
        subst hg
        clear hka hp e
        go_wp2_with fail
        go_ret
        exact ⟨rfl, M.out⟩
end Go.Proofs.Ytdnodloinlijaaa
