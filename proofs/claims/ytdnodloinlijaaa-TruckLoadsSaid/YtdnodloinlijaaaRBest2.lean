/- The specification's Best; few. -/
import Derived.Test.YtdnodloinlijaaaRbest
namespace Go.Proofs.Ytdnodloinlijaaa
open Go.RowKit
set_option linter.unusedVariables false
set_option linter.unusedSimpArgs false

def rbestR (l : List Pc) (W V : Int) : List Int := if checkF l W V = 0 then rbestF l (List.replicate l.length true) W V else []
theorem rBest_c (A : Option Addr) (c : Nat) (l : List Pc) (W V : Int) (w : World) (h : Ps w A l) :
    Calls Try.prog 16 #[.slice A l.length c, .int .i64 W, .int .i64 V] w fun e w' => ∃ B d, e = .returned (.tuple #[.slice B (rbestR l W V).length d, .int .i64 (checkF l W V)]) ∧
      Is w' B (rbestR l W V) ∧ Mod (fun _ => False) w w' := by
  have hck := rcheck_c A c l W V w h
  by_cases hc : checkF l W V = 0
  · have e : rbestR l W V = rbestF l (List.replicate l.length true) W V := by rw [rbestR, if_pos hc]
    rw [e, hc]
    rw [hc] at hck
    obtain ⟨h16, _, _, hok⟩ := checkF_ok hc
    clear e hc
    have hb := hid (fun (B : Option Addr) (d : Nat) (w2 : World) (m : Mod (fun _ => False) w w2) (hB : Bs w2 B (List.replicate l.length true)) => rbest_c A c l B d (List.replicate l.length true) W V w2 (h.mod0 m) hB h16 hok (by simp))
    generalize rbestF l (List.replicate l.length true) W V = L at *
    go_enter Try.func16, Try.ntmps16
    go_wp2_with fail
    refine hck.mono ?_
    rintro e w1 ⟨rfl, m1⟩
    have M1 := hid m1
    clear m1
    go_wp2_with fail
    refine (all_c l.length w1 h16).mono ?_
    rintro e w2 ⟨B2, d2, rfl, hB2, m2⟩
    have HB2 := hid hB2
    have M2 := hid (M1.out.trans m2)
    clear hB2 m2
    go_wp2_with fail
    refine (hb.out B2 d2 w2 M2.out (Bs.own HB2.out)).mono ?_
    rintro e w3 ⟨B3, d3, rfl, h3, m3⟩
    go_wp2_with fail
    go_ret2
    exact ⟨B3, d3, rfl, Is.own h3, M2.out.trans m3⟩
  · have e : rbestR l W V = [] := by rw [rbestR, if_neg hc]
    rw [e]
    clear e
    generalize checkF l W V = r at hc hck
    go_enter Try.func16, Try.ntmps16
    go_wp2_with fail
    refine hck.mono ?_
    rintro e w1 ⟨rfl, m1⟩
    go_wp2_with fail
    go_ret2
    exact ⟨none, 0, rfl, Is.nil _ _, m1⟩
def fewF (n : Nat) : Bool := decide (n ≤ 12) || (decide (16 < n) && decide (n ≤ 40))
theorem few_c (A : Option Addr) (c n : Nat) (W V : Int) (w : World) :
    Calls Try.prog 14 #[.agg #[.slice A n c, .int .i64 W, .int .i64 V]] w fun e w' => e = .returned (.bool (fewF n)) ∧ Mod (fun _ => False) w w' := by
  by_cases h1 : (n : Int) ≤ 12
  · have e : fewF n = true := by simp [fewF]; omega
    rw [e]
    clear e
    go_enter Try.func14, Try.ntmps14
    go_wp2_with fail
    go_ret
    exact ⟨rfl, (Mod.refl _ _).alloc _⟩
  · by_cases h2 : (16 : Int) < (n : Int)
    · by_cases h3 : (n : Int) ≤ 40
      · have e : fewF n = true := by simp [fewF]; omega
        rw [e]
        have h2' : (n : Int) > 16 := h2
        clear e
        go_enter Try.func14, Try.ntmps14
        go_wp2_with fail
        go_ret
        exact ⟨rfl, (Mod.refl _ _).alloc _⟩
      · have e : fewF n = false := by simp [fewF]; omega
        rw [e]
        clear e
        go_enter Try.func14, Try.ntmps14
        go_wp2_with fail
        go_ret
        exact ⟨rfl, (Mod.refl _ _).alloc _⟩
    · have e : fewF n = false := by simp [fewF]; omega
      rw [e]
      clear e
      go_enter Try.func14, Try.ntmps14
      go_wp2_with fail
      go_ret
      exact ⟨rfl, (Mod.refl _ _).alloc _⟩
end Go.Proofs.Ytdnodloinlijaaa
