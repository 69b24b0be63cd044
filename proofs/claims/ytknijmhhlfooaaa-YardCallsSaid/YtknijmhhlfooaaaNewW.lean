/- The law YardNew: its walk. -/
import Derived.Test.YtknijmhhlfooaaaAlike
namespace Go.Proofs.Ytknijmhhlfooaaa
open Go.RowKit
set_option linter.unusedVariables false
set_option linter.unusedSimpArgs false

set_option maxHeartbeats 800000 in
theorem yardNew_walk (nb cap : Int) (w : World) (_ : (Lit.int .i64 nb).wf = true) (_ : (Lit.int .i64 cap).wf = true) :
    Calls Try.prog 5 #[.int .i64 nb, .int .i64 cap] w fun e w' => e = .returned (.bool true) ∧ Below w.heap.size w w' := by
  by_cases hbad : nb < 1 ∨ (1 ≤ nb ∧ 16 < nb) ∨ (1 ≤ nb ∧ nb ≤ 16 ∧ cap < 1) ∨ (1 ≤ nb ∧ nb ≤ 16 ∧ 1 ≤ cap ∧ 32 < cap)
  · have Hb := hid hbad
    clear hbad
    go_enter Try.func5, Try.ntmps5
    go_wp2_with fail
    refine (new_bad nb cap _ Hb.out).mono ?_
    rintro e w1 ⟨rfl, rfl⟩
    go_wp2_with fail
    refine (rnew_bad nb cap _ Hb.out).mono ?_
    rintro e w1 ⟨rfl, m1⟩
    go_wp2_with fail
    refine (awake_c _).mono ?_
    rintro e w2 ⟨rfl, m2⟩
    go_wp2_with fail
    go_ret
    exact ⟨rfl, (((m1.alloc _).below m2 (Nat.le_trans m1.size (by simp)))).toBelow _ (Nat.le_refl _) (fun _ _ h => h)⟩
  · obtain ⟨a, rfl⟩ : ∃ a : Nat, nb = a := ⟨nb.toNat, by omega⟩
    have hb1 : 1 ≤ a := by omega
    have hb2 : a ≤ 16 := by omega
    have hb3 : 1 ≤ cap := by omega
    have hb4 : cap ≤ 32 := by omega
    have F0 : Hid (Fits cap 0 (List.replicate a [])) := fits_of (by simpa using hb1) (by simpa using hb2) hb3 hb4 (by intro l hl; rw [List.eq_of_mem_replicate hl]; simp; omega) (by omega)
    clear hbad
    go_enter Try.func5, Try.ntmps5
    go_wp2_with fail
    refine (new_good a cap _ hb1 hb2 hb3 hb4).mono ?_
    rintro e w1 ⟨y, rfl, hY, m1⟩
    have HY := hid hY
    clear hY
    go_wp2_with fail
    refine (rnew_good a cap w1 hb1 hb2 hb3 hb4).mono ?_
    rintro e w2 ⟨v, rfl, hR, m2⟩
    have HA := hid (Ages.empty a)
    generalize List.replicate a ([] : List Pc) = bays at HY F0 hR HA
    generalize ([] : List Pc) = ag at hR HA
    have HR := hid hR
    obtain ⟨vb, va, rfl, hb, ha⟩ := hR
    obtain ⟨A, c, rfl⟩ := ha.val
    obtain ⟨Ab, cb, rfl⟩ := hb.val
    clear hb ha
    have hY2 := hid (HY.out.mod0 m2)
    go_wp2_with fail
    refine (alike_c _ (hY2.out.mod0 ((Mod.refl _ _).alloc _)) (HR.out.mod0 ((Mod.refl _ _).alloc _)) F0.out HA.out).mono ?_
    rintro e w3 ⟨rfl, m3⟩
    go_wp2_with fail
    refine (awake_c _).mono ?_
    rintro e w4 ⟨rfl, m4⟩
    go_wp2_with fail
    go_ret
    exact ⟨rfl, ((((m1.trans m2).alloc _).trans m3).below m4 (((m1.trans m2).alloc _).trans m3).size).toBelow _ (Nat.le_refl _) (fun _ _ h => h)⟩
end Go.Proofs.Ytknijmhhlfooaaa
