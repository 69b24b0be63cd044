/- The laws BladeMakes and BladeNone: walks. -/
import Derived.Test.YthhiadnjndnjoaaAwake
namespace Go.Proofs.Ythhiadnjndnjoaa
open Go.RowKit
set_option linter.unusedVariables false
set_option linter.unusedSimpArgs false

theorem nil_start (w : World) : Calls Try.prog 13 #[.pointer none] w fun e w' => e = .returned (.int .i64 1) ∧ Mod (fun _ => False) w w' := by
  go_enter Try.func13, Try.ntmps13
  go_wp2
  go_ret
  exact ⟨rfl, by repeat first | with_reducible exact Mod.refl _ _ | with_reducible refine Mod.drew ?_ | with_reducible refine Mod.alloc ?_ _⟩
theorem nil_stop (w : World) : Calls Try.prog 20 #[.pointer none] w fun e w' => e = .returned (.int .i64 1) ∧ Mod (fun _ => False) w w' := by
  go_enter Try.func20, Try.ntmps20
  go_wp2
  go_ret
  exact ⟨rfl, by repeat first | with_reducible exact Mod.refl _ _ | with_reducible refine Mod.drew ?_ | with_reducible refine Mod.alloc ?_ _⟩
theorem nil_sharpen (w : World) : Calls Try.prog 21 #[.pointer none] w fun e w' => e = .returned (.int .i64 1) ∧ Mod (fun _ => False) w w' := by
  go_enter Try.func21, Try.ntmps21
  go_wp2
  go_ret
  exact ⟨rfl, by repeat first | with_reducible exact Mod.refl _ _ | with_reducible refine Mod.drew ?_ | with_reducible refine Mod.alloc ?_ _⟩
theorem nil_cut (a : Int) (w : World) : Calls Try.prog 14 #[.pointer none, .int .i64 a] w fun e w' => e = .returned (.tuple #[.int .i64 0, .int .i64 1]) ∧ Mod (fun _ => False) w w' := by
  go_enter Try.func14, Try.ntmps14
  go_wp2
  go_ret2
  exact ⟨rfl, by repeat first | with_reducible exact Mod.refl _ _ | with_reducible refine Mod.drew ?_ | with_reducible refine Mod.alloc ?_ _⟩

theorem bladeNone_walk (a : Int) (w : World) (_ : (Lit.int .i64 a).wf = true) :
    Calls Try.prog 8 #[.int .i64 a] w fun e w' => e = .returned (.bool true) ∧ Below w.heap.size w w' := by
  go_enter Try.func8, Try.ntmps8
  go_wp2_with fail
  refine (nil_cut a w).mono ?_
  rintro e w1 ⟨rfl, m1⟩
  go_wp2_with fail
  refine (nil_start w1).mono ?_
  rintro e w2 ⟨rfl, m2⟩
  go_wp2_with fail
  refine (nil_stop w2).mono ?_
  rintro e w3 ⟨rfl, m3⟩
  go_wp2_with fail
  refine (nil_sharpen w3).mono ?_
  rintro e w4 ⟨rfl, m4⟩
  go_wp2_with (first | (go_at_call 12; refine (awake_c w4).mono ?_; rintro e w5 ⟨rfl, m5⟩) | go_in)
  go_ret
  exact ⟨rfl, (((((m1.trans m2).trans m3).trans m4).trans m5)).toBelow _ (Nat.le_refl _) (fun _ _ h => h)⟩

theorem quiet_c {f : FuncId} {args : Array Value} {W : World} {v : Value} {w : World} {n : Nat} (hW : W = w.drewN n) (h : Calls Try.prog f args W fun e w' => e = .returned v ∧ W = w') :
    Calls Try.prog f args (w.drewN n) fun e w'' => e = .returned v ∧ ∃ m, w'' = w.drewN m := by
  subst hW
  exact h.mono fun _ _ ⟨he, hm⟩ => ⟨he, n, hm.symm⟩

theorem state_b {b : Nat} {w : World} {l s r n : Int} (hB : Bl w b l s r n) :
    Calls Try.prog 15 #[.pointer (some ⟨b, 0, none⟩)] w fun e w' => e = .returned (.int .i64 s) ∧ w = w' := state_c (x := ⟨l, s, r, n⟩) hB
theorem wear_b {b : Nat} {w : World} {l s r n : Int} (hB : Bl w b l s r n) :
    Calls Try.prog 16 #[.pointer (some ⟨b, 0, none⟩)] w fun e w' => e = .returned (.int .i64 r) ∧ w = w' := wear_c (x := ⟨l, s, r, n⟩) hB
theorem sawn_b {b : Nat} {w : World} {l s r n : Int} (hB : Bl w b l s r n) :
    Calls Try.prog 19 #[.pointer (some ⟨b, 0, none⟩)] w fun e w' => e = .returned (.int .i64 n) ∧ w = w' := sawn_c (x := ⟨l, s, r, n⟩) hB

theorem is_c {b : Nat} {w : World} {x : B} (hB : BlX w b x) :
    Calls Try.prog 11 #[.pointer (some ⟨b, 0, none⟩), x.agg] w fun e w' => e = .returned (.bool true) ∧ Mod (fun _ => False) w w' := by
  obtain ⟨l, s, r, n⟩ := x
  have hB' : Bl w b l s r n := hB
  have hA : ∀ o k, Bl ((w.alloc o).drewN k) b l s r n := fun o k => At.drewN (At.alloc hB' o) k
  have e1 : (s == s) = true := by simp
  have e2 : (r == r) = true := by simp
  have e3 : (n == n) = true := by simp
  show Calls Try.prog 11 #[.pointer (some ⟨b, 0, none⟩), .agg #[.int .i64 l, .int .i64 s, .int .i64 r, .int .i64 n]] w _
  go_enter Try.func11, Try.ntmps11
  go_wp2_with fail
  go_quiet (first | (go_at_call 15; exact quiet_c rfl (state_b (hA _ _))) | (go_at_call 16; exact quiet_c rfl (wear_b (hA _ _))) | (go_at_call 19; exact quiet_c rfl (sawn_b (hA _ _))))
  go_wp2_with fail
  go_ret
  exact ⟨rfl, ((Mod.refl _ _).alloc _).drewN _⟩
end Go.Proofs.Ythhiadnjndnjoaa
