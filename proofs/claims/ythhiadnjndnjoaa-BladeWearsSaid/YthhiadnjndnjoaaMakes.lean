/- The law BladeMakes: the walk. -/
import Derived.Test.YthhiadnjndnjoaaNone
namespace Go.Proofs.Ythhiadnjndnjoaa
open Go.RowKit
set_option linter.unusedVariables false
set_option linter.unusedSimpArgs false

theorem rnew_bad (l : Int) (w : World) (h : l < 1 ∨ 1000000000000 < l) :
    Calls Try.prog 10 #[.int .i64 l] w fun e w' => e = .returned (.tuple #[agg4 0 0 0 0, .int .i64 9]) ∧ Mod (fun _ => False) w w' := by
  rcases h with h | h
  · exact rnew_low l w h
  · exact rnew_high l w h

theorem bladeMakes_walk (l : Int) (w : World) (_ : (Lit.int .i64 l).wf = true) :
    Calls Try.prog 3 #[.int .i64 l] w fun e w' => e = .returned (.bool true) ∧ Below w.heap.size w w' := by
  by_cases hb : l < 1 ∨ 1000000000000 < l
  · go_enter Try.func3, Try.ntmps3
    go_wp2_with fail
    refine (new_bad l w hb).mono ?_
    rintro e w' ⟨rfl, rfl⟩
    go_wp2_with fail
    refine (rnew_bad l w hb).mono ?_
    rintro e w1 ⟨rfl, m1⟩
    go_wp2_with (first | (go_at_call 12; refine (awake_c _).mono ?_; rintro e w5 ⟨rfl, m5⟩) | fail)
    go_ret
    exact ⟨rfl, (((m1.alloc _)).trans m5).toBelow _ (Nat.le_refl _) (fun _ _ h => h)⟩
  · go_enter Try.func3, Try.ntmps3
    go_wp2_with fail
    refine (new_c l w (by omega) (by omega)).mono ?_
    rintro e w1 ⟨b, rfl, hb1, h1, m1⟩
    go_wp2_with fail
    refine (rnew_good l w1 (by omega) (by omega)).mono ?_
    rintro e w2 ⟨rfl, m2⟩
    have h2 : BlX w2 b ⟨l, 1, 0, 0⟩ := At.mod h1 m2 id
    go_wp2_with fail
    go_outline
    refine (is_c (x := ⟨l, 1, 0, 0⟩) (At.alloc h2 _)).mono ?_
    rintro e w3 ⟨rfl, m3⟩
    go_wp2_with fail
    refine (awake_c _).mono ?_
    rintro e w5 ⟨rfl, m5⟩
    go_wp2_with fail
    go_ret
    exact ⟨rfl, ((((m1.trans m2).alloc _).trans m3).trans m5).toBelow _ (Nat.le_refl _) (fun _ _ h => h)⟩
end Go.Proofs.Ythhiadnjndnjoaa
