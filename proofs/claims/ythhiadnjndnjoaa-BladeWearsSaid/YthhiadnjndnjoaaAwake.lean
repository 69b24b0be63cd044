/- The example of the chapter: awake returns true; and the contracts by equations. -/
import Derived.Test.YthhiadnjndnjoaaAny
namespace Go.Proofs.Ythhiadnjndnjoaa
open Go.RowKit
set_option linter.unusedVariables false
set_option linter.unusedSimpArgs false

theorem start_eq {b : Nat} {w : World} {x y : B} {e : Int} (hB : BlX w b x) (h : x.start = (y, e)) :
    Calls Try.prog 13 #[.pointer (some ⟨b, 0, none⟩)] w fun e' w' => e' = .returned (.int .i64 e) ∧ BlX w' b y ∧ Mod (· = b) w w' := by
  have := start_any b x w hB
  rw [h] at this
  exact this
theorem stop_eq {b : Nat} {w : World} {x y : B} {e : Int} (hB : BlX w b x) (h : x.stop = (y, e)) :
    Calls Try.prog 20 #[.pointer (some ⟨b, 0, none⟩)] w fun e' w' => e' = .returned (.int .i64 e) ∧ BlX w' b y ∧ Mod (· = b) w w' := by
  have := stop_any b x w hB
  rw [h] at this
  exact this
theorem sharpen_eq {b : Nat} {w : World} {x y : B} {e : Int} (hB : BlX w b x) (h : x.sharpen = (y, e)) :
    Calls Try.prog 21 #[.pointer (some ⟨b, 0, none⟩)] w fun e' w' => e' = .returned (.int .i64 e) ∧ BlX w' b y ∧ Mod (· = b) w w' := by
  have := sharpen_any b x w hB
  rw [h] at this
  exact this
theorem cut_eq {b : Nat} {w : World} {x y : B} {a n e : Int} (hB : BlX w b x) (hx : x.ok 1000000000000000) (h : x.cut a = (y, n, e)) :
    Calls Try.prog 14 #[.pointer (some ⟨b, 0, none⟩), .int .i64 a] w fun e' w' => e' = .returned (.tuple #[.int .i64 n, .int .i64 e]) ∧ BlX w' b y ∧ Mod (· = b) w w' := by
  have := cut_any b x a w hB hx
  rw [h] at this
  exact this
theorem state_c {b : Nat} {w : World} {x : B} (hB : BlX w b x) :
    Calls Try.prog 15 #[.pointer (some ⟨b, 0, none⟩)] w fun e w' => e = .returned (.int .i64 x.s) ∧ w = w' := by
  have h := Bl.c1 hB
  go_enter Try.func15, Try.ntmps15
  go_wp2
  go_ret
  exact ⟨rfl, rfl⟩
theorem wear_c {b : Nat} {w : World} {x : B} (hB : BlX w b x) :
    Calls Try.prog 16 #[.pointer (some ⟨b, 0, none⟩)] w fun e w' => e = .returned (.int .i64 x.r) ∧ w = w' := by
  have h := Bl.c2 hB
  go_enter Try.func16, Try.ntmps16
  go_wp2
  go_ret
  exact ⟨rfl, rfl⟩
theorem sawn_c {b : Nat} {w : World} {x : B} (hB : BlX w b x) :
    Calls Try.prog 19 #[.pointer (some ⟨b, 0, none⟩)] w fun e w' => e = .returned (.int .i64 x.n) ∧ w = w' := by
  have h := Bl.c3 hB
  go_enter Try.func19, Try.ntmps19
  go_wp2
  go_ret
  exact ⟨rfl, rfl⟩
theorem new_c (l : Int) (w : World) (h : 1 ≤ l) (h2 : l ≤ 1000000000000) :
    Calls Try.prog 9 #[.int .i64 l] w fun e w' => ∃ b, e = .returned (.tuple #[.pointer (some ⟨b, 0, none⟩), .int .i64 0]) ∧ w.heap.size ≤ b ∧ BlX w' b ⟨l, 1, 0, 0⟩ ∧ Mod (fun _ => False) w w' := new_good l w h h2

theorem awake_c (w : World) : Calls Try.prog 12 #[] w fun e w' => e = .returned (.bool true) ∧ Mod (fun _ => False) w w' := by
  go_enter Try.func12, Try.ntmps12
  go_wp2_with fail
  refine (new_c 100 w (by omega) (by omega)).mono ?_
  rintro e w1 ⟨b, rfl, hb, h1, m1⟩
  go_wp2_with fail
  refine (state_c h1).mono ?_
  rintro e w' ⟨rfl, rfl⟩
  go_wp2_with fail
  refine (start_eq (y := ⟨100, 2, 0, 0⟩) (e := 0) h1 rfl).mono ?_
  rintro e w2 ⟨rfl, h2, m2⟩
  go_wp2_with fail
  refine (cut_eq (y := ⟨100, 2, 60, 60⟩) (n := 60) (e := 0) h2 ⟨by decide, by decide, by decide, by decide, by decide, by decide⟩ rfl).mono ?_
  rintro e w3 ⟨rfl, h3, m3⟩
  go_wp2_with fail
  refine (cut_eq (y := ⟨100, 4, 100, 100⟩) (n := 40) (e := 0) h3 ⟨by decide, by decide, by decide, by decide, by decide, by decide⟩ rfl).mono ?_
  rintro e w4 ⟨rfl, h4, m4⟩
  go_wp2_with fail
  refine (state_c h4).mono ?_
  rintro e w' ⟨rfl, rfl⟩
  go_wp2_with fail
  refine (start_eq (y := ⟨100, 4, 100, 100⟩) (e := 17) h4 rfl).mono ?_
  rintro e w5 ⟨rfl, h5, m5⟩
  go_wp2_with fail
  refine (sharpen_eq (y := ⟨100, 1, 0, 100⟩) (e := 0) h5 rfl).mono ?_
  rintro e w6 ⟨rfl, h6, m6⟩
  go_wp2_with fail
  refine (state_c h6).mono ?_
  rintro e w' ⟨rfl, rfl⟩
  go_wp2_with fail
  refine (sawn_c h6).mono ?_
  rintro e w' ⟨rfl, rfl⟩
  go_wp2_with fail
  refine (wear_c h6).mono ?_
  rintro e w' ⟨rfl, rfl⟩
  go_wp2_with fail
  go_ret
  exact ⟨rfl, ((((m1.trans' m2 (by omega)).trans' m3 (by omega)).trans' m4 (by omega)).trans' m5 (by omega)).trans' m6 (by omega)⟩
end Go.Proofs.Ythhiadnjndnjoaa
