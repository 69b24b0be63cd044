/- Contracts of the functions of package blade: what each call does to the four cells of a blade. -/
import Derived.Test.YthhiadnjndnjoaaProg
import Derived.Test.YthhiadnjndnjoaaKit
import Derived.Outline
namespace Go.Proofs.Ythhiadnjndnjoaa
open Go.RowKit
set_option linter.unusedVariables false
set_option linter.unusedSimpArgs false

/-- Block b is a blade. -/
def Bl (w : World) (b : Nat) (l s r n : Int) : Prop := At w b (.cells #[.int .i64 l, .int .i64 s, .int .i64 r, .int .i64 n] 48 (0, 0))
theorem Bl.c0 {w : World} {b : Nat} {l s r n : Int} (h : Bl w b l s r n) : w.cell? ⟨b, 0, none⟩ = some (.int .i64 l) := At.cell h 0
theorem Bl.c1 {w : World} {b : Nat} {l s r n : Int} (h : Bl w b l s r n) : w.cell? ⟨b, 1, none⟩ = some (.int .i64 s) := At.cell h 1
theorem Bl.c2 {w : World} {b : Nat} {l s r n : Int} (h : Bl w b l s r n) : w.cell? ⟨b, 2, none⟩ = some (.int .i64 r) := At.cell h 2
theorem Bl.c3 {w : World} {b : Nat} {l s r n : Int} (h : Bl w b l s r n) : w.cell? ⟨b, 3, none⟩ = some (.int .i64 n) := At.cell h 3
theorem Bl.fr {w : World} {b : Nat} {l s r n : Int} (h : Bl w b l s r n) (i : Nat) : w.frozen? ⟨b, i, none⟩ = false := At.free h i
theorem Bl.lt {w : World} {b : Nat} {l s r n : Int} (h : Bl w b l s r n) : b < w.heap.size := At.lt h

theorem new_low (l : Int) (w : World) (h : l < 1) :
    Calls Try.prog 9 #[.int .i64 l] w fun e w' => e = .returned (.tuple #[.pointer none, .int .i64 9]) ∧ w = w' := by
  go_enter Try.func9, Try.ntmps9
  go_wp2
  go_ret2
  exact ⟨rfl, rfl⟩
theorem new_high (l : Int) (w : World) (h : 1000000000000 < l) :
    Calls Try.prog 9 #[.int .i64 l] w fun e w' => e = .returned (.tuple #[.pointer none, .int .i64 9]) ∧ w = w' := by
  have h1 : ¬ l < 1 := by omega
  go_enter Try.func9, Try.ntmps9
  go_wp2
  go_ret2
  exact ⟨rfl, rfl⟩
theorem new_bad (l : Int) (w : World) (h : l < 1 ∨ 1000000000000 < l) :
    Calls Try.prog 9 #[.int .i64 l] w fun e w' => e = .returned (.tuple #[.pointer none, .int .i64 9]) ∧ w = w' := by
  rcases h with h | h
  · exact new_low l w h
  · exact new_high l w h
theorem new_good0 (l : Int) (w : World) (h : 1 ≤ l) (h2 : l ≤ 1000000000000) :
    Calls Try.prog 9 #[.int .i64 l] w fun e w' => e = .returned (.tuple #[.pointer (some ⟨w.heap.size, 0, none⟩), .int .i64 0]) ∧ w.alloc (.cells #[.int .i64 l, .int .i64 1, .int .i64 0, .int .i64 0] 48) = w' := by
  go_enter Try.func9, Try.ntmps9
  go_wp2
  go_ret2
  exact ⟨rfl, rfl⟩
theorem new_good (l : Int) (w : World) (h : 1 ≤ l) (h2 : l ≤ 1000000000000) :
    Calls Try.prog 9 #[.int .i64 l] w fun e w' => ∃ b, e = .returned (.tuple #[.pointer (some ⟨b, 0, none⟩), .int .i64 0]) ∧ w.heap.size ≤ b ∧ Bl w' b l 1 0 0 ∧ Mod (fun _ => False) w w' := by
  refine (new_good0 l w h h2).mono ?_
  rintro e w' ⟨rfl, rfl⟩
  exact ⟨_, rfl, Nat.le_refl _, At.new _ _, (Mod.refl _ _).alloc _⟩

/-! ### Start, Stop, Sharpen, Cut -/
theorem start_dull (b : Nat) (w : World) (h1 : w.cell? ⟨b, 1, none⟩ = some (.int .i64 4)) :
    Calls Try.prog 13 #[.pointer (some ⟨b, 0, none⟩)] w fun e w' => e = .returned (.int .i64 17) ∧ w = w' := by
  go_enter Try.func13, Try.ntmps13
  go_wp2
  go_ret
  exact ⟨rfl, rfl⟩
theorem start_run (b : Nat) (w : World) (h1 : w.cell? ⟨b, 1, none⟩ = some (.int .i64 2)) :
    Calls Try.prog 13 #[.pointer (some ⟨b, 0, none⟩)] w fun e w' => e = .returned (.int .i64 14) ∧ w = w' := by
  go_enter Try.func13, Try.ntmps13
  go_wp2
  go_ret
  exact ⟨rfl, rfl⟩
theorem start_ok (b : Nat) (s : Int) (w : World) (h1 : w.cell? ⟨b, 1, none⟩ = some (.int .i64 s)) (hf : w.frozen? ⟨b, 1, none⟩ = false) (hs : ¬ s = 2) (ht : ¬ s = 4) :
    Calls Try.prog 13 #[.pointer (some ⟨b, 0, none⟩)] w fun e w' => e = .returned (.int .i64 0) ∧ w.setCell ⟨b, 1, none⟩ (.int .i64 2) = w' := by
  go_enter Try.func13, Try.ntmps13
  go_wp2
  go_ret
  exact ⟨rfl, rfl⟩
theorem stop_ok (b : Nat) (w : World) (h1 : w.cell? ⟨b, 1, none⟩ = some (.int .i64 2)) (hf : w.frozen? ⟨b, 1, none⟩ = false) :
    Calls Try.prog 20 #[.pointer (some ⟨b, 0, none⟩)] w fun e w' => e = .returned (.int .i64 0) ∧ w.setCell ⟨b, 1, none⟩ (.int .i64 3) = w' := by
  go_enter Try.func20, Try.ntmps20
  go_wp2
  go_ret
  exact ⟨rfl, rfl⟩
theorem stop_no (b : Nat) (s : Int) (w : World) (h1 : w.cell? ⟨b, 1, none⟩ = some (.int .i64 s)) (hs : ¬ s = 2) :
    Calls Try.prog 20 #[.pointer (some ⟨b, 0, none⟩)] w fun e w' => e = .returned (.int .i64 14) ∧ w = w' := by
  go_enter Try.func20, Try.ntmps20
  go_wp2
  go_ret
  exact ⟨rfl, rfl⟩
theorem sharpen_no (b : Nat) (w : World) (hb : b < w.heap.size) (h1 : w.cell? ⟨b, 1, none⟩ = some (.int .i64 2)) :
    Calls Try.prog 21 #[.pointer (some ⟨b, 0, none⟩)] w fun e w' => e = .returned (.int .i64 14) ∧ Mod (fun _ => False) w w' := by
  have hb1 : b < w.heap.size + 1 := by omega
  go_enter Try.func21, Try.ntmps21
  go_wp2
  go_ret
  exact ⟨rfl, (Mod.refl _ _).alloc _⟩
theorem sharpen_ok (b : Nat) (l s r n : Int) (w : World) (hB : Bl w b l s r n) (hs : ¬ s = 2) :
    Calls Try.prog 21 #[.pointer (some ⟨b, 0, none⟩)] w fun e w' => e = .returned (.int .i64 0) ∧ Bl w' b l 1 0 n ∧ Mod (· = b) w w' := by
  have hb := hB.lt
  have hb1 : b < w.heap.size + 1 := by omega
  have h1 := hB.c1
  have h2 := hB.c2
  have f1 := hB.fr 1
  have f2 := hB.fr 2
  go_enter Try.func21, Try.ntmps21
  go_wp2
  go_ret
  exact ⟨rfl, (by first | exact ((hB.alloc _).put 2 _).put 1 _ | exact ((hB.put 2 _).put 1 _).alloc _), (by repeat first | exact Mod.refl _ _ | refine Mod.alloc ?_ _ | refine Mod.put ?_ _ (fun _ => rfl))⟩
theorem cut_no (b : Nat) (l s r n a : Int) (w : World) (hB : Bl w b l s r n) (hs : ¬ s = 2) :
    Calls Try.prog 14 #[.pointer (some ⟨b, 0, none⟩), .int .i64 a] w fun e w' => e = .returned (.tuple #[.int .i64 0, .int .i64 14]) ∧ Bl w' b l s r n ∧ Mod (· = b) w w' := by
  have hb := hB.lt
  have hb1 : b < w.heap.size + 1 := by omega
  have hb2 : b < w.heap.size + 1 + 1 := by omega
  have hb3 : b < w.heap.size + 1 + 1 + 1 := by omega
  have h1 := hB.c1
  go_enter Try.func14, Try.ntmps14
  go_wp2
  go_ret2
  exact ⟨rfl, ((hB.alloc _).alloc _).alloc _, (by repeat first | exact Mod.refl _ _ | refine Mod.alloc ?_ _ | refine Mod.put ?_ _ (fun _ => rfl))⟩
theorem cut_low (b : Nat) (l r n a : Int) (w : World) (hB : Bl w b l 2 r n) (ha : a < 0) :
    Calls Try.prog 14 #[.pointer (some ⟨b, 0, none⟩), .int .i64 a] w fun e w' => e = .returned (.tuple #[.int .i64 0, .int .i64 9]) ∧ Bl w' b l 2 r n ∧ Mod (· = b) w w' := by
  have hb := hB.lt
  have hb1 : b < w.heap.size + 1 := by omega
  have hb2 : b < w.heap.size + 1 + 1 := by omega
  have hb3 : b < w.heap.size + 1 + 1 + 1 := by omega
  have h1 := hB.c1
  go_enter Try.func14, Try.ntmps14
  go_wp2
  go_ret2
  exact ⟨rfl, ((hB.alloc _).alloc _).alloc _, (by repeat first | exact Mod.refl _ _ | refine Mod.alloc ?_ _ | refine Mod.put ?_ _ (fun _ => rfl))⟩
theorem cut_high (b : Nat) (l r n a : Int) (w : World) (hB : Bl w b l 2 r n) (ha : 10000000000 < a) :
    Calls Try.prog 14 #[.pointer (some ⟨b, 0, none⟩), .int .i64 a] w fun e w' => e = .returned (.tuple #[.int .i64 0, .int .i64 9]) ∧ Bl w' b l 2 r n ∧ Mod (· = b) w w' := by
  have hb := hB.lt
  have hb1 : b < w.heap.size + 1 := by omega
  have hb2 : b < w.heap.size + 1 + 1 := by omega
  have hb3 : b < w.heap.size + 1 + 1 + 1 := by omega
  have h1 := hB.c1
  have ha0 : ¬ a < 0 := by omega
  go_enter Try.func14, Try.ntmps14
  go_wp2
  go_ret2
  exact ⟨rfl, ((hB.alloc _).alloc _).alloc _, (by repeat first | exact Mod.refl _ _ | refine Mod.alloc ?_ _ | refine Mod.put ?_ _ (fun _ => rfl))⟩
end Go.Proofs.Ythhiadnjndnjoaa
