/- Contracts of Cut where the saw runs. -/
import Derived.Test.YthhiadnjndnjoaaFn
namespace Go.Proofs.Ythhiadnjndnjoaa
open Go.RowKit
set_option linter.unusedVariables false
set_option linter.unusedSimpArgs false

theorem cut_part (b : Nat) (l r n a : Int) (w : World) (hB : Bl w b l 2 r n) (ha0 : 0 ≤ a) (ha1 : a ≤ 10000000000) (hr : 0 ≤ r) (hl : r + a < l) (hl2 : l ≤ 1000000000000) (hn : 0 ≤ n) (hn2 : n ≤ 1000000000000000) :
    Calls Try.prog 14 #[.pointer (some ⟨b, 0, none⟩), .int .i64 a] w fun e w' => e = .returned (.tuple #[.int .i64 a, .int .i64 0]) ∧ Bl w' b l 2 (r + a) (n + a) ∧ Mod (· = b) w w' := by
  have hb := hB.lt
  have hb1 : b < w.heap.size + 1 := by omega
  have hb2 : b < w.heap.size + 1 + 1 := by omega
  have hb3 : b < w.heap.size + 1 + 1 + 1 := by omega
  have h0 := hB.c0
  have h1 := hB.c1
  have h2 := hB.c2
  have h3 := hB.c3
  have f1 := hB.fr 1
  have f2 := hB.fr 2
  have f3 := hB.fr 3
  have hd : (r + a == l) = false := by simp; omega
  have hne : ¬ (b = w.heap.size + 1 + 1) := by omega
  go_enter Try.func14, Try.ntmps14
  go_wp2
  go_region
  all_goals go_wp2
  all_goals go_region
  all_goals go_wp2
  all_goals go_region
  all_goals go_wp2
  all_goals go_region
  all_goals go_wp2
  all_goals go_ret2
  all_goals exact ⟨rfl, (((((((hB.put 2 _).put 3 _).put 1 _).alloc _).alloc _).alloc _).drew).drew.drew.drew, (by repeat first | with_reducible exact Mod.refl _ _ | with_reducible refine Mod.drew ?_ | with_reducible refine Mod.alloc ?_ _ | with_reducible refine Mod.put ?_ _ (fun _ => rfl))⟩

theorem cut_exact (b : Nat) (r n a : Int) (w : World) (hB : Bl w b (r + a) 2 r n) (ha0 : 0 ≤ a) (ha1 : a ≤ 10000000000) (hr : 0 ≤ r) (hl2 : r + a ≤ 1000000000000) (hn : 0 ≤ n) (hn2 : n ≤ 1000000000000000) :
    Calls Try.prog 14 #[.pointer (some ⟨b, 0, none⟩), .int .i64 a] w fun e w' => e = .returned (.tuple #[.int .i64 a, .int .i64 0]) ∧ Bl w' b (r + a) 4 (r + a) (n + a) ∧ Mod (· = b) w w' := by
  have hb := hB.lt
  have hb1 : b < w.heap.size + 1 := by omega
  have hb2 : b < w.heap.size + 1 + 1 := by omega
  have hb3 : b < w.heap.size + 1 + 1 + 1 := by omega
  have h0 := hB.c0
  have h1 := hB.c1
  have h2 := hB.c2
  have h3 := hB.c3
  have f1 := hB.fr 1
  have f2 := hB.fr 2
  have f3 := hB.fr 3
  have hd : a ≤ r + a - r := by omega
  have hne : ¬ (b = w.heap.size + 1 + 1) := by omega
  go_enter Try.func14, Try.ntmps14
  go_wp2
  go_region
  all_goals go_wp2
  all_goals go_region
  all_goals go_wp2
  all_goals go_region
  all_goals go_wp2
  all_goals go_region
  all_goals go_wp2
  all_goals go_ret2
  all_goals exact ⟨rfl, (((((((hB.put 2 _).put 3 _).put 1 _).alloc _).alloc _).alloc _).drew).drew.drew.drew, (by repeat first | with_reducible exact Mod.refl _ _ | with_reducible refine Mod.drew ?_ | with_reducible refine Mod.alloc ?_ _ | with_reducible refine Mod.put ?_ _ (fun _ => rfl))⟩
theorem cut_full (b : Nat) (l r n a : Int) (w : World) (hB : Bl w b l 2 r n) (ha0 : 0 ≤ a) (ha1 : a ≤ 10000000000) (hr : 0 ≤ r) (hrl : r ≤ l) (hl : l < r + a) (hl2 : l ≤ 1000000000000) (hn : 0 ≤ n) (hn2 : n ≤ 1000000000000000) :
    Calls Try.prog 14 #[.pointer (some ⟨b, 0, none⟩), .int .i64 a] w fun e w' => e = .returned (.tuple #[.int .i64 (l - r), .int .i64 0]) ∧ Bl w' b l 4 l (n + (l - r)) ∧ Mod (· = b) w w' := by
  have hb := hB.lt
  have hb1 : b < w.heap.size + 1 := by omega
  have hb2 : b < w.heap.size + 1 + 1 := by omega
  have hb3 : b < w.heap.size + 1 + 1 + 1 := by omega
  have h0 := hB.c0
  have h1 := hB.c1
  have h2 := hB.c2
  have h3 := hB.c3
  have f1 := hB.fr 1
  have f2 := hB.fr 2
  have f3 := hB.fr 3
  have hd : (r + (l - r) == l) = true := by simp; omega
  have hll : r + (l - r) = l := by omega
  have hne : ¬ (b = w.heap.size + 1 + 1) := by omega
  go_enter Try.func14, Try.ntmps14
  go_wp2
  go_region
  all_goals go_wp2
  all_goals go_region
  all_goals go_wp2
  all_goals go_region
  all_goals go_wp2
  all_goals go_region
  all_goals go_wp2
  all_goals go_ret2
  all_goals exact ⟨rfl, (((((((hB.put 2 _).put 3 _).put 1 _).alloc _).alloc _).alloc _).drew).drew.drew.drew, (by repeat first | with_reducible exact Mod.refl _ _ | with_reducible refine Mod.drew ?_ | with_reducible refine Mod.alloc ?_ _ | with_reducible refine Mod.put ?_ _ (fun _ => rfl))⟩
end Go.Proofs.Ythhiadnjndnjoaa
