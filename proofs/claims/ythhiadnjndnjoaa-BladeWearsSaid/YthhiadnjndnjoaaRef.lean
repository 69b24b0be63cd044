/- Contracts of the reference's functions on a blade. -/
import Derived.Test.YthhiadnjndnjoaaProg
import Derived.Test.YthhiadnjndnjoaaKit
import Derived.Outline
namespace Go.Proofs.Ythhiadnjndnjoaa
open Go.RowKit
set_option linter.unusedVariables false
set_option linter.unusedSimpArgs false

abbrev agg4 (l s r n : Int) : Value := .agg #[.int .i64 l, .int .i64 s, .int .i64 r, .int .i64 n]

theorem rnew_low (l : Int) (w : World) (h : l < 1) :
    Calls Try.prog 10 #[.int .i64 l] w fun e w' => e = .returned (.tuple #[agg4 0 0 0 0, .int .i64 9]) ∧ Mod (fun _ => False) w w' := by
  go_enter Try.func10, Try.ntmps10
  go_wp2
  exact bodyPost_ret (v := .tuple #[agg4 0 0 0 0, .int .i64 9]) (by simp [results, Try.results10, go_sem]) rfl ⟨rfl, (Mod.refl _ _).alloc _⟩
theorem rnew_high (l : Int) (w : World) (h : 1000000000000 < l) :
    Calls Try.prog 10 #[.int .i64 l] w fun e w' => e = .returned (.tuple #[agg4 0 0 0 0, .int .i64 9]) ∧ Mod (fun _ => False) w w' := by
  have h1 : ¬ l < 1 := by omega
  go_enter Try.func10, Try.ntmps10
  go_wp2
  exact bodyPost_ret (v := .tuple #[agg4 0 0 0 0, .int .i64 9]) (by simp [results, Try.results10, go_sem]) rfl ⟨rfl, (Mod.refl _ _).alloc _⟩
theorem rnew_good (l : Int) (w : World) (h : 1 ≤ l) (h2 : l ≤ 1000000000000) :
    Calls Try.prog 10 #[.int .i64 l] w fun e w' => e = .returned (.tuple #[agg4 l 1 0 0, .int .i64 0]) ∧ Mod (fun _ => False) w w' := by
  go_enter Try.func10, Try.ntmps10
  go_wp2
  exact bodyPost_ret (v := .tuple #[agg4 l 1 0 0, .int .i64 0]) (by simp [results, Try.results10, go_sem]) rfl ⟨rfl, (Mod.refl _ _).alloc _⟩

theorem rstart_dull (l r n : Int) (w : World) :
    Calls Try.prog 25 #[agg4 l 4 r n] w fun e w' => e = .returned (.tuple #[agg4 l 4 r n, .int .i64 17]) ∧ Mod (fun _ => False) w w' := by
  go_enter Try.func25, Try.ntmps25
  go_wp2
  exact bodyPost_ret (v := .tuple #[agg4 l 4 r n, .int .i64 17]) (by simp [results, Try.results25, go_sem]) rfl ⟨rfl, ((Mod.refl _ _).alloc _).alloc _⟩
theorem rstart_run (l r n : Int) (w : World) :
    Calls Try.prog 25 #[agg4 l 2 r n] w fun e w' => e = .returned (.tuple #[agg4 l 2 r n, .int .i64 14]) ∧ Mod (fun _ => False) w w' := by
  go_enter Try.func25, Try.ntmps25
  go_wp2
  exact bodyPost_ret (v := .tuple #[agg4 l 2 r n, .int .i64 14]) (by simp [results, Try.results25, go_sem]) rfl ⟨rfl, ((Mod.refl _ _).alloc _).alloc _⟩
theorem rstart_ok (l s r n : Int) (w : World) (hs : ¬ s = 2) (ht : ¬ s = 4) :
    Calls Try.prog 25 #[agg4 l s r n] w fun e w' => e = .returned (.tuple #[agg4 l 2 r n, .int .i64 0]) ∧ Mod (fun _ => False) w w' := by
  go_enter Try.func25, Try.ntmps25
  go_wp2
  exact bodyPost_ret (v := .tuple #[agg4 l 2 r n, .int .i64 0]) (by simp [results, Try.results25, go_sem]) rfl ⟨rfl, ((Mod.refl _ _).alloc _).alloc _⟩
theorem rstop_ok (l r n : Int) (w : World) :
    Calls Try.prog 27 #[agg4 l 2 r n] w fun e w' => e = .returned (.tuple #[agg4 l 3 r n, .int .i64 0]) ∧ Mod (fun _ => False) w w' := by
  go_enter Try.func27, Try.ntmps27
  go_wp2
  exact bodyPost_ret (v := .tuple #[agg4 l 3 r n, .int .i64 0]) (by simp [results, Try.results27, go_sem]) rfl ⟨rfl, ((Mod.refl _ _).alloc _).alloc _⟩
theorem rstop_no (l s r n : Int) (w : World) (hs : ¬ s = 2) :
    Calls Try.prog 27 #[agg4 l s r n] w fun e w' => e = .returned (.tuple #[agg4 l s r n, .int .i64 14]) ∧ Mod (fun _ => False) w w' := by
  go_enter Try.func27, Try.ntmps27
  go_wp2
  exact bodyPost_ret (v := .tuple #[agg4 l s r n, .int .i64 14]) (by simp [results, Try.results27, go_sem]) rfl ⟨rfl, ((Mod.refl _ _).alloc _).alloc _⟩
theorem rsharpen_no (l r n : Int) (w : World) :
    Calls Try.prog 28 #[agg4 l 2 r n] w fun e w' => e = .returned (.tuple #[agg4 l 2 r n, .int .i64 14]) ∧ Mod (fun _ => False) w w' := by
  go_enter Try.func28, Try.ntmps28
  go_wp2
  exact bodyPost_ret (v := .tuple #[agg4 l 2 r n, .int .i64 14]) (by simp [results, Try.results28, go_sem]) rfl ⟨rfl, ((Mod.refl _ _).alloc _).alloc _⟩
theorem rsharpen_ok (l s r n : Int) (w : World) (hs : ¬ s = 2) :
    Calls Try.prog 28 #[agg4 l s r n] w fun e w' => e = .returned (.tuple #[agg4 l 1 0 n, .int .i64 0]) ∧ Mod (fun _ => False) w w' := by
  go_enter Try.func28, Try.ntmps28
  go_wp2
  exact bodyPost_ret (v := .tuple #[agg4 l 1 0 n, .int .i64 0]) (by simp [results, Try.results28, go_sem]) rfl ⟨rfl, ((Mod.refl _ _).alloc _).alloc _⟩
theorem rcut_no (l s r n a : Int) (w : World) (hs : ¬ s = 2) :
    Calls Try.prog 26 #[agg4 l s r n, .int .i64 a] w fun e w' => e = .returned (.tuple #[agg4 l s r n, .int .i64 0, .int .i64 14]) ∧ Mod (fun _ => False) w w' := by
  go_enter Try.func26, Try.ntmps26
  go_wp2
  exact bodyPost_ret (v := .tuple #[agg4 l s r n, .int .i64 0, .int .i64 14]) (by simp [results, Try.results26, go_sem]) rfl ⟨rfl, ((Mod.refl _ _).alloc _).alloc _⟩
theorem rcut_low (l r n a : Int) (w : World) (ha : a < 0) :
    Calls Try.prog 26 #[agg4 l 2 r n, .int .i64 a] w fun e w' => e = .returned (.tuple #[agg4 l 2 r n, .int .i64 0, .int .i64 9]) ∧ Mod (fun _ => False) w w' := by
  go_enter Try.func26, Try.ntmps26
  go_wp2
  exact bodyPost_ret (v := .tuple #[agg4 l 2 r n, .int .i64 0, .int .i64 9]) (by simp [results, Try.results26, go_sem]) rfl ⟨rfl, ((Mod.refl _ _).alloc _).alloc _⟩
theorem rcut_high (l r n a : Int) (w : World) (ha : 10000000000 < a) :
    Calls Try.prog 26 #[agg4 l 2 r n, .int .i64 a] w fun e w' => e = .returned (.tuple #[agg4 l 2 r n, .int .i64 0, .int .i64 9]) ∧ Mod (fun _ => False) w w' := by
  have h1 : ¬ a < 0 := by omega
  go_enter Try.func26, Try.ntmps26
  go_wp2
  exact bodyPost_ret (v := .tuple #[agg4 l 2 r n, .int .i64 0, .int .i64 9]) (by simp [results, Try.results26, go_sem]) rfl ⟨rfl, ((Mod.refl _ _).alloc _).alloc _⟩
theorem rcut_part (l r n a : Int) (w : World) (ha0 : 0 ≤ a) (ha1 : a ≤ 10000000000) (hr : 0 ≤ r) (hl : r + a < l) (hl2 : l ≤ 1000000000000) (hn : 0 ≤ n) (hn2 : n ≤ 1000000000000000) :
    Calls Try.prog 26 #[agg4 l 2 r n, .int .i64 a] w fun e w' => e = .returned (.tuple #[agg4 l 2 (r + a) (n + a), .int .i64 a, .int .i64 0]) ∧ Mod (fun _ => False) w w' := by
  have hd : (r + a == l) = false := by simp; omega
  go_enter Try.func26, Try.ntmps26
  go_wp2
  exact bodyPost_ret (v := .tuple #[agg4 l 2 (r + a) (n + a), .int .i64 a, .int .i64 0]) (by simp [results, Try.results26, go_sem]) rfl ⟨rfl, ((Mod.refl _ _).alloc _).alloc _⟩
theorem rcut_exact (r n a : Int) (w : World) (ha0 : 0 ≤ a) (ha1 : a ≤ 10000000000) (hr : 0 ≤ r) (hl2 : r + a ≤ 1000000000000) (hn : 0 ≤ n) (hn2 : n ≤ 1000000000000000) :
    Calls Try.prog 26 #[agg4 (r + a) 2 r n, .int .i64 a] w fun e w' => e = .returned (.tuple #[agg4 (r + a) 4 (r + a) (n + a), .int .i64 a, .int .i64 0]) ∧ Mod (fun _ => False) w w' := by
  have hd : a ≤ r + a - r := by omega
  go_enter Try.func26, Try.ntmps26
  go_wp2
  exact bodyPost_ret (v := .tuple #[agg4 (r + a) 4 (r + a) (n + a), .int .i64 a, .int .i64 0]) (by simp [results, Try.results26, go_sem]) rfl ⟨rfl, ((Mod.refl _ _).alloc _).alloc _⟩
theorem rcut_full (l r n a : Int) (w : World) (ha0 : 0 ≤ a) (ha1 : a ≤ 10000000000) (hr : 0 ≤ r) (hrl : r ≤ l) (hl : l < r + a) (hl2 : l ≤ 1000000000000) (hn : 0 ≤ n) (hn2 : n ≤ 1000000000000000) :
    Calls Try.prog 26 #[agg4 l 2 r n, .int .i64 a] w fun e w' => e = .returned (.tuple #[agg4 l 4 l (n + (l - r)), .int .i64 (l - r), .int .i64 0]) ∧ Mod (fun _ => False) w w' := by
  have hd : (r + (l - r) == l) = true := by simp; omega
  have hll : r + (l - r) = l := by omega
  go_enter Try.func26, Try.ntmps26
  go_wp2
  exact bodyPost_ret (v := .tuple #[agg4 l 4 l (n + (l - r)), .int .i64 (l - r), .int .i64 0]) (by simp [results, Try.results26, go_sem]) rfl ⟨rfl, ((Mod.refl _ _).alloc _).alloc _⟩
end Go.Proofs.Ythhiadnjndnjoaa
