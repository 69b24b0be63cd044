/- One step of the laws: do on the blade, should on the reference; both come to B.step. -/
import Derived.Test.YthhiadnjndnjoaaMakes
import Derived.Test.YthhiadnjndnjoaaSteps
namespace Go.Proofs.Ythhiadnjndnjoaa
open Go.RowKit
set_option linter.unusedVariables false
set_option linter.unusedSimpArgs false

theorem B.ok_mono {x : B} {m m' : Int} (h : x.ok m) (hm : m ≤ m') : x.ok m' := ⟨h.l1, h.l2, h.r1, h.r2, h.n1, Int.le_trans h.n2 hm⟩

theorem do_c {b : Nat} {w : World} {x : B} (op ar : Int) (hB : BlX w b x) (hx : x.ok 1000000000000000) :
    Calls Try.prog 17 #[.pointer (some ⟨b, 0, none⟩), .agg #[.int .i64 op, .int .i64 ar]] w fun e w' =>
      e = .returned (.tuple #[.int .i64 (x.step op ar).2.1, .int .i64 (x.step op ar).2.2]) ∧ BlX w' b (x.step op ar).1 ∧ Mod (· = b) w w' := by
  have hA : BlX (w.alloc (.cells #[.int .i64 op, .int .i64 ar] 42)) b x := At.alloc hB _
  have M : Mod (· = b) w (w.alloc (.cells #[.int .i64 op, .int .i64 ar] 42)) := (Mod.refl _ _).alloc _
  by_cases h0 : op = 0
  · subst h0
    rw [show x.step 0 ar = (x.start.1, 0, x.start.2) from by simp [B.step]]
    go_enter Try.func17, Try.ntmps17
    go_wp2_with fail
    refine (start_any b x _ hA).mono ?_
    rintro e w1 ⟨rfl, h1, m1⟩
    go_wp2_with fail
    go_ret2
    exact ⟨rfl, h1, M.trans m1⟩
  have b0 : (op == 0) = false := by simpa using h0
  by_cases h1 : op = 1
  · subst h1
    rw [show x.step 1 ar = x.cut ar from by simp [B.step]]
    go_enter Try.func17, Try.ntmps17
    go_wp2_with fail
    refine (cut_any b x ar _ hA hx).mono ?_
    rintro e w1 ⟨rfl, h1, m1⟩
    go_wp2_with fail
    go_ret2
    exact ⟨rfl, h1, M.trans m1⟩
  have b1 : (op == 1) = false := by simpa using h1
  by_cases h2 : op = 2
  · subst h2
    rw [show x.step 2 ar = (x.stop.1, 0, x.stop.2) from by simp [B.step]]
    go_enter Try.func17, Try.ntmps17
    go_wp2_with fail
    refine (stop_any b x _ hA).mono ?_
    rintro e w1 ⟨rfl, h1, m1⟩
    go_wp2_with fail
    go_ret2
    exact ⟨rfl, h1, M.trans m1⟩
  have b2 : (op == 2) = false := by simpa using h2
  rw [show x.step op ar = (x.sharpen.1, 0, x.sharpen.2) from by simp [B.step, h0, h1, h2]]
  clear h0 h1 h2
  go_enter Try.func17, Try.ntmps17
  go_wp2_with fail
  refine (sharpen_any b x _ hA).mono ?_
  rintro e w1 ⟨rfl, h1, m1⟩
  go_wp2_with fail
  go_ret2
  exact ⟨rfl, h1, M.trans m1⟩

/-- What should's own boxes hold behind a call that turns nothing. -/
theorem box_facts {w w1 : World} {o1 o2 : Obj} (m : Mod (fun _ => False) (((w.alloc o1).alloc o2).alloc (.cells #[.int .i64 0, .int .i64 0, .int .i64 0, .int .i64 0] 27)) w1) :
    w.heap.size + 1 + 1 < w1.heap.size ∧ ∀ j, w1.frozen? ⟨w.heap.size + 1 + 1, j, none⟩ = false ∧ w1.cell? ⟨w.heap.size + 1 + 1, j, none⟩ = (#[.int .i64 0, .int .i64 0, .int .i64 0, .int .i64 0] : Array Value)[j]? := by
  have h : At (((w.alloc o1).alloc o2).alloc (.cells #[.int .i64 0, .int .i64 0, .int .i64 0, .int .i64 0] 27)) ((w.alloc o1).alloc o2).heap.size _ := At.new _ _
  have h1 := At.mod h m id
  have e : ((w.alloc o1).alloc o2).heap.size = w.heap.size + 1 + 1 := by simp
  rw [e] at h1
  exact ⟨h1.lt, fun j => ⟨h1.free j, h1.cell j⟩⟩

theorem rstart_eq {l s r n l' s' r' n' e : Int} (w : World) (h : Hid (B.start ⟨l, s, r, n⟩ = (⟨l', s', r', n'⟩, e))) :
    Calls Try.prog 25 #[.agg #[.int .i64 l, .int .i64 s, .int .i64 r, .int .i64 n]] w fun e' w' => e' = .returned (.tuple #[.agg #[.int .i64 l', .int .i64 s', .int .i64 r', .int .i64 n'], .int .i64 e]) ∧ Mod (fun _ => False) w w' := by
  have := rstart_any ⟨l, s, r, n⟩ w
  rw [h.out] at this
  exact this
theorem rstop_eq {l s r n l' s' r' n' e : Int} (w : World) (h : Hid (B.stop ⟨l, s, r, n⟩ = (⟨l', s', r', n'⟩, e))) :
    Calls Try.prog 27 #[.agg #[.int .i64 l, .int .i64 s, .int .i64 r, .int .i64 n]] w fun e' w' => e' = .returned (.tuple #[.agg #[.int .i64 l', .int .i64 s', .int .i64 r', .int .i64 n'], .int .i64 e]) ∧ Mod (fun _ => False) w w' := by
  have := rstop_any ⟨l, s, r, n⟩ w
  rw [h.out] at this
  exact this
theorem rsharpen_eq {l s r n l' s' r' n' e : Int} (w : World) (h : Hid (B.sharpen ⟨l, s, r, n⟩ = (⟨l', s', r', n'⟩, e))) :
    Calls Try.prog 28 #[.agg #[.int .i64 l, .int .i64 s, .int .i64 r, .int .i64 n]] w fun e' w' => e' = .returned (.tuple #[.agg #[.int .i64 l', .int .i64 s', .int .i64 r', .int .i64 n'], .int .i64 e]) ∧ Mod (fun _ => False) w w' := by
  have := rsharpen_any ⟨l, s, r, n⟩ w
  rw [h.out] at this
  exact this
theorem rcut_eq {l s r n a l' s' r' n' k e : Int} (w : World) (hx : (⟨l, s, r, n⟩ : B).ok 1000000000000000) (h : Hid (B.cut ⟨l, s, r, n⟩ a = (⟨l', s', r', n'⟩, k, e))) :
    Calls Try.prog 26 #[.agg #[.int .i64 l, .int .i64 s, .int .i64 r, .int .i64 n], .int .i64 a] w fun e' w' => e' = .returned (.tuple #[.agg #[.int .i64 l', .int .i64 s', .int .i64 r', .int .i64 n'], .int .i64 k, .int .i64 e]) ∧ Mod (fun _ => False) w w' := by
  have := rcut_any ⟨l, s, r, n⟩ a w hx
  rw [h.out] at this
  exact this

theorem should_c {w : World} {x : B} (op ar : Int) (hx : x.ok 1000000000000000) :
    Calls Try.prog 18 #[x.agg, .agg #[.int .i64 op, .int .i64 ar]] w fun e w' =>
      e = .returned (.tuple #[(x.step op ar).1.agg, .int .i64 (x.step op ar).2.1, .int .i64 (x.step op ar).2.2]) ∧ Mod (fun _ => False) w w' := by
  by_cases h0 : op = 0
  · subst h0
    rw [show x.step 0 ar = (x.start.1, 0, x.start.2) from by simp [B.step]]
    obtain ⟨l, s, r, n⟩ := x
    rcases hq : B.start ⟨l, s, r, n⟩ with ⟨⟨l', s', r', n'⟩, e'⟩
    have Hq := hid hq
    clear hq
    show Calls Try.prog 18 #[.agg #[.int .i64 l, .int .i64 s, .int .i64 r, .int .i64 n], .agg #[.int .i64 0, .int .i64 ar]] w _
    go_enter Try.func18, Try.ntmps18
    go_wp2_with fail
    refine (rstart_eq _ Hq).mono ?_
    rintro e w1 ⟨rfl, m1⟩
    obtain ⟨hz, hf⟩ := box_facts m1
    have f0 := (hf 0).1
    have f1 := (hf 1).1
    have f2 := (hf 2).1
    have f3 := (hf 3).1
    have c0 := (hf 0).2
    have c1 := (hf 1).2
    have c2 := (hf 2).2
    have c3 := (hf 3).2
    simp at c0 c1 c2 c3
    clear hf
    go_wp2_with fail
    refine bodyPost_ret (v := .tuple #[.agg #[.int .i64 l', .int .i64 s', .int .i64 r', .int .i64 n'], .int .i64 0, .int .i64 e']) (by simp [results, Try.results18, go_sem, c0, c1, c2, c3, hz]) rfl ⟨rfl, ?_⟩
    have M := ((((Mod.refl (fun _ => False) w).alloc _).alloc _).alloc _).trans m1
    clear m1
    have hz' : ¬ (w.heap.size + 1 + 1 < w.heap.size) := by omega
    repeat first | with_reducible exact M | with_reducible refine Mod.alloc ?_ _ | with_reducible refine Mod.drew ?_ | refine Mod.put ?_ _ (fun h => hz' h)
  have b0 : (op == 0) = false := by simpa using h0
  by_cases h1 : op = 1
  · subst h1
    rw [show x.step 1 ar = x.cut ar from by simp [B.step]]
    obtain ⟨l, s, r, n⟩ := x
    rcases hq : B.cut ⟨l, s, r, n⟩ ar with ⟨⟨l', s', r', n'⟩, k', e'⟩
    have Hq := hid hq
    clear hq
    show Calls Try.prog 18 #[.agg #[.int .i64 l, .int .i64 s, .int .i64 r, .int .i64 n], .agg #[.int .i64 1, .int .i64 ar]] w _
    go_enter Try.func18, Try.ntmps18
    go_wp2_with fail
    refine (rcut_eq _ hx Hq).mono ?_
    rintro e w1 ⟨rfl, m1⟩
    obtain ⟨hz, hf⟩ := box_facts m1
    have f0 := (hf 0).1
    have f1 := (hf 1).1
    have f2 := (hf 2).1
    have f3 := (hf 3).1
    have c0 := (hf 0).2
    have c1 := (hf 1).2
    have c2 := (hf 2).2
    have c3 := (hf 3).2
    simp at c0 c1 c2 c3
    clear hf
    go_wp2_with fail
    refine bodyPost_ret (v := .tuple #[.agg #[.int .i64 l', .int .i64 s', .int .i64 r', .int .i64 n'], .int .i64 k', .int .i64 e']) (by simp [results, Try.results18, go_sem, c0, c1, c2, c3, hz]) rfl ⟨rfl, ?_⟩
    have M := ((((Mod.refl (fun _ => False) w).alloc _).alloc _).alloc _).trans m1
    clear m1
    have hz' : ¬ (w.heap.size + 1 + 1 < w.heap.size) := by omega
    repeat first | with_reducible exact M | with_reducible refine Mod.alloc ?_ _ | with_reducible refine Mod.drew ?_ | refine Mod.put ?_ _ (fun h => hz' h)
  have b1 : (op == 1) = false := by simpa using h1
  by_cases h2 : op = 2
  · subst h2
    rw [show x.step 2 ar = (x.stop.1, 0, x.stop.2) from by simp [B.step]]
    obtain ⟨l, s, r, n⟩ := x
    rcases hq : B.stop ⟨l, s, r, n⟩ with ⟨⟨l', s', r', n'⟩, e'⟩
    have Hq := hid hq
    clear hq
    show Calls Try.prog 18 #[.agg #[.int .i64 l, .int .i64 s, .int .i64 r, .int .i64 n], .agg #[.int .i64 2, .int .i64 ar]] w _
    go_enter Try.func18, Try.ntmps18
    go_wp2_with fail
    refine (rstop_eq _ Hq).mono ?_
    rintro e w1 ⟨rfl, m1⟩
    obtain ⟨hz, hf⟩ := box_facts m1
    have f0 := (hf 0).1
    have f1 := (hf 1).1
    have f2 := (hf 2).1
    have f3 := (hf 3).1
    have c0 := (hf 0).2
    have c1 := (hf 1).2
    have c2 := (hf 2).2
    have c3 := (hf 3).2
    simp at c0 c1 c2 c3
    clear hf
    go_wp2_with fail
    refine bodyPost_ret (v := .tuple #[.agg #[.int .i64 l', .int .i64 s', .int .i64 r', .int .i64 n'], .int .i64 0, .int .i64 e']) (by simp [results, Try.results18, go_sem, c0, c1, c2, c3, hz]) rfl ⟨rfl, ?_⟩
    have M := ((((Mod.refl (fun _ => False) w).alloc _).alloc _).alloc _).trans m1
    clear m1
    have hz' : ¬ (w.heap.size + 1 + 1 < w.heap.size) := by omega
    repeat first | with_reducible exact M | with_reducible refine Mod.alloc ?_ _ | with_reducible refine Mod.drew ?_ | refine Mod.put ?_ _ (fun h => hz' h)
  have b2 : (op == 2) = false := by simpa using h2
  rw [show x.step op ar = (x.sharpen.1, 0, x.sharpen.2) from by simp [B.step, h0, h1, h2]]
  clear h0 h1 h2
  obtain ⟨l, s, r, n⟩ := x
  rcases hq : B.sharpen ⟨l, s, r, n⟩ with ⟨⟨l', s', r', n'⟩, e'⟩
  have Hq := hid hq
  clear hq
  show Calls Try.prog 18 #[.agg #[.int .i64 l, .int .i64 s, .int .i64 r, .int .i64 n], .agg #[.int .i64 op, .int .i64 ar]] w _
  go_enter Try.func18, Try.ntmps18
  go_wp2_with fail
  refine (rsharpen_eq _ Hq).mono ?_
  rintro e w1 ⟨rfl, m1⟩
  obtain ⟨hz, hf⟩ := box_facts m1
  have f0 := (hf 0).1
  have f1 := (hf 1).1
  have f2 := (hf 2).1
  have f3 := (hf 3).1
  have c0 := (hf 0).2
  have c1 := (hf 1).2
  have c2 := (hf 2).2
  have c3 := (hf 3).2
  simp at c0 c1 c2 c3
  clear hf
  go_wp2_with fail
  refine bodyPost_ret (v := .tuple #[.agg #[.int .i64 l', .int .i64 s', .int .i64 r', .int .i64 n'], .int .i64 0, .int .i64 e']) (by simp [results, Try.results18, go_sem, c0, c1, c2, c3, hz]) rfl ⟨rfl, ?_⟩
  have M := ((((Mod.refl (fun _ => False) w).alloc _).alloc _).alloc _).trans m1
  clear m1
  have hz' : ¬ (w.heap.size + 1 + 1 < w.heap.size) := by omega
  repeat first | with_reducible exact M | with_reducible refine Mod.alloc ?_ _ | with_reducible refine Mod.drew ?_ | refine Mod.put ?_ _ (fun h => hz' h)
end Go.Proofs.Ythhiadnjndnjoaa
