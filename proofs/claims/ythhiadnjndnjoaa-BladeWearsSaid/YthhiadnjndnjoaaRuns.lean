/- The law BladeRuns: the walk. -/
import Derived.Test.YthhiadnjndnjoaaDo
import Derived.Deep.RegionHeld3
import Derived.Deep.RegionWith
namespace Go.Proofs.Ythhiadnjndnjoaa
open Go.RowKit
set_option linter.unusedVariables false
set_option linter.unusedSimpArgs false

def run (l : Int) (op ar : Nat → Int) : Nat → B
  | 0 => ⟨l, 1, 0, 0⟩
  | k + 1 => ((run l op ar k).step (op k) (ar k)).1
theorem run_ok {l : Int} (h1 : 1 ≤ l) (h2 : l ≤ 1000000000000) (op ar : Nat → Int) (k : Nat) : (run l op ar k).ok (k * 10000000000) ∧ (run l op ar k).l = l := by
  induction k with
  | zero => exact ⟨⟨h1, h2, Int.le_refl _, by simp only [run]; omega, Int.le_refl _, by simp [run]⟩, rfl⟩
  | succ k ih =>
    have := B.step_ok ih.1 (op k) (ar k)
    refine ⟨?_, this.2.trans ih.2⟩
    have e : ((k + 1 : Nat) : Int) * 10000000000 = k * 10000000000 + 10000000000 := by omega
    rw [e]
    exact this.1

theorem At.mod0 {w w' : World} {b : Nat} {o : Obj} (h : At w b o) (m : Mod (fun _ => False) w w') : At w' b o := At.mod h m id
theorem At.four {w : World} {b : Nat} {t : TypeId} {fr : Nat × Nat} {v0 v1 v2 v3 : Value} (h : At w b (.cells #[v0, v1, v2, v3] t fr)) :
    w.cell? ⟨b, 0, none⟩ = some v0 ∧ w.cell? ⟨b, 1, none⟩ = some v1 ∧ w.cell? ⟨b, 2, none⟩ = some v2 ∧ w.cell? ⟨b, 3, none⟩ = some v3 := ⟨h.cell 0, h.cell 1, h.cell 2, h.cell 3⟩
/-- should, its values written out. -/
theorem should_x {w : World} {x : B} {l s r n : Int} (op ar : Int) (hx : x.ok 1000000000000000) (e0 : x.l = l) (e1 : x.s = s) (e2 : x.r = r) (e3 : x.n = n) :
    Calls Try.prog 18 #[.agg #[.int .i64 l, .int .i64 s, .int .i64 r, .int .i64 n], .agg #[.int .i64 op, .int .i64 ar]] w fun e w' =>
      e = .returned (.tuple #[.agg #[.int .i64 (x.step op ar).1.l, .int .i64 (x.step op ar).1.s, .int .i64 (x.step op ar).1.r, .int .i64 (x.step op ar).1.n], .int .i64 (x.step op ar).2.1, .int .i64 (x.step op ar).2.2]) ∧ Mod (fun _ => False) w w' := by
  subst e0 e1 e2 e3
  exact should_c op ar hx

theorem is_x {b : Nat} {w : World} {x : B} {l s r n : Int} (hB : BlX w b x) (e0 : x.l = l) (e1 : x.s = s) (e2 : x.r = r) (e3 : x.n = n) :
    Calls Try.prog 11 #[.pointer (some ⟨b, 0, none⟩), .agg #[.int .i64 l, .int .i64 s, .int .i64 r, .int .i64 n]] w fun e w' => e = .returned (.bool true) ∧ Mod (fun _ => False) w w' := by
  subst e0 e1 e2 e3
  exact is_c hB

theorem runs_loop (l : Int) (A : Option Addr) (n c : Nat) (op ar : Nat → Int) (w : World) (h1 : 1 ≤ l) (h2 : l ≤ 1000000000000) (hS : Steps w A n op ar) (hn : n ≤ 200) :
    Calls Try.prog 5 #[.int .i64 l, .slice A n c] w fun e w' => e = .returned (.bool true) ∧ Below w.heap.size w w' := by
  have hn0 : ¬ (200 : Int) < (n : Int) := by omega
  go_enter Try.func5, Try.ntmps5
  go_wp2_with fail
  refine (new_c l _ h1 h2).mono ?_
  rintro e w1 ⟨b, rfl, hb1, hB1, m1⟩
  go_wp2_with fail
  refine (rnew_good l w1 h1 h2).mono ?_
  rintro e w2 ⟨rfl, m2⟩
  have l1 := At.lt hB1
  have hB2 : BlX w2 b ⟨l, 1, 0, 0⟩ := At.mod hB1 m2 id
  have l2 := At.lt hB2
  have z1 := m1.size
  have z2 := m2.size
  go_wp2_with fail
  go_loopw [9] (fun i wr => ∃ k : Nat, k ≤ n ∧ i = .int .i64 k ∧ BlX wr b (run l op ar k) ∧
      At wr w2.heap.size (.cells #[.int .i64 (run l op ar k).l, .int .i64 (run l op ar k).s, .int .i64 (run l op ar k).r, .int .i64 (run l op ar k).n] 27) ∧ Below w.heap.size w wr)
    (fun i _ => n - (intOf i).toNat)
  case atStart =>
    refine ⟨0, by omega, rfl, At.alloc hB2 _, At.new _ _, ?_⟩
    exact ((m1.trans m2).alloc _).toBelow _ (Nat.le_refl _) (fun _ _ h => h)
  case round =>
    obtain ⟨k, hk, rfl, hB, hR, hbel⟩ := hrel
    by_cases hlt : k < n
    · have hok2 : (run l op ar k).ok 1000000000000000 := B.ok_mono (run_ok h1 h2 op ar k).1 (by omega)
      obtain ⟨q, off, rfl, hq, hc⟩ := hS.2 (by omega)
      have g0 := (hbel.cell (p := ⟨q, off + k * 2, none⟩) hq).trans (hc k hlt).1
      have g1 := (hbel.cell (p := ⟨q, off + k * 2 + 1, none⟩) hq).trans (hc k hlt).2
      clear hc
      have hqb : ¬ q = b := by omega
      go_wp2_with fail
      refine (do_c (op k) (ar k) hB hok2).mono ?_
      rintro e w3 ⟨rfl, hB3, m3⟩
      go_wp2_with fail
      have d0 : w3.cell? ⟨q, off + k * 2, none⟩ = some (.int .i64 (op k)) := m3.keep hqb g0
      have d1 : w3.cell? ⟨q, off + k * 2 + 1, none⟩ = some (.int .i64 (ar k)) := m3.keep hqb g1
      have hR3 : At w3 w2.heap.size (.cells #[.int .i64 (run l op ar k).l, .int .i64 (run l op ar k).s, .int .i64 (run l op ar k).r, .int .i64 (run l op ar k).n] 27) := At.mod hR m3 (by omega)
      have e0 := hR3.cell 0
      have e1 := hR3.cell 1
      have e2 := hR3.cell 2
      have e3 := hR3.cell 3
      simp only [List.size_toArray, List.length_cons, List.length_nil, List.getElem?_toArray, List.getElem?_cons_zero, List.getElem?_cons_succ] at e0 e1 e2 e3
      clear g0 g1
      have hq3 : q < w3.heap.size := by have := m3.size; have := hbel.size; omega
      have hR4 := hR3.lt
      have hb3 := At.lt hB3
      have hbw : b ≠ w2.heap.size := by omega
      have hbne : b ≠ w3.heap.size := by omega
      have hqne : w2.heap.size ≠ w3.heap.size := by omega
      have hwr := m3.size
      have hnw : w3.heap.size < wr.heap.size → w3.heap.size = b := by omega
      have n1 : ¬ w3.heap.size = q := by omega
      have n2 : ¬ w3.heap.size = w2.heap.size := by omega
      go_region_held3 (fun w' => w'.cell? ⟨q, off + k * 2, none⟩ = some (.int .i64 (op k)) ∧ w'.cell? ⟨q, off + k * 2 + 1, none⟩ = some (.int .i64 (ar k)) ∧ w'.cell? ⟨w2.heap.size, 0, none⟩ = some (.int .i64 (run l op ar k).l) ∧ w'.cell? ⟨w2.heap.size, 1, none⟩ = some (.int .i64 (run l op ar k).s) ∧ w'.cell? ⟨w2.heap.size, 2, none⟩ = some (.int .i64 (run l op ar k).r) ∧ w'.cell? ⟨w2.heap.size, 3, none⟩ = some (.int .i64 (run l op ar k).n)) (go_keep)
        (first | (go_at_call 18; with_reducible refine (should_x (x := run l op ar k) (op k) (ar k) hok2 rfl rfl rfl rfl).mono ?_; rintro e w4 ⟨rfl, m4⟩; have _z : Mod (fun _ => False) w3.drew w4 := m4; have f0 := Mod.keep0 m4 (show World.cell? _ ⟨q, off + k * 2, none⟩ = some (.int .i64 (op k)) by go_keep); have f1 := Mod.keep0 m4 (show World.cell? _ ⟨q, off + k * 2 + 1, none⟩ = some (.int .i64 (ar k)) by go_keep); have f2 := Mod.keep0 m4 (show World.cell? _ ⟨w2.heap.size, 0, none⟩ = some (.int .i64 (run l op ar k).l) by go_keep); have f3 := Mod.keep0 m4 (show World.cell? _ ⟨w2.heap.size, 1, none⟩ = some (.int .i64 (run l op ar k).s) by go_keep); have f4 := Mod.keep0 m4 (show World.cell? _ ⟨w2.heap.size, 2, none⟩ = some (.int .i64 (run l op ar k).r) by go_keep); have f5 := Mod.keep0 m4 (show World.cell? _ ⟨w2.heap.size, 3, none⟩ = some (.int .i64 (run l op ar k).n) by go_keep)) | (go_at_call 18; with_reducible refine (should_x (x := run l op ar k) (op k) (ar k) hok2 rfl rfl rfl rfl).mono ?_; rintro e w4 ⟨rfl, m4⟩; have A4 : At w4 w3.heap.size (.cells #[.int .i64 0, .int .i64 0, .int .i64 0, .int .i64 0] 27) := At.mod (At.drew (At.new _ _)) m4 id; obtain ⟨a0, a1, a2, a3⟩ := At.four A4; have aF := A4.free; have aL := A4.lt; have f0 := Mod.keep0 m4 (show World.cell? _ ⟨q, off + k * 2, none⟩ = some (.int .i64 (op k)) by go_keep); have f1 := Mod.keep0 m4 (show World.cell? _ ⟨q, off + k * 2 + 1, none⟩ = some (.int .i64 (ar k)) by go_keep); have f2 := Mod.keep0 m4 (show World.cell? _ ⟨w2.heap.size, 0, none⟩ = some (.int .i64 (run l op ar k).l) by go_keep); have f3 := Mod.keep0 m4 (show World.cell? _ ⟨w2.heap.size, 1, none⟩ = some (.int .i64 (run l op ar k).s) by go_keep); have f4 := Mod.keep0 m4 (show World.cell? _ ⟨w2.heap.size, 2, none⟩ = some (.int .i64 (run l op ar k).r) by go_keep); have f5 := Mod.keep0 m4 (show World.cell? _ ⟨w2.heap.size, 3, none⟩ = some (.int .i64 (run l op ar k).n) by go_keep)))
      all_goals go_wp2_with fail
      · have hB4 := At.alloc (At.mod0 (At.drew hB3) m4) (.cells #[.int .i64 ((run l op ar k).step (op k) (ar k)).1.l, .int .i64 ((run l op ar k).step (op k) (ar k)).1.s, .int .i64 ((run l op ar k).step (op k) (ar k)).1.r, .int .i64 ((run l op ar k).step (op k) (ar k)).1.n] 27)
        have hP4 := At.new w4 (.cells #[.int .i64 ((run l op ar k).step (op k) (ar k)).1.l, .int .i64 ((run l op ar k).step (op k) (ar k)).1.s, .int .i64 ((run l op ar k).step (op k) (ar k)).1.r, .int .i64 ((run l op ar k).step (op k) (ar k)).1.n] 27)
        have hQ4 := At.alloc (At.mod0 (At.drew hR3) m4) (.cells #[.int .i64 ((run l op ar k).step (op k) (ar k)).1.l, .int .i64 ((run l op ar k).step (op k) (ar k)).1.s, .int .i64 ((run l op ar k).step (op k) (ar k)).1.r, .int .i64 ((run l op ar k).step (op k) (ar k)).1.n] 27)
        have M4 := ((m3.drew.trans' m4 (fun _ _ h => h.elim)).alloc (.cells #[.int .i64 ((run l op ar k).step (op k) (ar k)).1.l, .int .i64 ((run l op ar k).step (op k) (ar k)).1.s, .int .i64 ((run l op ar k).step (op k) (ar k)).1.r, .int .i64 ((run l op ar k).step (op k) (ar k)).1.n] 27))
        refine (is_x (x := ((run l op ar k).step (op k) (ar k)).1) hB4 rfl rfl rfl rfl).mono ?_
        rintro e w5 ⟨rfl, m5⟩
        have hB5 : BlX w5 b ((run l op ar k).step (op k) (ar k)).1 := At.mod0 hB4 m5
        have hP5 : At w5 w4.heap.size (.cells #[.int .i64 ((run l op ar k).step (op k) (ar k)).1.l, .int .i64 ((run l op ar k).step (op k) (ar k)).1.s, .int .i64 ((run l op ar k).step (op k) (ar k)).1.r, .int .i64 ((run l op ar k).step (op k) (ar k)).1.n] 27) := At.mod0 hP4 m5
        have hQ5 : At w5 w2.heap.size (.cells #[.int .i64 (run l op ar k).l, .int .i64 (run l op ar k).s, .int .i64 (run l op ar k).r, .int .i64 (run l op ar k).n] 27) := At.mod0 hQ4 m5
        have M5 : Mod (· = b) wr w5 := M4.trans' m5 (fun _ _ h => h.elim)
        clear hB4 hP4 hQ4 M4 m5 m4 f0 f1 f2 f3 f4 f5 hB3 d0 d1 hR3 e0 e1 e2 e3 m3 m1 m2 hB1 hB2
        obtain ⟨p0, p1, p2, p3⟩ := At.four hP5
        obtain ⟨q0, q1, q2, q3⟩ := At.four hQ5
        have qf := hQ5.free
        go_wp2_with fail
        go_roundw
        case rel =>
          refine ⟨k + 1, by omega, by go_num, ?_, ?_, ?_⟩
          · exact At.other (At.other (At.other (At.other hB5 ⟨w2.heap.size, 0, none⟩ _ hbw) ⟨w2.heap.size, 1, none⟩ _ hbw) ⟨w2.heap.size, 2, none⟩ _ hbw) ⟨w2.heap.size, 3, none⟩ _ hbw
          · exact At.put (At.put (At.put (At.put hQ5 0 _) 1 _) 2 _) 3 _
          · refine hbel.trans (Mod.toBelow (S := fun i => i = b ∨ i = w2.heap.size) ?_ _ hbel.size (by intro i hi; omega))
            exact (((M5.mono (T := fun i => i = b ∨ i = w2.heap.size) (fun _ _ h => Or.inl h)).put (p := ⟨w2.heap.size, 0, none⟩) _ (fun _ => Or.inr rfl)).put (p := ⟨w2.heap.size, 1, none⟩) _ (fun _ => Or.inr rfl)).put (p := ⟨w2.heap.size, 2, none⟩) _ (fun _ => Or.inr rfl) |>.put (p := ⟨w2.heap.size, 3, none⟩) _ (fun _ => Or.inr rfl)
        case measure => simp [intOf]; omega
      · have hB4 := At.other (At.other (At.other (At.other (At.mod0 (At.drew (At.alloc hB3 _)) m4) ⟨w3.heap.size, 0, none⟩ (.int .i64 ((run l op ar k).step (op k) (ar k)).1.l) hbne) ⟨w3.heap.size, 1, none⟩ (.int .i64 ((run l op ar k).step (op k) (ar k)).1.s) hbne) ⟨w3.heap.size, 2, none⟩ (.int .i64 ((run l op ar k).step (op k) (ar k)).1.r) hbne) ⟨w3.heap.size, 3, none⟩ (.int .i64 ((run l op ar k).step (op k) (ar k)).1.n) hbne
        have hP4 := At.put (At.put (At.put (At.put A4 0 (.int .i64 ((run l op ar k).step (op k) (ar k)).1.l)) 1 (.int .i64 ((run l op ar k).step (op k) (ar k)).1.s)) 2 (.int .i64 ((run l op ar k).step (op k) (ar k)).1.r)) 3 (.int .i64 ((run l op ar k).step (op k) (ar k)).1.n)
        have hQ4 := At.other (At.other (At.other (At.other (At.mod0 (At.drew (At.alloc hR3 _)) m4) ⟨w3.heap.size, 0, none⟩ (.int .i64 ((run l op ar k).step (op k) (ar k)).1.l) hqne) ⟨w3.heap.size, 1, none⟩ (.int .i64 ((run l op ar k).step (op k) (ar k)).1.s) hqne) ⟨w3.heap.size, 2, none⟩ (.int .i64 ((run l op ar k).step (op k) (ar k)).1.r) hqne) ⟨w3.heap.size, 3, none⟩ (.int .i64 ((run l op ar k).step (op k) (ar k)).1.n) hqne
        have M4 := ((((m3.alloc _).drew.trans' m4 (fun _ _ h => h.elim)).put (p := ⟨w3.heap.size, 0, none⟩) (.int .i64 ((run l op ar k).step (op k) (ar k)).1.l) hnw).put (p := ⟨w3.heap.size, 1, none⟩) (.int .i64 ((run l op ar k).step (op k) (ar k)).1.s) hnw).put (p := ⟨w3.heap.size, 2, none⟩) (.int .i64 ((run l op ar k).step (op k) (ar k)).1.r) hnw |>.put (p := ⟨w3.heap.size, 3, none⟩) (.int .i64 ((run l op ar k).step (op k) (ar k)).1.n) hnw
        refine (is_x (x := ((run l op ar k).step (op k) (ar k)).1) hB4 rfl rfl rfl rfl).mono ?_
        rintro e w5 ⟨rfl, m5⟩
        have hB5 : BlX w5 b ((run l op ar k).step (op k) (ar k)).1 := At.mod0 hB4 m5
        have hP5 : At w5 w3.heap.size (.cells #[.int .i64 ((run l op ar k).step (op k) (ar k)).1.l, .int .i64 ((run l op ar k).step (op k) (ar k)).1.s, .int .i64 ((run l op ar k).step (op k) (ar k)).1.r, .int .i64 ((run l op ar k).step (op k) (ar k)).1.n] 27) := At.mod0 hP4 m5
        have hQ5 : At w5 w2.heap.size (.cells #[.int .i64 (run l op ar k).l, .int .i64 (run l op ar k).s, .int .i64 (run l op ar k).r, .int .i64 (run l op ar k).n] 27) := At.mod0 hQ4 m5
        have M5 : Mod (· = b) wr w5 := M4.trans' m5 (fun _ _ h => h.elim)
        clear hB4 hP4 hQ4 M4 m5 m4 f0 f1 f2 f3 f4 f5 hB3 d0 d1 hR3 e0 e1 e2 e3 m3 m1 m2 hB1 hB2
        obtain ⟨p0, p1, p2, p3⟩ := At.four hP5
        obtain ⟨q0, q1, q2, q3⟩ := At.four hQ5
        have qf := hQ5.free
        go_wp2_with fail
        go_roundw
        case rel =>
          refine ⟨k + 1, by omega, by go_num, ?_, ?_, ?_⟩
          · exact At.other (At.other (At.other (At.other hB5 ⟨w2.heap.size, 0, none⟩ _ hbw) ⟨w2.heap.size, 1, none⟩ _ hbw) ⟨w2.heap.size, 2, none⟩ _ hbw) ⟨w2.heap.size, 3, none⟩ _ hbw
          · exact At.put (At.put (At.put (At.put hQ5 0 _) 1 _) 2 _) 3 _
          · refine hbel.trans (Mod.toBelow (S := fun i => i = b ∨ i = w2.heap.size) ?_ _ hbel.size (by intro i hi; omega))
            exact (((M5.mono (T := fun i => i = b ∨ i = w2.heap.size) (fun _ _ h => Or.inl h)).put (p := ⟨w2.heap.size, 0, none⟩) _ (fun _ => Or.inr rfl)).put (p := ⟨w2.heap.size, 1, none⟩) _ (fun _ => Or.inr rfl)).put (p := ⟨w2.heap.size, 2, none⟩) _ (fun _ => Or.inr rfl) |>.put (p := ⟨w2.heap.size, 3, none⟩) _ (fun _ => Or.inr rfl)
        case measure => simp [intOf]; omega
    · have : k = n := by omega
      subst this
      go_wp2_with fail
      refine (awake_c _).mono ?_
      rintro e w5 ⟨rfl, m5⟩
      go_wp2_with fail
      go_ret
      exact ⟨rfl, hbel.trans (m5.toBelow _ hbel.size (fun _ _ h => h))⟩

theorem runs_bad (l : Int) (A : Option Addr) (n c : Nat) (w : World) (h : l < 1 ∨ 1000000000000 < l) (hn : n ≤ 200) :
    Calls Try.prog 5 #[.int .i64 l, .slice A n c] w fun e w' => e = .returned (.bool true) ∧ Below w.heap.size w w' := by
  have hn0 : ¬ (200 : Int) < (n : Int) := by omega
  go_enter Try.func5, Try.ntmps5
  go_wp2_with fail
  refine (new_bad l _ h).mono ?_
  rintro e w' ⟨rfl, rfl⟩
  go_wp2_with fail
  refine (rnew_bad l w h).mono ?_
  rintro e w2 ⟨rfl, m2⟩
  go_wp2_with fail
  refine (awake_c _).mono ?_
  rintro e w5 ⟨rfl, m5⟩
  go_wp2_with fail
  go_ret
  exact ⟨rfl, ((m2.alloc _).trans m5).toBelow _ (Nat.le_refl _) (fun _ _ h => h)⟩
theorem runs_long_bad (l : Int) (A : Option Addr) (n c : Nat) (w : World) (h : l < 1 ∨ 1000000000000 < l) (hn : 200 < n) (hm : n ≤ 9223372036854775807) :
    Calls Try.prog 5 #[.int .i64 l, .slice A n c] w fun e w' => e = .returned (.bool true) ∧ Below w.heap.size w w' := by
  have hn0 : (200 : Int) < (n : Int) := by omega
  go_enter Try.func5, Try.ntmps5
  go_wp2_with fail
  refine (new_bad l _ h).mono ?_
  rintro e w' ⟨rfl, rfl⟩
  go_wp2_with fail
  refine (rnew_bad l w h).mono ?_
  rintro e w2 ⟨rfl, m2⟩
  go_wp2_with fail
  refine (awake_c _).mono ?_
  rintro e w5 ⟨rfl, m5⟩
  go_wp2_with fail
  go_ret
  exact ⟨rfl, ((m2.alloc _).trans m5).toBelow _ (Nat.le_refl _) (fun _ _ h => h)⟩
theorem runs_long (l : Int) (A : Option Addr) (n c : Nat) (w : World) (h1 : 1 ≤ l) (h2 : l ≤ 1000000000000) (hn : 200 < n) (hm : n ≤ 9223372036854775807) :
    Calls Try.prog 5 #[.int .i64 l, .slice A n c] w fun e w' => e = .returned (.bool true) ∧ Below w.heap.size w w' := by
  have hn0 : (200 : Int) < (n : Int) := by omega
  go_enter Try.func5, Try.ntmps5
  go_wp2_with fail
  refine (new_c l _ h1 h2).mono ?_
  rintro e w1 ⟨b, rfl, hb1, hB1, m1⟩
  go_wp2_with fail
  refine (rnew_good l w1 h1 h2).mono ?_
  rintro e w2 ⟨rfl, m2⟩
  go_wp2_with fail
  refine (awake_c _).mono ?_
  rintro e w5 ⟨rfl, m5⟩
  go_wp2_with fail
  go_ret
  exact ⟨rfl, (((m1.trans m2).alloc _).trans m5).toBelow _ (Nat.le_refl _) (fun _ _ h => h)⟩

theorem bladeRuns_walk (l : Int) (A : Option Addr) (n c : Nat) (op ar : Nat → Int) (w : World) (_ : (Lit.int .i64 l).wf = true) (hS : Steps w A n op ar) :
    Calls Try.prog 5 #[.int .i64 l, .slice A n c] w fun e w' => e = .returned (.bool true) ∧ Below w.heap.size w w' := by
  by_cases hb : l < 1 ∨ 1000000000000 < l
  · by_cases hn : n ≤ 200
    · exact runs_bad l A n c w hb hn
    · exact runs_long_bad l A n c w hb (by omega) hS.1
  · by_cases hn : n ≤ 200
    · exact runs_loop l A n c op ar w (by omega) (by omega) hS hn
    · exact runs_long l A n c w (by omega) (by omega) (by omega) hS.1
end Go.Proofs.Ythhiadnjndnjoaa
