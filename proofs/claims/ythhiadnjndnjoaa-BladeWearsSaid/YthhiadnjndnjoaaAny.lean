/- What a step does to a blade, as a function of four numbers; the program's and the reference's steps come to it. -/
import Derived.Test.YthhiadnjndnjoaaCut
import Derived.Test.YthhiadnjndnjoaaRef
namespace Go.Proofs.Ythhiadnjndnjoaa
open Go.RowKit
set_option linter.unusedVariables false
set_option linter.unusedSimpArgs false

structure B where
  l : Int
  s : Int
  r : Int
  n : Int

def B.start (x : B) : B × Int := if x.s = 4 then (x, 17) else if x.s = 2 then (x, 14) else ({ x with s := 2 }, 0)
def B.stop (x : B) : B × Int := if x.s = 2 then ({ x with s := 3 }, 0) else (x, 14)
def B.sharpen (x : B) : B × Int := if x.s = 2 then (x, 14) else ({ x with s := 1, r := 0 }, 0)
def B.cut (x : B) (a : Int) : B × Int × Int :=
  if x.s = 2 then
    if a < 0 ∨ 10000000000 < a then (x, 0, 9)
    else if x.r + a < x.l then ({ x with r := x.r + a, n := x.n + a }, a, 0)
    else ({ x with s := 4, r := x.l, n := x.n + (x.l - x.r) }, x.l - x.r, 0)
  else (x, 0, 14)
def B.step (x : B) (op a : Int) : B × Int × Int :=
  if op = 0 then (x.start.1, 0, x.start.2) else if op = 1 then x.cut a else if op = 2 then (x.stop.1, 0, x.stop.2) else (x.sharpen.1, 0, x.sharpen.2)
/-- The blade's numbers are in range; m bounds what was cut in all. -/
structure B.ok (x : B) (m : Int) : Prop where
  l1 : 1 ≤ x.l
  l2 : x.l ≤ 1000000000000
  r1 : 0 ≤ x.r
  r2 : x.r ≤ x.l
  n1 : 0 ≤ x.n
  n2 : x.n ≤ m

def BlX (w : World) (b : Nat) (x : B) : Prop := Bl w b x.l x.s x.r x.n
def B.agg (x : B) : Value := agg4 x.l x.s x.r x.n

theorem start_any (b : Nat) (x : B) (w : World) (hB : BlX w b x) :
    Calls Try.prog 13 #[.pointer (some ⟨b, 0, none⟩)] w fun e w' => e = .returned (.int .i64 x.start.2) ∧ BlX w' b x.start.1 ∧ Mod (· = b) w w' := by
  obtain ⟨l, s, r, n⟩ := x
  have hB' : Bl w b l s r n := hB
  unfold B.start
  by_cases h4 : s = 4
  · subst h4
    refine (start_dull b w hB'.c1).mono ?_
    rintro e w' ⟨rfl, rfl⟩
    exact ⟨rfl, hB, Mod.refl _ _⟩
  by_cases h2 : s = 2
  · subst h2
    refine (start_run b w hB'.c1).mono ?_
    rintro e w' ⟨rfl, rfl⟩
    exact ⟨rfl, hB, Mod.refl _ _⟩
  · simp only [if_neg h4, if_neg h2]
    refine (start_ok b s w hB'.c1 (hB'.fr 1) h2 h4).mono ?_
    rintro e w' ⟨rfl, rfl⟩
    exact ⟨rfl, At.put hB' 1 _, (Mod.refl _ _).put _ (fun _ => rfl)⟩

theorem stop_any (b : Nat) (x : B) (w : World) (hB : BlX w b x) :
    Calls Try.prog 20 #[.pointer (some ⟨b, 0, none⟩)] w fun e w' => e = .returned (.int .i64 x.stop.2) ∧ BlX w' b x.stop.1 ∧ Mod (· = b) w w' := by
  obtain ⟨l, s, r, n⟩ := x
  have hB' : Bl w b l s r n := hB
  unfold B.stop
  by_cases h2 : s = 2
  · subst h2
    refine (stop_ok b w hB'.c1 (hB'.fr 1)).mono ?_
    rintro e w' ⟨rfl, rfl⟩
    exact ⟨rfl, At.put hB' 1 _, (Mod.refl _ _).put _ (fun _ => rfl)⟩
  · simp only [if_neg h2]
    refine (stop_no b s w hB'.c1 h2).mono ?_
    rintro e w' ⟨rfl, rfl⟩
    exact ⟨rfl, hB, Mod.refl _ _⟩

theorem sharpen_any (b : Nat) (x : B) (w : World) (hB : BlX w b x) :
    Calls Try.prog 21 #[.pointer (some ⟨b, 0, none⟩)] w fun e w' => e = .returned (.int .i64 x.sharpen.2) ∧ BlX w' b x.sharpen.1 ∧ Mod (· = b) w w' := by
  obtain ⟨l, s, r, n⟩ := x
  have hB' : Bl w b l s r n := hB
  unfold B.sharpen
  by_cases h2 : s = 2
  · subst h2
    refine (sharpen_no b w hB'.lt hB'.c1).mono ?_
    rintro e w' ⟨rfl, hm⟩
    exact ⟨rfl, At.mod hB' hm id, hm.mono (fun _ _ h => h.elim)⟩
  · simp only [if_neg h2]
    refine (sharpen_ok b l s r n w hB' h2).mono ?_
    rintro e w' ⟨rfl, hB2, hm⟩
    exact ⟨rfl, hB2, hm⟩

theorem cut_any (b : Nat) (x : B) (a : Int) (w : World) (hB : BlX w b x) (hx : x.ok 1000000000000000) :
    Calls Try.prog 14 #[.pointer (some ⟨b, 0, none⟩), .int .i64 a] w fun e w' => e = .returned (.tuple #[.int .i64 (x.cut a).2.1, .int .i64 (x.cut a).2.2]) ∧ BlX w' b (x.cut a).1 ∧ Mod (· = b) w w' := by
  obtain ⟨l, s, r, n⟩ := x
  obtain ⟨l1, l2, r1, r2, n1, n2⟩ := hx
  simp only at l1 l2 r1 r2 n1 n2
  have hB' : Bl w b l s r n := hB
  unfold B.cut
  by_cases h2 : s = 2
  · subst h2
    by_cases ha : a < 0
    · simp only [if_pos rfl, ha, true_or, if_true]
      exact cut_low b l r n a w hB' ha
    by_cases hb : 10000000000 < a
    · simp only [if_pos rfl, hb, or_true, if_true]
      exact cut_high b l r n a w hB' hb
    simp only [ha, hb, or_self, if_false, if_true]
    by_cases hl : r + a < l
    · simp only [hl, if_true]
      exact cut_part b l r n a w hB' (by omega) (by omega) r1 hl l2 n1 n2
    · simp only [hl, if_false]
      by_cases hq : r + a = l
      · subst hq
        have e : r + a - r = a := by omega
        rw [e]
        exact cut_exact b r n a w hB' (by omega) (by omega) r1 l2 n1 n2
      · exact cut_full b l r n a w hB' (by omega) (by omega) r1 r2 (by omega) l2 n1 n2
  · simp only [if_neg h2]
    exact cut_no b l s r n a w hB' h2

theorem rstart_any (x : B) (w : World) :
    Calls Try.prog 25 #[x.agg] w fun e w' => e = .returned (.tuple #[x.start.1.agg, .int .i64 x.start.2]) ∧ Mod (fun _ => False) w w' := by
  obtain ⟨l, s, r, n⟩ := x
  unfold B.start
  by_cases h4 : s = 4
  · subst h4
    exact rstart_dull l r n w
  by_cases h2 : s = 2
  · subst h2
    exact rstart_run l r n w
  · simp only [if_neg h4, if_neg h2]
    exact rstart_ok l s r n w h2 h4
theorem rstop_any (x : B) (w : World) :
    Calls Try.prog 27 #[x.agg] w fun e w' => e = .returned (.tuple #[x.stop.1.agg, .int .i64 x.stop.2]) ∧ Mod (fun _ => False) w w' := by
  obtain ⟨l, s, r, n⟩ := x
  unfold B.stop
  by_cases h2 : s = 2
  · subst h2
    exact rstop_ok l r n w
  · simp only [if_neg h2]
    exact rstop_no l s r n w h2
theorem rsharpen_any (x : B) (w : World) :
    Calls Try.prog 28 #[x.agg] w fun e w' => e = .returned (.tuple #[x.sharpen.1.agg, .int .i64 x.sharpen.2]) ∧ Mod (fun _ => False) w w' := by
  obtain ⟨l, s, r, n⟩ := x
  unfold B.sharpen
  by_cases h2 : s = 2
  · subst h2
    exact rsharpen_no l r n w
  · simp only [if_neg h2]
    exact rsharpen_ok l s r n w h2
theorem rcut_any (x : B) (a : Int) (w : World) (hx : x.ok 1000000000000000) :
    Calls Try.prog 26 #[x.agg, .int .i64 a] w fun e w' => e = .returned (.tuple #[(x.cut a).1.agg, .int .i64 (x.cut a).2.1, .int .i64 (x.cut a).2.2]) ∧ Mod (fun _ => False) w w' := by
  obtain ⟨l, s, r, n⟩ := x
  obtain ⟨l1, l2, r1, r2, n1, n2⟩ := hx
  simp only at l1 l2 r1 r2 n1 n2
  unfold B.cut
  by_cases h2 : s = 2
  · subst h2
    by_cases ha : a < 0
    · simp only [if_pos rfl, ha, true_or, if_true]
      exact rcut_low l r n a w ha
    by_cases hb : 10000000000 < a
    · simp only [if_pos rfl, hb, or_true, if_true]
      exact rcut_high l r n a w hb
    simp only [ha, hb, or_self, if_false, if_true]
    by_cases hl : r + a < l
    · simp only [hl, if_true]
      exact rcut_part l r n a w (by omega) (by omega) r1 hl l2 n1 n2
    · simp only [hl, if_false]
      by_cases hq : r + a = l
      · subst hq
        have e : r + a - r = a := by omega
        rw [e]
        exact rcut_exact r n a w (by omega) (by omega) r1 l2 n1 n2
      · exact rcut_full l r n a w (by omega) (by omega) r1 r2 (by omega) l2 n1 n2
  · simp only [if_neg h2]
    exact rcut_no l s r n a w h2

theorem B.cut_ok {x : B} {m : Int} (hx : x.ok m) (a : Int) : (x.cut a).1.ok (m + 10000000000) ∧ (x.cut a).1.l = x.l ∧ 0 ≤ (x.cut a).2.1 := by
  obtain ⟨l, s, r, n⟩ := x
  obtain ⟨l1, l2, r1, r2, n1, n2⟩ := hx
  simp only at l1 l2 r1 r2 n1 n2
  unfold B.cut
  repeat' split
  all_goals refine ⟨⟨?_, ?_, ?_, ?_, ?_, ?_⟩, rfl, ?_⟩
  all_goals simp only at *
  all_goals omega
theorem B.step_ok {x : B} {m : Int} (hx : x.ok m) (op a : Int) : (x.step op a).1.ok (m + 10000000000) ∧ (x.step op a).1.l = x.l := by
  have hc := B.cut_ok hx a
  obtain ⟨l1, l2, r1, r2, n1, n2⟩ := hx
  unfold B.step
  split
  · unfold B.start
    repeat' split
    all_goals refine ⟨⟨?_, ?_, ?_, ?_, ?_, ?_⟩, rfl⟩
    all_goals simp only
    all_goals omega
  split
  · exact ⟨hc.1, hc.2.1⟩
  split
  · unfold B.stop
    repeat' split
    all_goals refine ⟨⟨?_, ?_, ?_, ?_, ?_, ?_⟩, rfl⟩
    all_goals simp only
    all_goals omega
  · unfold B.sharpen
    repeat' split
    all_goals refine ⟨⟨?_, ?_, ?_, ?_, ?_, ?_⟩, rfl⟩
    all_goals simp only
    all_goals omega
end Go.Proofs.Ythhiadnjndnjoaa
