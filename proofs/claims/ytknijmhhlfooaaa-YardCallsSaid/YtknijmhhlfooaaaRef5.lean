/- The specification's New; alike. -/
import Derived.Test.YtknijmhhlfooaaaRef4
import Derived.Deep.RegionHeld3
namespace Go.Proofs.Ytknijmhhlfooaaa
open Go.RowKit
set_option linter.unusedVariables false
set_option linter.unusedSimpArgs false

theorem rnew_bad (nb cap : Int) (w : World) (h : nb < 1 ∨ (1 ≤ nb ∧ 16 < nb) ∨ (1 ≤ nb ∧ nb ≤ 16 ∧ cap < 1) ∨ (1 ≤ nb ∧ nb ≤ 16 ∧ 1 ≤ cap ∧ 32 < cap)) :
    Calls Try.prog 18 #[.int .i64 nb, .int .i64 cap] w fun e w' => e = .returned (.tuple #[.agg #[.int .i64 0, .slice none 0 0, .slice none 0 0], .int .i64 9]) ∧ Mod (fun _ => False) w w' := by
  rcases h with h | h | h | h
  all_goals
    try obtain ⟨g1, h⟩ := h
    try obtain ⟨g2, h⟩ := h
    try obtain ⟨g3, h⟩ := h
    go_enter Try.func18, Try.ntmps18
    go_wp2_with fail
    exact bodyPost_ret (v := .tuple #[.agg #[.int .i64 0, .slice none 0 0, .slice none 0 0], .int .i64 9]) (by simp [results, Try.results18, go_sem]) rfl ⟨rfl, (Mod.refl _ _).alloc _⟩

theorem rnew_good (n : Nat) (cap : Int) (w : World) (h1 : 1 ≤ n) (h2 : n ≤ 16) (h3 : 1 ≤ cap) (h4 : cap ≤ 32) :
    Calls Try.prog 18 #[.int .i64 (n : Int), .int .i64 cap] w fun e w' => ∃ v, e = .returned (.tuple #[v, .int .i64 0]) ∧ RefAt w' v cap (List.replicate n []) [] ∧ Mod (fun _ => False) w w' := by
  have a1 : ¬ (n : Int) < 1 := by omega
  have a2 : ¬ (16 : Int) < n := by omega
  obtain ⟨i0, hi0, hz0, hz1, hz2⟩ := info_parts info31
  go_enter Try.func18, Try.ntmps18
  go_wp2_with (first | (at_make; refine wpList_make_full _ rfl (.tmp 22) (.tmp 22) 45 rfl 0 31 i0 (.slice none 0 0) 1 Try.underlying45 hi0 hz0 hz1 .i64 .i64 (n : Int) (n : Int) n rfl rfl rfl rfl ?b2 ?b3 ?b4 ?_))
  case b2 => omega
  case b3 => unfold maxLen; omega
  · intro w1 hown hg
    have m1 : Mod (fun _ => False) (w.alloc (.cells #[.int .i64 0, .slice none 0 0, .slice none 0 0] 47)) w1 := ⟨hg.os, hg.tape, hg.output, hg.size, fun k hk _ => hg.block k hk (by simp)⟩
    have hb := (At.new w (.cells #[.int .i64 0, .slice none 0 0, .slice none 0 0] 47)).mod m1 id
    obtain ⟨r0, r1, r2⟩ := At.three hb
    have f0 := hb.free 0
    have f1 := hb.free 1
    have f2 := hb.free 2
    have Hown := hid hown
    clear hown hg
    go_wp2_with fail
    have hM : Mod (fun k => k = w.heap.size) w1 (((w1.setCell ⟨w.heap.size, 0, none⟩ (.int .i64 cap)).setCell ⟨w.heap.size, 1, none⟩ (.slice (some ⟨w.heap.size + 1, 0, none⟩) n n)).setCell ⟨w.heap.size, 2, none⟩ (.slice none 0 0)) :=
      Mod.put (S := fun k => k = w.heap.size) (Mod.put (S := fun k => k = w.heap.size) (Mod.put (S := fun k => k = w.heap.size) (Mod.refl _ _) _ (fun _ => rfl)) _ (fun _ => rfl)) _ (fun _ => rfl)
    have hS : ∀ k, k = w.heap.size → k < w1.heap.size → ∃ cs fr, At w1 k (.cells cs 47 fr) := fun k hk _ => by
      subst hk
      exact ⟨_, _, hb⟩
    refine bodyPost_ret (v := .tuple #[.agg #[.int .i64 cap, .slice (some ⟨w.heap.size + 1, 0, none⟩) n n, .slice none 0 0], .int .i64 0]) (by simp [results, Try.results18, go_sem, *]) rfl ⟨_, rfl, ⟨_, _, rfl, ?_, ?_⟩, ?_⟩
    · refine ⟨(madeCells #[Value.slice none 0 0] n).toList, by simp [madeCells], ?_, fun i x hx => ?_⟩
      · have := own_mod Hown.out hM hS (by decide)
        rw [List.length_replicate]
        exact this
      · have hx0 : x = .slice none 0 0 := by
          simp only [madeCells, Array.toList_map, List.getElem?_map, Option.map_eq_some_iff] at hx
          obtain ⟨q, _, hq⟩ := hx
          rw [← hq]
          simp [Nat.mod_one]
        subst hx0
        have e : (List.replicate n ([] : List Pc)).getD i [] = [] := by
          rw [List.getD_eq_getElem?_getD, List.getElem?_replicate]
          split <;> rfl
        rw [e]
        exact RowN.nil _
    · exact RowN.nil _
    · exact Mod.trans' (T := fun k => k = w.heap.size) (((Mod.refl (fun _ => False) w).alloc _).trans m1) hM (fun k hk hs => by omega)
end Go.Proofs.Ytknijmhhlfooaaa
