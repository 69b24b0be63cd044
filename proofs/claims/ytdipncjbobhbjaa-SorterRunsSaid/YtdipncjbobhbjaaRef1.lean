/- The specification's sorter in memory; its New. -/
import Derived.Test.YtdipncjbobhbjaaOps
namespace Go.Proofs.Ytdipncjbobhbjaa
open Go.RowKit Go.Maps
set_option linter.unusedVariables false
set_option linter.unusedSimpArgs false

/-- A value is the specification's sorter: its capacity and its row of bins. -/
def RefAt (w : World) (v : Value) (cap : Int) (bins : List Bin) : Prop :=
  ∃ A c xs, v = .agg #[.int .i64 cap, .slice A bins.length c] ∧ w.ownsRow 0 70 2 (.slice A bins.length c) bins.length xs ∧
    ∀ i, i < bins.length → ∃ x, xs[i * 2]? = some (.string (bk bins i)) ∧ xs[i * 2 + 1]? = some x ∧ w.ownsRow 0 9 1 x (bi bins i).length ((bi bins i).map .string)

theorem own_mod {w w' : World} {S : Nat → Prop} {base : Nat} {e : TypeId} {size n : Nat} {v : Value} {xs : List Value} (h : w.ownsRow base e size v n xs) (m : Mod S w w') (hS : ∀ g, v.ownBlock = some g → ¬ S g) : w'.ownsRow base e size v n xs :=
  own_same h (fun g hg => by
    obtain ⟨cur, hc⟩ := own_at h hg
    exact m.block g hc.lt (hS g hg))
theorem own_mod0 {w w' : World} {base : Nat} {e : TypeId} {size n : Nat} {v : Value} {xs : List Value} (h : w.ownsRow base e size v n xs) (m : Mod (fun _ => False) w w') : w'.ownsRow base e size v n xs := own_mod h m (fun _ _ h => h)
theorem RefAt.mod0 {w w' : World} {v : Value} {cap : Int} {bins : List Bin} (h : RefAt w v cap bins) (m : Mod (fun _ => False) w w') : RefAt w' v cap bins := by
  obtain ⟨A, c, xs, rfl, h1, h2⟩ := h
  refine ⟨A, c, xs, rfl, own_mod0 h1 m, fun i hi => ?_⟩
  obtain ⟨x, a, b, d⟩ := h2 i hi
  exact ⟨x, a, b, own_mod0 d m⟩

theorem info70 : (Try.prog.info? 70).map (fun i => (i.zero, i.size, i.bytes)) = some (some (.agg #[.string ByteArray.empty, .slice none 0 0]), 2, 40) := by kernel_rfl

theorem rnew_bad (nb cap : Int) (w : World) (h : nb < 1 ∨ (1 ≤ nb ∧ 16 < nb) ∨ (1 ≤ nb ∧ nb ≤ 16 ∧ cap < 1) ∨ (1 ≤ nb ∧ nb ≤ 16 ∧ 1 ≤ cap ∧ 32 < cap)) :
    Calls Try.prog 15 #[.int .i64 nb, .int .i64 cap] w fun e w' => e = .returned (.tuple #[.agg #[.int .i64 0, .slice none 0 0], .int .i64 9]) ∧ Mod (fun _ => False) w w' := by
  rcases h with h | h | h | h
  all_goals
    try obtain ⟨g1, h⟩ := h
    try obtain ⟨g2, h⟩ := h
    try obtain ⟨g3, h⟩ := h
    go_enter Try.func15, Try.ntmps15
    go_wp2_with fail
    refine bodyPost_ret (v := .tuple #[.agg #[.int .i64 0, .slice none 0 0], .int .i64 9]) (by simp [results, Try.results15, go_sem, *]) rfl ⟨rfl, ?_⟩
    first | exact ((Mod.refl _ _).alloc _) | exact (((Mod.refl _ _).alloc _).put _ (fun h => by simp at h)).put _ (fun h => by simp at h)

theorem rnew_good (n : Nat) (cap : Int) (w : World) (h1 : 1 ≤ n) (h2 : n ≤ 16) (h3 : 1 ≤ cap) (h4 : cap ≤ 32) :
    Calls Try.prog 15 #[.int .i64 (n : Int), .int .i64 cap] w fun e w' => ∃ v, e = .returned (.tuple #[v, .int .i64 0]) ∧ RefAt w' v cap (empties n) ∧ Mod (fun _ => False) w w' := by
  obtain ⟨i0, hi0, hz0, hz1, hz2⟩ := info_parts info70
  have a1 : ¬ (n : Int) < 1 := by omega
  have a2 : ¬ (16 : Int) < n := by omega
  have a3 : ¬ cap < 1 := by omega
  have a4 : ¬ (32 : Int) < cap := by omega
  go_enter Try.func15, Try.ntmps15
  go_wp2_with (first | (at_make; refine wpList_make_full _ rfl (.tmp 22) (.tmp 22) 43 rfl 0 70 i0 (.agg #[.string ByteArray.empty, .slice none 0 0]) 2 Try.underlying43 hi0 hz0 hz1 .i64 .i64 (n : Int) (n : Int) n rfl rfl rfl rfl ?b2 ?b3 ?b4 ?_))
  case b2 => omega
  case b3 => unfold maxLen; omega
  · intro w1 hown hg
    have m1 : Mod (fun _ => False) (w.alloc (.cells #[.int .i64 0, .slice none 0 0] 45)) w1 := ⟨hg.os, hg.tape, hg.output, hg.size, fun k hk _ => hg.block k hk (by simp)⟩
    have hb := (At.new w (.cells #[.int .i64 0, .slice none 0 0] 45)).mod m1 id
    obtain ⟨r0, r1⟩ := At.two hb
    have f0 := hb.free 0
    have f1 := hb.free 1
    have Hown := hid hown
    clear hown hg
    go_wp2_with fail
    have hM : Mod (fun k => k = w.heap.size) w1 ((w1.setCell ⟨w.heap.size, 0, none⟩ (.int .i64 cap)).setCell ⟨w.heap.size, 1, none⟩ (.slice (some ⟨w.heap.size + 1, 0, none⟩) n n)) := ((Mod.refl _ _).here _ _).here _ _
    have hrow := own_mod Hown.out hM (fun g hg e => own_ne Hown.out hb (by decide) (by rw [hg, e]))
    have href : RefAt ((w1.setCell ⟨w.heap.size, 0, none⟩ (.int .i64 cap)).setCell ⟨w.heap.size, 1, none⟩ (.slice (some ⟨w.heap.size + 1, 0, none⟩) n n)) (.agg #[.int .i64 cap, .slice (some ⟨w.heap.size + 1, 0, none⟩) n n]) cap (empties n) := by
      refine ⟨some ⟨w.heap.size + 1, 0, none⟩, n, (madeCells (Value.agg #[.string ByteArray.empty, .slice none 0 0]).cells (n * 2)).toList, by rw [empties_len], by rw [empties_len]; exact hrow, fun i hi => ⟨.slice none 0 0, ?_, ?_, ?_⟩⟩
      · rw [empties_len] at hi
        rw [bk_empties]
        have e : (i * 2) % 2 = 0 := by omega
        have q : i * 2 < n * 2 := by omega
        simp [madeCells, Value.cells, q, e]
      · rw [empties_len] at hi
        have e : (i * 2 + 1) % 2 = 1 := by omega
        have q : i * 2 + 1 < n * 2 := by omega
        simp [madeCells, Value.cells, q, e]
      · rw [bi_empties]
        exact World.ownsRow_nil _ _ _ _
    refine bodyPost_ret (v := .tuple #[.agg #[.int .i64 cap, .slice (some ⟨w.heap.size + 1, 0, none⟩) n n], .int .i64 0]) (by simp [results, Try.results15, go_sem, *]) rfl ⟨_, rfl, href, ?_⟩
    exact Mod.trans' (T := fun k => k = w.heap.size) (((Mod.refl (fun _ => False) w).alloc _).trans m1) hM (fun k hk hs => by omega)
end Go.Proofs.Ytdipncjbobhbjaa
