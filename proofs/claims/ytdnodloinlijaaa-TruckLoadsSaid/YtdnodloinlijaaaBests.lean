/- TruckBests: the walk. -/
import Derived.Test.YtdnodloinlijaaaPlain4
import Derived.Test.YtdnodloinlijaaaOptimal
namespace Go.Proofs.Ytdnodloinlijaaa
open Go.RowKit
set_option linter.unusedVariables false
set_option linter.unusedSimpArgs false

theorem Lr_all (left : List Bool) : ∀ (r : List Pc) (i : Nat), (∀ j, i ≤ j → j < i + r.length → left.getD j false = true) → Lr left r i = (r.zipIdx i).map (fun q => (q.1, (q.2 : Int)))
  | [], i, _ => rfl
  | p :: r, i, h => by
    rw [Lr_cons, if_pos (h i (Nat.le_refl _) (by simp)), Lr_all left r (i + 1) (fun j h1 h2 => h j (by omega) (by simp only [List.length_cons]; omega))]
    simp
theorem Lr_true (l : List Pc) : Lr (List.replicate l.length true) l 0 = withIdx l := by
  rw [Lr_all _ l 0 (fun j _ h => by simp [List.getD, show j < l.length by omega])]
  rfl
theorem rbestR_eq (l : List Pc) (W V : Int) : rbestR l W V = bestR l W V := by
  unfold rbestR bestR
  by_cases hc : checkF l W V = 0
  · rw [if_pos hc, if_pos hc]
    obtain ⟨h16, hW, hV, hok⟩ := checkF_ok hc
    rw [rbest_law l _ W V hW.1 hV.1 (by rw [Lr_true, firsts_withIdx]; exact hok) (by rw [Lr_true]; exact withIdx_incr l), Lr_true, firsts_withIdx]
    obtain ⟨s, h, _⟩ := best_spec l W V hok hW.1 hV.1
    exact split_all h
  · rw [if_neg hc, if_neg hc]

set_option maxHeartbeats 3200000 in
theorem truckBests_walk (A : Option Addr) (l : List Pc) (c : Nat) (W V : Int) (w : World) (h : Ps w A l) :
    Calls Try.prog 4 #[.agg #[.slice A l.length c, .int .i64 W, .int .i64 V]] w fun e w' => e = .returned (.bool true) ∧ Below w.heap.size w w' := by
  obtain ⟨w1, hw1⟩ : ∃ w1 : World, w1 = w.alloc (.cells #[.slice A l.length c, .int .i64 W, .int .i64 V] 24) := ⟨_, rfl⟩
  have m1 : Mod (fun _ => False) w w1 := by rw [hw1]; exact (Mod.refl _ _).alloc _
  have hX1 : At w1 w.heap.size (.cells #[.slice A l.length c, .int .i64 W, .int .i64 V] 24 (0, 0)) := by rw [hw1]; exact At.new _ _
  have HP1 := hid (h.mod0 m1)
  have M1 := hid m1
  have HX1 := hid hX1
  have Hw1 := hid hw1
  obtain ⟨x0, x1, x2⟩ := At.three hX1
  have hfew := few_c A c l.length W V w1
  clear h hw1 m1 hX1
  cases hf : fewF l.length with
  | false =>
    rw [hf] at hfew
    clear hf
    go_enter Try.func4, Try.ntmps4
    go_upto_region 1 with fail
    rw [← Hw1.out]
    go_wp2_with fail
    refine hfew.mono ?_
    rintro e w2 ⟨rfl, m2⟩
    go_wp2_with fail
    refine (awake_c _).mono ?_
    rintro e w3 ⟨rfl, m3⟩
    go_wp2_with fail
    go_ret
    exact ⟨rfl, ((M1.out.trans m2).trans m3).low⟩
  | true =>
    rw [hf] at hfew
    clear hf
    have hb := hid (fun (w2 : World) (m : Mod (fun _ => False) w1 w2) => bestI_c A c l W V w2 (HP1.out.mod0 m))
    have hr := hid (fun (w2 : World) (m : Mod (fun _ => False) w1 w2) => rBest_c A c l W V w2 (HP1.out.mod0 m))
    rw [rbestR_eq] at hr
    have hlen := hid (best_len l W V)
    generalize bestR l W V = bs at hb hr hlen
    generalize checkF l W V = ce at hb hr
    go_enter Try.func4, Try.ntmps4
    go_upto_region 1 with fail
    rw [← Hw1.out]
    clear Hw1
    go_wp2_with fail
    refine hfew.mono ?_
    rintro e w2 ⟨rfl, m2⟩
    have hb2 := hb.out w2 m2
    have HX2 := hid (HX1.out.mod m2 id)
    have M2 := hid m2
    clear x0 x1 x2 m2 hfew
    obtain ⟨x0, x1, x2⟩ := At.three HX2.out
    go_wp2_with fail
    refine hb2.mono ?_
    rintro e w3 ⟨B3, d3, rfl, hi3, m3⟩
    have HX3 := hid (HX2.out.mod m3 id)
    have HI3 := hid hi3
    have M3 := hid (M2.out.trans m3)
    have hr3 := hr.out w3 M3.out
    clear x0 x1 x2 m3 hb2 hi3
    obtain ⟨x0, x1, x2⟩ := At.three HX3.out
    go_wp2_with fail
    refine hr3.mono ?_
    rintro e w4 ⟨B4, d4, rfl, hi4, m4⟩
    have hsame := same_c B3 B4 d3 d4 bs bs w4 (HI3.out.mod0 m4) hi4 (by have := hlen.out; omega)
    rw [decide_eq_true rfl] at hsame
    have M4 := hid (M3.out.trans m4)
    clear x0 x1 x2 hr3 m4
    go_wp2_with fail
    refine hsame.mono ?_
    rintro e w5 ⟨rfl, m5⟩
    go_wp2_with fail
    refine (awake_c _).mono ?_
    rintro e w6 ⟨rfl, m6⟩
    go_wp2_with fail
    go_ret
    exact ⟨rfl, (((M1.out.trans M4.out).trans m5).trans m6).low⟩
end Go.Proofs.Ytdnodloinlijaaa
