/- TruckSums: the walk. -/
import Derived.Test.YtdnodloinlijaaaOp
namespace Go.Proofs.Ytdnodloinlijaaa
open Go.RowKit
set_option linter.unusedVariables false
set_option linter.unusedSimpArgs false

theorem Mod.low {w w' : World} (m : Mod (fun _ => False) w w') : Below w.heap.size w w' := m.toBelow _ (Nat.le_refl _) (fun _ _ h => h)

set_option maxHeartbeats 3200000 in
theorem truckSums_walk (A : Option Addr) (l : List Pc) (c : Nat) (W V : Int) (B : Option Addr) (at_ : List Int) (d : Nat) (w : World) (h : Ps w A l) (h2 : Is w B at_) :
    Calls Try.prog 3 #[.agg #[.slice A l.length c, .int .i64 W, .int .i64 V], .slice B at_.length d] w fun e w' => e = .returned (.bool true) ∧ Below w.heap.size w w' := by
  obtain ⟨w1, hw1⟩ : ∃ w1 : World, w1 = w.alloc (.cells #[.slice A l.length c, .int .i64 W, .int .i64 V] 24) := ⟨_, rfl⟩
  have m1 : Mod (fun _ => False) w w1 := by rw [hw1]; exact (Mod.refl _ _).alloc _
  have hX1 : At w1 w.heap.size (.cells #[.slice A l.length c, .int .i64 W, .int .i64 V] 24 (0, 0)) := by rw [hw1]; exact At.new _ _
  have HP1 := hid (h.mod0 m1)
  have HI1 := hid (h2.mod0 m1)
  have M1 := hid m1
  have HX1 := hid hX1
  have Hw1 := hid hw1
  obtain ⟨x0, x1, x2⟩ := At.three hX1
  clear h h2 hw1 m1 hX1
  by_cases h40 : (40 : Int) < (l.length : Int) ∨ (¬ (40 : Int) < (l.length : Int) ∧ (40 : Int) < (at_.length : Int))
  · go_enter Try.func3, Try.ntmps3
    go_upto_region 1 with fail
    rw [← Hw1.out]
    rcases h40 with h40 | ⟨h40, h41⟩
    all_goals
      go_wp2_with fail
      refine (awake_c _).mono ?_
      rintro e w2 ⟨rfl, m2⟩
      go_wp2_with fail
      go_ret
      exact ⟨rfl, (M1.out.trans m2).low⟩
  · have h41 : ¬ (40 : Int) < (l.length : Int) := fun q => h40 (.inl q)
    have h42 : ¬ (40 : Int) < (at_.length : Int) := fun q => h40 (.inr ⟨h41, q⟩)
    have h43 : at_.length ≤ 40 := by omega
    have hs := sum_c A B c d l at_ w1 HP1.out HI1.out h43
    have hr := fun (w2 : World) (m : Mod (fun _ => False) w1 w2) => rsum_c A B c d l at_ w2 (HP1.out.mod0 m) (HI1.out.mod0 m) h43
    generalize (sumF l at_).1.w = sw at hs hr
    generalize (sumF l at_).1.v = sv at hs hr
    generalize (sumF l at_).1.x = sx at hs hr
    generalize (sumF l at_).2 = se at hs hr
    have hck := fun (w2 : World) (m : Mod (fun _ => False) w1 w2) => check_c A c l W V w2 (HP1.out.mod0 m)
    have hrk := fun (w2 : World) (m : Mod (fun _ => False) w1 w2) => rcheck_c A c l W V w2 (HP1.out.mod0 m)
    generalize checkF l W V = ce at hck hrk
    have Hs := hid hs
    have Hr := hid hr
    have Hck := hid hck
    have Hrk := hid hrk
    clear hs hr hck hrk h40
    go_enter Try.func3, Try.ntmps3
    go_upto_region 1 with fail
    rw [← Hw1.out]
    go_wp2_with fail
    refine Hs.out.mono ?_
    rintro e w2 ⟨rfl, m2⟩
    obtain ⟨w3, hw3⟩ : ∃ w3 : World, w3 = w2.alloc (.cells #[.int .i64 sw, .int .i64 sv, .int .i64 sx] 28) := ⟨_, rfl⟩
    have m13 := hid (show Mod (fun _ => False) w1 w3 from by rw [hw3]; exact m2.alloc _)
    have HS3 := hid (show At w3 w2.heap.size (.cells #[.int .i64 sw, .int .i64 sv, .int .i64 sx] 28 (0, 0)) from by rw [hw3]; exact At.new _ _)
    have HX3 := hid (HX1.out.mod m13.out id)
    have Hw3 := hid hw3
    clear x0 x1 x2 hw3 m2
    obtain ⟨x0, x1, x2⟩ := At.three HX3.out
    go_upto_region 4 with fail
    rw [← Hw3.out]
    clear Hw3
    go_wp2_with fail
    refine (Hr.out w3 m13.out).mono ?_
    rintro e w4 ⟨rfl, m4⟩
    obtain ⟨w5, hw5⟩ : ∃ w5 : World, w5 = w4.alloc (.cells #[.int .i64 sw, .int .i64 sv, .int .i64 sx] 28) := ⟨_, rfl⟩
    have m35 := hid (show Mod (fun _ => False) w3 w5 from by rw [hw5]; exact m4.alloc _)
    have HR5 := hid (show At w5 w4.heap.size (.cells #[.int .i64 sw, .int .i64 sv, .int .i64 sx] 28 (0, 0)) from by rw [hw5]; exact At.new _ _)
    have HX5 := hid (HX3.out.mod m35.out id)
    have HS5 := hid (HS3.out.mod m35.out id)
    have m15 := hid (m13.out.trans m35.out)
    have Hw5 := hid hw5
    clear x0 x1 x2 hw5 m4
    obtain ⟨x0, x1, x2⟩ := At.three HX5.out
    obtain ⟨s0, s1, s2⟩ := At.three HS5.out
    obtain ⟨r0, r1, r2⟩ := At.three HR5.out
    go_upto_region 5 with fail
    rw [← Hw5.out]
    clear Hw5
    have HXd := hid HX5.out.drew
    have HSd := hid HS5.out.drew
    have HRd := hid HR5.out.drew
    have md := hid (m15.out.drew)
    clear h41 h42 h43
    go_region_held3 (fun w' => w'.cell? ⟨w.heap.size, 0, none⟩ = some (.slice A l.length c) ∧ w'.cell? ⟨w.heap.size, 1, none⟩ = some (.int .i64 W) ∧ w'.cell? ⟨w.heap.size, 2, none⟩ = some (.int .i64 V) ∧
        w'.cell? ⟨w2.heap.size, 0, none⟩ = some (.int .i64 sw) ∧ w'.cell? ⟨w2.heap.size, 1, none⟩ = some (.int .i64 sv) ∧ w'.cell? ⟨w2.heap.size, 2, none⟩ = some (.int .i64 sx) ∧
        w'.cell? ⟨w4.heap.size, 0, none⟩ = some (.int .i64 sw) ∧ w'.cell? ⟨w4.heap.size, 1, none⟩ = some (.int .i64 sv) ∧ w'.cell? ⟨w4.heap.size, 2, none⟩ = some (.int .i64 sx)) (go_keep) (first
      | (go_at_call 12; refine (Hck.out _ md.out).mono ?_; rintro e w7 ⟨rfl, m7⟩; have m57 := hid m7; have xx := At.three (HXd.out.mod m7 id); obtain ⟨xx0, xx1, xx2⟩ := xx; have ss := At.three (HSd.out.mod m7 id); obtain ⟨ss0, ss1, ss2⟩ := ss; have rr := At.three (HRd.out.mod m7 id); obtain ⟨rr0, rr1, rr2⟩ := rr)
      | (go_at_call 13; refine (Hrk.out _ (md.out.trans m57.out)).mono ?_; rintro e w8 ⟨rfl, m8⟩; have m58 := hid (m57.out.trans m8); have yx := At.three (HXd.out.mod m58.out id); obtain ⟨yx0, yx1, yx2⟩ := yx; have ys := At.three (HSd.out.mod m58.out id); obtain ⟨ys0, ys1, ys2⟩ := ys; have yr := At.three (HRd.out.mod m58.out id); obtain ⟨yr0, yr1, yr2⟩ := yr)
      | (go_at_call 9; refine (awake_c _).mono ?_; rintro e w9 ⟨rfl, m9⟩; have m59 := hid (m58.out.trans m9); have zx := At.three (HXd.out.mod m59.out id); obtain ⟨zx0, zx1, zx2⟩ := zx; have zs := At.three (HSd.out.mod m59.out id); obtain ⟨zs0, zs1, zs2⟩ := zs; have zr := At.three (HRd.out.mod m59.out id); obtain ⟨zr0, zr1, zr2⟩ := zr))
    all_goals
      go_wp2_with fail
      go_ret
      exact ⟨rfl, (M1.out.trans (md.out.trans m59.out)).low⟩
end Go.Proofs.Ytdnodloinlijaaa
