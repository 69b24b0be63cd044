/- TruckGreater: the walk. -/
import Derived.Test.YtdnodloinlijaaaOptimal
namespace Go.Proofs.Ytdnodloinlijaaa
open Go.RowKit
set_option linter.unusedVariables false
set_option linter.unusedSimpArgs false

theorem greater_law {l : List Pc} {W V W2 V2 : Int} (h : checkF l W V = 0) (h2 : checkF l W2 V2 = 0) (hW : W ≤ W2) (hV : V ≤ V2) : ∃ s t, sumF l (bestR l W V) = (s, 0) ∧ sumF l (bestR l W2 V2) = (t, 0) ∧ s.x ≤ t.x := by
  obtain ⟨s, h3, h4, h5, _⟩ := best_law h
  obtain ⟨t, h6, _, _, h7⟩ := best_law h2
  exact ⟨s, t, h3, h6, (h7 _ s h3 (by omega) (by omega)).1⟩

set_option maxHeartbeats 3200000 in
theorem truckGreater_walk (A : Option Addr) (l : List Pc) (c : Nat) (W V : Int) (p q : Int) (w : World) (h : Ps w A l) :
    Calls Try.prog 7 #[.agg #[.slice A l.length c, .int .i64 W, .int .i64 V], .agg #[.int .i64 p, .int .i64 q]] w fun e w' => e = .returned (.bool true) ∧ Below w.heap.size w w' := by
  obtain ⟨w1, hw1⟩ : ∃ w1 : World, w1 = (w.alloc (.cells #[.slice A l.length c, .int .i64 W, .int .i64 V] 24)).alloc (.cells #[.int .i64 p, .int .i64 q] 41) := ⟨_, rfl⟩
  have m1 : Mod (fun _ => False) w w1 := by rw [hw1]; exact ((Mod.refl _ _).alloc _).alloc _
  have hX1 : At w1 w.heap.size (.cells #[.slice A l.length c, .int .i64 W, .int .i64 V] 24 (0, 0)) := by rw [hw1]; exact (At.new _ _).alloc _
  have hM1 : At w1 (w.heap.size + 1) (.cells #[.int .i64 p, .int .i64 q] 41 (0, 0)) := by rw [hw1]; exact At.new1 _ _ _
  have HP1 := hid (h.mod0 m1)
  have M1 := hid m1
  have HX1 := hid hX1
  have HM1 := hid hM1
  have Hw1 := hid hw1
  obtain ⟨x0, x1, x2⟩ := At.three hX1
  obtain ⟨y0, y1⟩ := At.two hM1
  clear h hw1 m1 hX1 hM1
  by_cases hbad : (16 : Int) < (l.length : Int) ∨ (¬ (16 : Int) < (l.length : Int) ∧ p < 0) ∨ (¬ (16 : Int) < (l.length : Int) ∧ ¬ p < 0 ∧ q < 0) ∨ (¬ (16 : Int) < (l.length : Int) ∧ ¬ p < 0 ∧ ¬ q < 0 ∧ (1000000000000 : Int) < p) ∨ (¬ (16 : Int) < (l.length : Int) ∧ ¬ p < 0 ∧ ¬ q < 0 ∧ ¬ (1000000000000 : Int) < p ∧ (1000000000000 : Int) < q)
  · go_enter Try.func7, Try.ntmps7
    go_upto_region 1 with fail
    rw [← Hw1.out]
    rcases hbad with h1 | ⟨h1, h2⟩ | ⟨h1, h2, h3⟩ | ⟨h1, h2, h3, h4⟩ | ⟨h1, h2, h3, h4, h5⟩
    all_goals
      go_wp2_with fail
      refine (awake_c _).mono ?_
      rintro e w2 ⟨rfl, m2⟩
      go_wp2_with fail
      go_ret
      exact ⟨rfl, (M1.out.trans m2).low⟩
  · have k1 : ¬ (16 : Int) < (l.length : Int) := fun e => hbad (.inl e)
    have k2 : ¬ p < 0 := fun e => hbad (.inr (.inl ⟨k1, e⟩))
    have k3 : ¬ q < 0 := fun e => hbad (.inr (.inr (.inl ⟨k1, k2, e⟩)))
    have k4 : ¬ (1000000000000 : Int) < p := fun e => hbad (.inr (.inr (.inr (.inl ⟨k1, k2, k3, e⟩))))
    have k5 : ¬ (1000000000000 : Int) < q := fun e => hbad (.inr (.inr (.inr (.inr ⟨k1, k2, k3, k4, e⟩))))
    clear hbad
    have hck := check_c A c l W V w1 HP1.out
    by_cases hc : checkF l W V = 0
    · rw [hc] at hck
      obtain ⟨h16, ⟨hW0, hW1⟩, ⟨hV0, hV1⟩, hok⟩ := checkF_ok hc
      have ew : IntKind.i64.wrap (W + p) = W + p := wrap_ok _ (by omega) (by omega)
      have ev : IntKind.i64.wrap (V + q) = V + q := wrap_ok _ (by omega) (by omega)
      obtain ⟨W2, hW2⟩ : ∃ W2, W2 = min (W + p) 1000000000000 := ⟨_, rfl⟩
      obtain ⟨V2, hV2⟩ : ∃ V2, V2 = min (V + q) 1000000000000 := ⟨_, rfl⟩
      have hc2 : checkF l W2 V2 = 0 := checkF_of h16 (by omega) (by omega) hok
      have hb := hid (fun (w2 : World) (m : Mod (fun _ => False) w1 w2) => bestI_c A c l W V w2 (HP1.out.mod0 m))
      have hb2 := hid (fun (w2 : World) (m : Mod (fun _ => False) w1 w2) => bestI_c A c l W2 V2 w2 (HP1.out.mod0 m))
      have hlen := hid (best_len l W V)
      have hlen2 := hid (best_len l W2 V2)
      obtain ⟨s, t, hs, ht, hst⟩ := greater_law hc hc2 (by omega) (by omega)
      have hsum := hid (fun (B : Option Addr) (d : Nat) (w2 : World) (m : Mod (fun _ => False) w1 w2) (hi : Is w2 B (bestR l W V)) => sum_c A B c d l (bestR l W V) w2 (HP1.out.mod0 m) hi (by have := hlen.out; omega))
      have hsum2 := hid (fun (B : Option Addr) (d : Nat) (w2 : World) (m : Mod (fun _ => False) w1 w2) (hi : Is w2 B (bestR l W2 V2)) => sum_c A B c d l (bestR l W2 V2) w2 (HP1.out.mod0 m) hi (by have := hlen2.out; omega))
      rw [hs] at hsum
      rw [ht] at hsum2
      rw [hc] at hb
      rw [hc2] at hb2
      have HW2 := hid hW2
      have HV2 := hid hV2
      generalize bestR l W V = bs at *
      generalize bestR l W2 V2 = bs2 at *
      obtain ⟨sw, sv, sx⟩ := s
      obtain ⟨tw, tv, tx⟩ := t
      simp only at hst hsum hsum2
      have hge : tx ≥ sx := hst
      have hge2 : ¬ tx < sx := by omega
      clear hs ht hc hc2 hok hlen hlen2 hW2 hV2 h16 hst
      go_enter Try.func7, Try.ntmps7
      go_upto_region 1 with fail
      rw [← Hw1.out]
      clear Hw1
      go_wp2_with fail
      refine hck.mono ?_
      rintro e w2 ⟨rfl, m2⟩
      have HX2 := hid (HX1.out.mod m2 id)
      have HM2 := hid (HM1.out.mod m2 id)
      have hb' := hb.out w2 m2
      have M2 := hid m2
      clear x0 x1 x2 y0 y1 hck m2 hb
      obtain ⟨x0, x1, x2⟩ := At.three HX2.out
      obtain ⟨y0, y1⟩ := At.two HM2.out
      go_wp2_with fail
      refine hb'.mono ?_
      rintro e w3 ⟨B3, d3, rfl, hi3, m3⟩
      have HX3 := hid (HX2.out.mod m3 id)
      have HM3 := hid (HM2.out.mod m3 id)
      have HI3 := hid hi3
      have M3 := hid (M2.out.trans m3)
      have hb' := hb2.out w3 M3.out
      clear x0 x1 x2 y0 y1 m3 hi3
      obtain ⟨x0, x1, x2⟩ := At.three HX3.out
      obtain ⟨y0, y1⟩ := At.two HM3.out
      have hWc : ((1000000000000 : Int) < W + p ∧ W2 = 1000000000000) ∨ (¬ (1000000000000 : Int) < W + p ∧ W2 = W + p) := by
        have := HW2.out
        omega
      have hVc : ((1000000000000 : Int) < V + q ∧ V2 = 1000000000000) ∨ (¬ (1000000000000 : Int) < V + q ∧ V2 = V + q) := by
        have := HV2.out
        omega
      clear HW2 HV2
      rcases hWc with ⟨a1, rfl⟩ | ⟨a1, rfl⟩ <;> rcases hVc with ⟨b1, rfl⟩ | ⟨b1, rfl⟩
      all_goals
        have Hb := hid hb'
        clear hb'
        go_wp2_with fail
        refine Hb.out.mono ?_
        rintro e w4 ⟨B4, d4, rfl, hi4, m4⟩
        have HX4 := hid (HX3.out.mod m4 id)
        have HI34 := hid (HI3.out.mod0 m4)
        have HI4 := hid hi4
        have M4 := hid (M3.out.trans m4)
        have hs5 := hsum.out B3 d3 w4 M4.out HI34.out
        clear x0 x1 x2 y0 y1 m4 hi4 Hb ew ev a1 b1
        obtain ⟨x0, x1, x2⟩ := At.three HX4.out
        go_wp2_with fail
        refine hs5.mono ?_
        rintro e w5 ⟨rfl, m5⟩
        obtain ⟨w6, hw6⟩ : ∃ w6 : World, w6 = w5.alloc (.cells #[.int .i64 sw, .int .i64 sv, .int .i64 sx] 28) := ⟨_, rfl⟩
        have m46 := hid (show Mod (fun _ => False) w4 w6 from by rw [hw6]; exact m5.alloc _)
        have HS6 := hid (show At w6 w5.heap.size (.cells #[.int .i64 sw, .int .i64 sv, .int .i64 sx] 28 (0, 0)) from by rw [hw6]; exact At.new _ _)
        have HX6 := hid (HX4.out.mod m46.out id)
        have HI6 := hid (HI4.out.mod0 m46.out)
        have M6 := hid (M4.out.trans m46.out)
        have Hw6 := hid hw6
        have hs7 := hsum2.out B4 d4 w6 M6.out HI6.out
        clear x0 x1 x2 hs5 hw6 m5
        obtain ⟨x0, x1, x2⟩ := At.three HX6.out
        go_upto_region 6 with fail
        rw [← Hw6.out]
        clear Hw6
        go_wp2_with fail
        refine hs7.mono ?_
        rintro e w7 ⟨rfl, m7⟩
        obtain ⟨w8, hw8⟩ : ∃ w8 : World, w8 = w7.alloc (.cells #[.int .i64 tw, .int .i64 tv, .int .i64 tx] 28) := ⟨_, rfl⟩
        have m68 := hid (show Mod (fun _ => False) w6 w8 from by rw [hw8]; exact m7.alloc _)
        have HT8 := hid (show At w8 w7.heap.size (.cells #[.int .i64 tw, .int .i64 tv, .int .i64 tx] 28 (0, 0)) from by rw [hw8]; exact At.new _ _)
        have HS8 := hid (HS6.out.mod m68.out id)
        have M8 := hid (M6.out.trans m68.out)
        have Hw8 := hid hw8
        clear x0 x1 x2 hs7 hw8 m7
        obtain ⟨s0, s1, s2⟩ := At.three HS8.out
        obtain ⟨t0, t1, t2⟩ := At.three HT8.out
        go_upto_region 7 with fail
        rw [← Hw8.out]
        clear Hw8
        go_wp2_with fail
        refine (awake_c _).mono ?_
        rintro e w9 ⟨rfl, m9⟩
        go_wp2_with fail
        go_ret
        exact ⟨rfl, ((M1.out.trans M8.out).trans m9).low⟩
    · generalize checkF l W V = ce at hck hc
      go_enter Try.func7, Try.ntmps7
      go_upto_region 1 with fail
      rw [← Hw1.out]
      go_wp2_with fail
      refine hck.mono ?_
      rintro e w2 ⟨rfl, m2⟩
      go_wp2_with fail
      refine (awake_c _).mono ?_
      rintro e w3 ⟨rfl, m3⟩
      go_wp2_with fail
      go_ret
      exact ⟨rfl, ((M1.out.trans m2).trans m3).low⟩
end Go.Proofs.Ytdnodloinlijaaa
