/- The examples of the chapter: awake. -/
import Derived.Test.YtdnodloinlijaaaTrips
namespace Go.Proofs.Ytdnodloinlijaaa
open Go.RowKit
set_option linter.unusedVariables false
set_option linter.unusedSimpArgs false

def smp : List Pc := [⟨5, 1, 10⟩, ⟨4, 1, 7⟩, ⟨3, 1, 6⟩]
theorem sample_c (w : World) : Calls Try.prog 21 #[] w fun e w' => ∃ b, e = .returned (.agg #[.slice (some ⟨b, 0, none⟩) 3 3, .int .i64 7, .int .i64 9]) ∧ Ps w' (some ⟨b, 0, none⟩) smp ∧ Mod (fun _ => False) w w' := by
  have h1 := At.new1 w (.cells #[.slice (some ⟨w.heap.size + 1, 0, none⟩) 3 3, .int .i64 7, .int .i64 9] 24) (.cells #[.int .i64 5, .int .i64 1, .int .i64 10, .int .i64 4, .int .i64 1, .int .i64 7, .int .i64 3, .int .i64 1, .int .i64 6] 28)
  have h0 := (At.new w (.cells #[.slice (some ⟨w.heap.size + 1, 0, none⟩) 3 3, .int .i64 7, .int .i64 9] 24)).alloc (.cells #[.int .i64 5, .int .i64 1, .int .i64 10, .int .i64 4, .int .i64 1, .int .i64 7, .int .i64 3, .int .i64 1, .int .i64 6] 28)
  obtain ⟨r0, r1, r2⟩ := At.three h0
  have H1 := hid h1
  clear h0 h1
  go_enter Try.func21, Try.ntmps21
  go_wp2_with fail
  refine bodyPost_ret (v := .agg #[.slice (some ⟨w.heap.size + 1, 0, none⟩) 3 3, .int .i64 7, .int .i64 9]) (by simp [results, Try.results21, go_sem, r0, r1, r2]) rfl ⟨_, rfl, Ps.of H1.out rfl, ((Mod.refl _ w).alloc _).alloc _⟩
theorem f1 : bestR smp 7 9 = [1, 2] := by decide +kernel
theorem f2 : bestR smp 8 9 = [0, 2] := by decide +kernel
theorem f3 : tripsR smp 7 9 = [[1, 2], [0]] := by decide +kernel
theorem f4w : (sumF smp [0, 2]).1.w = 8 := by decide +kernel
theorem f4v : (sumF smp [0, 2]).1.v = 2 := by decide +kernel
theorem f4x : (sumF smp [0, 2]).1.x = 16 := by decide +kernel
theorem f4e : (sumF smp [0, 2]).2 = 0 := by decide +kernel
theorem f5w : (sumF smp [2, 0]).1.w = 0 := by decide +kernel
theorem f5v : (sumF smp [2, 0]).1.v = 0 := by decide +kernel
theorem f5x : (sumF smp [2, 0]).1.x = 0 := by decide +kernel
theorem f5e : (sumF smp [2, 0]).2 = 11 := by decide +kernel
theorem f6 : checkF smp 7 9 = 0 := by decide +kernel
theorem f7 : checkF smp 8 9 = 0 := by decide +kernel
theorem f8 : checkF smp (-1) 0 = 9 := by decide +kernel
theorem best1 {b : Nat} {w : World} (h : Ps w (some ⟨b, 0, none⟩) smp) : Calls Try.prog 15 #[.slice (some ⟨b, 0, none⟩) 3 3, .int .i64 7, .int .i64 9] w fun e w' => ∃ B d, e = .returned (.tuple #[.slice B 2 d, .int .i64 0]) ∧ Is w' B [1, 2] ∧ Mod (fun _ => False) w w' := by
  have := best_c (some ⟨b, 0, none⟩) 3 smp 7 9 w h
  rw [f1, f6] at this
  exact this.mono fun e w' ⟨B, d, h1, h2, h3⟩ => ⟨B, d, h1, Is.own h2, h3⟩
theorem best2 {b : Nat} {w : World} (h : Ps w (some ⟨b, 0, none⟩) smp) : Calls Try.prog 15 #[.slice (some ⟨b, 0, none⟩) 3 3, .int .i64 8, .int .i64 9] w fun e w' => ∃ B d, e = .returned (.tuple #[.slice B 2 d, .int .i64 0]) ∧ Is w' B [0, 2] ∧ Mod (fun _ => False) w w' := by
  have := best_c (some ⟨b, 0, none⟩) 3 smp 8 9 w h
  rw [f2, f7] at this
  exact this.mono fun e w' ⟨B, d, h1, h2, h3⟩ => ⟨B, d, h1, Is.own h2, h3⟩
theorem trips1 {b : Nat} {w : World} (h : Ps w (some ⟨b, 0, none⟩) smp) : Calls Try.prog 18 #[.slice (some ⟨b, 0, none⟩) 3 3, .int .i64 7, .int .i64 9] w fun e w' => ∃ B d, e = .returned (.tuple #[.slice B 2 d, .int .i64 0]) ∧ (∃ g A' c', B = some ⟨g, 0, none⟩ ∧ g < w'.heap.size ∧ w'.cell? ⟨g, 1, none⟩ = some (.slice A' 1 c') ∧ Is w' A' [0]) ∧ Mod (fun _ => False) w w' := by
  have := trips_c (some ⟨b, 0, none⟩) 3 smp 7 9 w h
  rw [f3, f6] at this
  exact this.mono fun e w' ⟨B, d, h1, h2, h3⟩ => ⟨B, d, h1, h2.get (i := 1) (t := [0]) rfl, h3⟩
theorem sum1 {b g : Nat} {w : World} (h : Ps w (some ⟨b, 0, none⟩) smp) (h2 : Is w (some ⟨g, 0, none⟩) [0, 2]) : Calls Try.prog 10 #[.slice (some ⟨b, 0, none⟩) 3 3, .slice (some ⟨g, 0, none⟩) 2 2] w fun e w' => e = .returned (.tuple #[.agg #[.int .i64 8, .int .i64 2, .int .i64 16], .int .i64 0]) ∧ Mod (fun _ => False) w w' := by
  have := sum_c (some ⟨b, 0, none⟩) (some ⟨g, 0, none⟩) 3 2 smp [0, 2] w h h2 (by decide)
  rw [f4w, f4v, f4x, f4e] at this
  exact this
theorem sum2 {b g : Nat} {w : World} (h : Ps w (some ⟨b, 0, none⟩) smp) (h2 : Is w (some ⟨g, 0, none⟩) [2, 0]) : Calls Try.prog 10 #[.slice (some ⟨b, 0, none⟩) 3 3, .slice (some ⟨g, 0, none⟩) 2 2] w fun e w' => e = .returned (.tuple #[.agg #[.int .i64 0, .int .i64 0, .int .i64 0], .int .i64 11]) ∧ Mod (fun _ => False) w w' := by
  have := sum_c (some ⟨b, 0, none⟩) (some ⟨g, 0, none⟩) 3 2 smp [2, 0] w h h2 (by decide)
  rw [f5w, f5v, f5x, f5e] at this
  exact this
theorem check1 {b : Nat} {w : World} (h : Ps w (some ⟨b, 0, none⟩) smp) : Calls Try.prog 12 #[.slice (some ⟨b, 0, none⟩) 3 3, .int .i64 (-1), .int .i64 0] w fun e w' => e = .returned (.int .i64 9) ∧ Mod (fun _ => False) w w' := by
  have := check_c (some ⟨b, 0, none⟩) 3 smp (-1) 0 w h
  rw [f8] at this
  exact this
theorem same1 {A1 A2 : Option Addr} {c1 c2 : Nat} {x y : Int} {w : World} (h1 : Is w A1 [x, y]) (h2 : Is w A2 [x, y]) : Calls Try.prog 17 #[.slice A1 2 c1, .slice A2 2 c2] w fun e w' => e = .returned (.bool true) ∧ Mod (fun _ => False) w w' := by
  have := same_c A1 A2 c1 c2 [x, y] [x, y] w h1 h2 (by simp)
  rw [decide_eq_true rfl] at this
  exact this
theorem same2 {A1 A2 : Option Addr} {c1 c2 : Nat} {x : Int} {w : World} (h1 : Is w A1 [x]) (h2 : Is w A2 [x]) : Calls Try.prog 17 #[.slice A1 1 c1, .slice A2 1 c2] w fun e w' => e = .returned (.bool true) ∧ Mod (fun _ => False) w w' := by
  have := same_c A1 A2 c1 c2 [x] [x] w h1 h2 (by simp)
  rw [decide_eq_true rfl] at this
  exact this

set_option maxRecDepth 100000 in
set_option maxHeartbeats 4000000 in
theorem awake_c (w : World) : Calls Try.prog 9 #[] w fun e w' => e = .returned (.bool true) ∧ Mod (fun _ => False) w w' := by
  go_enter Try.func9, Try.ntmps9
  go_wp2_with fail
  refine (sample_c w).mono ?_
  rintro e w1 ⟨b, rfl, hp1, m1⟩
  obtain ⟨w2, hw2⟩ : ∃ w2 : World, w2 = w1.alloc (.cells #[.slice (some ⟨b, 0, none⟩) 3 3, .int .i64 7, .int .i64 9] 24) := ⟨_, rfl⟩
  have hX2 : At w2 w1.heap.size (.cells #[.slice (some ⟨b, 0, none⟩) 3 3, .int .i64 7, .int .i64 9] 24 (0, 0)) := by rw [hw2]; exact At.new _ _
  have HP2 := hid (hp1.mod0 (show Mod (fun _ => False) w1 w2 from by rw [hw2]; exact (Mod.refl _ _).alloc _))
  have M2 := hid (show Mod (fun _ => False) w w2 from by rw [hw2]; exact m1.alloc _)
  have Hw2 := hid hw2
  have HX2 := hid hX2
  obtain ⟨x0, x1, x2⟩ := At.three hX2
  clear hw2 hp1 m1 hX2
  go_upto_region 2 with fail
  rw [← Hw2.out]
  clear Hw2
  go_wp2_with fail
  refine (best1 HP2.out).mono ?_
  rintro e w3 ⟨A3, c3, rfl, h3, m3⟩
  have H3 := hid h3
  have HP3 := hid (HP2.out.mod0 m3)
  have HX3 := hid (HX2.out.mod m3 id)
  have M3 := hid (M2.out.trans m3)
  clear x0 x1 x2 h3 m3 HP2 HX2 M2
  obtain ⟨x0, x1, x2⟩ := At.three HX3.out
  go_wp2_with fail
  refine (best2 HP3.out).mono ?_
  rintro e w4 ⟨A4, c4, rfl, h4, m4⟩
  have H34 := hid (H3.out.mod0 m4)
  have H4 := hid h4
  have HP4 := hid (HP3.out.mod0 m4)
  have HX4 := hid (HX3.out.mod m4 id)
  have M4 := hid (M3.out.trans m4)
  clear x0 x1 x2 h4 m4 HP3 HX3 M3 H3
  obtain ⟨x0, x1, x2⟩ := At.three HX4.out
  go_wp2_with fail
  refine (trips1 HP4.out).mono ?_
  rintro e w5 ⟨A5, c5, rfl, ⟨g5, A5', c5', rfl, hg5, ht5, hi5⟩, m5⟩
  have H35 := hid (H34.out.mod0 m5)
  have H45 := hid (H4.out.mod0 m5)
  have HI5 := hid hi5
  have HP5 := hid (HP4.out.mod0 m5)
  have HX5 := hid (HX4.out.mod m5 id)
  have M5 := hid (M4.out.trans m5)
  have Hg5 := hid hg5
  have HT5 := hid ht5
  clear x0 x1 x2 hi5 m5 HP4 HX4 M4 H34 H4 hg5 ht5
  obtain ⟨x0, x1, x2⟩ := At.three HX5.out
  go_wp2_with fail
  refine (sum1 (HP5.out.mod0 ((Mod.refl _ _).alloc _)) (Is.of (At.new _ _) rfl)).mono ?_
  rintro e w6 ⟨rfl, m6⟩
  obtain ⟨w7, hw7⟩ : ∃ w7 : World, w7 = w6.alloc (.cells #[.int .i64 8, .int .i64 2, .int .i64 16] 28) := ⟨_, rfl⟩
  have m57 := hid (show Mod (fun _ => False) w5 w7 from by rw [hw7]; exact (((Mod.refl _ w5).alloc _).trans m6).alloc _)
  have HS7 := hid (show At w7 w6.heap.size (.cells #[.int .i64 8, .int .i64 2, .int .i64 16] 28 (0, 0)) from by rw [hw7]; exact At.new _ _)
  have HP7 := hid (HP5.out.mod0 m57.out)
  have HX7 := hid (HX5.out.mod m57.out id)
  have Hw7 := hid hw7
  clear x0 x1 x2 hw7 m6 HP5 HX5
  obtain ⟨x0, x1, x2⟩ := At.three HX7.out
  go_upto_region 6 with fail
  rw [← Hw7.out]
  clear Hw7
  go_wp2_with fail
  refine (sum2 (HP7.out.mod0 ((Mod.refl _ _).alloc _)) (Is.of (At.new _ _) rfl)).mono ?_
  rintro e w8 ⟨rfl, m8⟩
  obtain ⟨w9, hw9⟩ : ∃ w9 : World, w9 = w8.alloc (.cells #[.int .i64 0, .int .i64 0, .int .i64 0] 28) := ⟨_, rfl⟩
  have m79 := hid (show Mod (fun _ => False) w7 w9 from by rw [hw9]; exact (((Mod.refl _ w7).alloc _).trans m8).alloc _)
  have M59 := hid (m57.out.trans m79.out)
  have HP9 := hid (HP7.out.mod0 m79.out)
  have HX9 := hid (HX7.out.mod m79.out id)
  have HS9 := hid (HS7.out.mod m79.out id)
  have H39 := hid (H35.out.mod0 M59.out)
  have H49 := hid (H45.out.mod0 M59.out)
  have HI9 := hid (HI5.out.mod0 M59.out)
  have ht9 := M59.out.keep0 HT5.out
  have M9 := hid (M5.out.trans M59.out)
  have hg9 : g5 < w9.heap.size := Nat.lt_of_lt_of_le Hg5.out M59.out.size
  have HT9 := hid ht9
  have Hw9 := hid hw9
  clear x0 x1 x2 hw9 m8 HP7 HX7 HS7 H35 H45 HI5 HT5 M5 M59 m57 m79 Hg5 ht9
  go_upto_region 7 with fail
  rw [← Hw9.out]
  clear Hw9
  go_upto_region 9 with fail
  go_wp2_with fail
  refine (same1 (H39.out.mod0 ((Mod.refl _ _).alloc _)) (Is.of (At.new _ _) rfl)).mono ?_
  rintro e w10 ⟨rfl, m10⟩
  have q10 := ((Mod.refl (fun _ => False) w9).alloc (.cells #[.int .i64 1, .int .i64 2] 3)).trans m10
  have M910 := hid q10
  clear m10 q10
  go_wp2_with fail
  refine (same1 ((H49.out.mod0 M910.out).mod0 ((Mod.refl _ _).alloc _)) (Is.of (At.new _ _) rfl)).mono ?_
  rintro e w11 ⟨rfl, m11⟩
  have q11 := (M910.out.alloc (.cells #[.int .i64 0, .int .i64 2] 3)).trans m11
  have M911 := hid q11
  have ht11 := q11.keep0 HT9.out
  have hg11 : g5 < w11.heap.size := Nat.lt_of_lt_of_le hg9 q11.size
  clear m11 q11 M910
  go_wp2_with fail
  refine (same2 ((HI9.out.mod0 M911.out).mod0 ((Mod.refl _ _).alloc _)) (Is.of (At.new _ _) rfl)).mono ?_
  rintro e w12 ⟨rfl, m12⟩
  have q12 := (M911.out.alloc (.cells #[.int .i64 0] 3)).trans m12
  have M912 := hid q12
  have HP12 := hid (HP9.out.mod0 q12)
  obtain ⟨s0, s1, s2⟩ := At.three (HS9.out.mod q12 id)
  obtain ⟨x0, x1, x2⟩ := At.three (HX9.out.mod q12 id)
  clear m12 q12 M911 ht11 hg11
  go_wp2_with fail
  refine (check1 HP12.out).mono ?_
  rintro e w13 ⟨rfl, m13⟩
  go_wp2_with fail
  go_ret
  exact ⟨rfl, (M9.out.trans M912.out).trans m13⟩
end Go.Proofs.Ytdnodloinlijaaa
