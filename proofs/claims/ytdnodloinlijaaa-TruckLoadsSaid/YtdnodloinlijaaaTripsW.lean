/- TruckTrips: the plain law and the walk. -/
import Derived.Test.YtdnodloinlijaaaRtrips
namespace Go.Proofs.Ytdnodloinlijaaa
open Go.RowKit
set_option linter.unusedVariables false
set_option linter.unusedSimpArgs false

theorem set_getD (lf : List Bool) (n i : Nat) : (lf.set n false).getD i false = if n = i then false else lf.getD i false := by
  simp only [List.getD_eq_getElem?_getD, List.getElem?_set]
  by_cases e : n = i
  · subst e
    simp
    split <;> simp_all
  · simp [e]
theorem clearB_getD : ∀ (x : List Int) (lf : List Bool) (i : Nat), (∀ j ∈ x, 0 ≤ j) → (clearB lf x).getD i false = if (i : Int) ∈ x then false else lf.getD i false
  | [], lf, i, _ => by simp [clearB]
  | a :: x, lf, i, h => by
    rw [clearB_cons, clearB_getD x _ i (fun j hj => h j (List.mem_cons_of_mem _ hj)), set_getD]
    have ha := h a (by simp)
    by_cases h1 : (i : Int) ∈ x
    · rw [if_pos h1, if_pos (List.mem_cons_of_mem _ h1)]
    · rw [if_neg h1]
      by_cases h2 : a.toNat = i
      · rw [if_pos h2, if_pos (by rw [List.mem_cons]; left; omega)]
      · rw [if_neg h2, if_neg]
        rw [List.mem_cons]
        rintro (e | e)
        · omega
        · exact h1 e
theorem Lr_clear (lf : List Bool) (x : List Int) (hx : ∀ j ∈ x, 0 ≤ j) : ∀ (r : List Pc) (i : Nat), Lr (clearB lf x) r i = (Lr lf r i).filter (fun q => decide (q.2 ∉ x))
  | [], i => rfl
  | p :: r, i => by
    rw [Lr_cons, Lr_cons, clearB_getD x lf i hx, Lr_clear lf x hx r (i + 1)]
    by_cases h1 : (i : Int) ∈ x
    · rw [if_pos h1, if_neg (by decide)]
      split
      · rw [List.filter_cons_of_neg (by simpa using h1)]
      · rfl
    · rw [if_neg h1]
      split
      · rw [List.filter_cons_of_pos (by simpa using h1)]
      · rfl
theorem rtrips_eq (l : List Pc) (W V : Int) (hW : 0 ≤ W) (hV : 0 ≤ V) : ∀ (m : Nat) (lf : List Bool), (firsts (Lr lf l 0)).all okP = true → rtripsGo l W V m lf = tripsF W V m (Lr lf l 0)
  | 0, lf, _ => rfl
  | m + 1, lf, h => by
    have hI : Incr (Lr lf l 0) := incr_sub (withIdx_incr l) (Lr_sub0 lf l)
    have hb := rbest_law l lf W V hW hV h hI
    have hr : ∀ j ∈ rbestF l lf W V, 0 ≤ j := fun j hj => (rbestF_range j hj).1
    rw [rtripsGo_succ, tripsF_succ]
    obtain ⟨s, b1, _⟩ := best_spec (firsts (Lr lf l 0)) W V h hW hV
    have hm := (split_sm0 b1).2
    by_cases e : bestF (firsts (Lr lf l 0)) W V = []
    · have e2 : rbestF l lf W V = [] := by rw [hb, hm, e]; rfl
      rw [if_pos e, if_pos e2]
    · have e2 : rbestF l lf W V ≠ [] := by
        rw [hb, hm]
        intro q
        exact e (List.map_eq_nil_iff.1 q)
      rw [if_neg e, if_neg e2]
      have hrest : Lr (clearB lf (rbestF l lf W V)) l 0 = (split 0 (Lr lf l 0) (bestF (firsts (Lr lf l 0)) W V)).2 := by
        rw [Lr_clear lf _ hr, split_rest _ 0 _ hI, ← hb]
      rw [rtrips_eq l W V hW hV m _ (by rw [hrest]; exact firsts_all h (split_sub _ 0 _)), hrest, hb]
theorem rtripsR_eq (l : List Pc) (W V : Int) : rtripsR l W V = tripsR l W V := by
  unfold rtripsR tripsR
  by_cases hc : checkF l W V = 0
  · obtain ⟨h16, hW, hV, hok⟩ := checkF_ok hc
    rw [if_pos hc, if_pos hc, rtrips_eq l W V hW.1 hV.1 _ _ (by rw [Lr_true, firsts_withIdx]; exact hok), Lr_true]
    exact (tripsF_more W V _ _ (by rw [firsts_withIdx]; exact hok) (by rw [withIdx_len]; exact Nat.le_refl _)).symm
  · rw [if_neg hc, if_neg hc]
theorem split1_le : ∀ (L : List (Pc × Int)) (i : Nat) (ld : List Int), (split i L ld).1.length ≤ L.length
  | [], i, ld => by simp [split]
  | q :: r, i, ld => by
    rw [split_cons]
    split
    · have := split1_le r (i + 1) ld.tail
      simp only [List.length_cons]; omega
    · have := split1_le r (i + 1) ld
      simp only [List.length_cons]; omega
theorem tripsF_len (W V : Int) : ∀ (n : Nat) (L : List (Pc × Int)), (tripsF W V n L).length ≤ n
  | 0, L => by simp [tripsF]
  | n + 1, L => by
    rw [tripsF_succ]
    split
    · simp
    · have := tripsF_len W V n (split 0 L (bestF (firsts L) W V)).2
      simp only [List.length_cons]; omega
theorem tripsF_each (W V : Int) : ∀ (n : Nat) (L : List (Pc × Int)), ∀ t ∈ tripsF W V n L, t.length ≤ L.length
  | 0, L, t, h => by simp [tripsF] at h
  | n + 1, L, t, h => by
    rw [tripsF_succ] at h
    split at h
    · simp at h
    · rw [List.mem_cons] at h
      rcases h with rfl | h
      · exact split1_le L 0 _
      · have h1 := tripsF_each W V n _ t h
        have h2 := split_le L 0 (bestF (firsts L) W V)
        omega
theorem tripsR_len (l : List Pc) (W V : Int) : (tripsR l W V).length ≤ 17 ∧ ∀ t ∈ tripsR l W V, t.length ≤ 16 := by
  unfold tripsR
  by_cases hc : checkF l W V = 0
  · rw [if_pos hc]
    obtain ⟨h16, _⟩ := checkF_ok hc
    have := tripsF_len W V (l.length + 1) (withIdx l)
    refine ⟨by omega, fun t ht => ?_⟩
    have := tripsF_each W V _ _ t ht
    rw [withIdx_len] at this
    omega
  · rw [if_neg hc]
    exact ⟨by simp, fun t ht => by simp at ht⟩

set_option maxHeartbeats 3200000 in
theorem truckTrips_walk (A : Option Addr) (l : List Pc) (c : Nat) (W V : Int) (w : World) (h : Ps w A l) :
    Calls Try.prog 5 #[.agg #[.slice A l.length c, .int .i64 W, .int .i64 V]] w fun e w' => e = .returned (.bool true) ∧ Below w.heap.size w w' := by
  obtain ⟨w1, hw1⟩ : ∃ w1 : World, w1 = w.alloc (.cells #[.slice A l.length c, .int .i64 W, .int .i64 V] 24) := ⟨_, rfl⟩
  have m1 : Mod (fun _ => False) w w1 := by rw [hw1]; exact (Mod.refl _ _).alloc _
  have hX1 : At w1 w.heap.size (.cells #[.slice A l.length c, .int .i64 W, .int .i64 V] 24 (0, 0)) := by rw [hw1]; exact At.new _ _
  have HP1 := hid (h.mod0 m1)
  have M1 := hid m1
  have HX1 := hid hX1
  have Hw1 := hid hw1
  obtain ⟨x0, x1, x2⟩ := At.three hX1
  have hfew := few_c A c l.length W V w1
  clear h hw1 m1 hX1
  cases hf : fewF l.length with
  | false =>
    rw [hf] at hfew
    clear hf
    go_enter Try.func5, Try.ntmps5
    go_upto_region 1 with fail
    rw [← Hw1.out]
    go_wp2_with fail
    refine hfew.mono ?_
    rintro e w2 ⟨rfl, m2⟩
    go_wp2_with fail
    refine (awake_c _).mono ?_
    rintro e w3 ⟨rfl, m3⟩
    go_wp2_with fail
    go_ret
    exact ⟨rfl, ((M1.out.trans m2).trans m3).low⟩
  | true =>
    rw [hf] at hfew
    clear hf
    by_cases hmid : (9 : Int) < (l.length : Int) ∧ (l.length : Int) ≤ 16
    · obtain ⟨k1, k2⟩ := hmid
      have k3 : (l.length : Int) > 9 := k1
      go_enter Try.func5, Try.ntmps5
      go_upto_region 1 with fail
      rw [← Hw1.out]
      go_wp2_with fail
      refine hfew.mono ?_
      rintro e w2 ⟨rfl, m2⟩
      obtain ⟨y0, y1, y2⟩ := At.three (HX1.out.mod m2 id)
      clear x0 x1 x2 hfew
      go_wp2_with fail
      refine (awake_c _).mono ?_
      rintro e w3 ⟨rfl, m3⟩
      go_wp2_with fail
      go_ret
      exact ⟨rfl, ((M1.out.trans m2).trans m3).low⟩
    · have hb := hid (fun (w2 : World) (m : Mod (fun _ => False) w1 w2) => trips_c A c l W V w2 (HP1.out.mod0 m))
      have hr := hid (fun (w2 : World) (m : Mod (fun _ => False) w1 w2) => rtrips_c A c l W V w2 (HP1.out.mod0 m))
      rw [rtripsR_eq] at hr
      have hlen := hid (tripsR_len l W V)
      generalize tripsR l W V = tr at hb hr hlen
      generalize checkF l W V = ce at hb hr
      have hmid' : ¬ (9 : Int) < (l.length : Int) ∨ ((9 : Int) < (l.length : Int) ∧ ¬ (l.length : Int) ≤ 16) := by omega
      clear hmid
      go_enter Try.func5, Try.ntmps5
      go_upto_region 1 with fail
      rw [← Hw1.out]
      clear Hw1
      go_wp2_with fail
      refine hfew.mono ?_
      rintro e w2 ⟨rfl, m2⟩
      have hb2 := hb.out w2 m2
      have HX2 := hid (HX1.out.mod m2 id)
      have M2 := hid m2
      clear x0 x1 x2 m2 hfew
      obtain ⟨x0, x1, x2⟩ := At.three HX2.out
      rcases hmid' with q1 | ⟨q1, q2⟩
      all_goals
        go_wp2_with fail
        refine hb2.mono ?_
        rintro e w3 ⟨B3, d3, rfl, hi3, m3⟩
        have HX3 := hid (HX2.out.mod m3 id)
        have HI3 := hid hi3
        have M3 := hid (M2.out.trans m3)
        have hr3 := hr.out w3 M3.out
        clear x0 x1 x2 m3 hb2 hi3
        obtain ⟨x0, x1, x2⟩ := At.three HX3.out
        go_wp2_with fail
        refine hr3.mono ?_
        rintro e w4 ⟨B4, d4, rfl, hi4, m4⟩
        have HI4 := hid hi4
        have HI34 := hid (HI3.out.mod0 m4)
        have M4 := hid (M3.out.trans m4)
        clear x0 x1 x2 hr3 m4 hi4
        go_wp2_with fail
        go_loopw [7] (fun s7 wr => ∃ k : Nat, k ≤ tr.length ∧ s7 = .int .i64 (k : Int) ∧ Hid (Mod (fun _ => False) w4 wr)) (fun s7 _ => tr.length - (intOf s7).toNat)
        case atStart => exact ⟨0, Nat.zero_le _, rfl, hid (Mod.refl _ _)⟩
        case round =>
          obtain ⟨k, hk, rfl, hm⟩ := hrel
          have hl17 := hlen.out.1
          by_cases hlt : k < tr.length
          · obtain ⟨t, ht⟩ := getE hlt
            have htl := hlen.out.2 t (List.mem_of_getElem? ht)
            obtain ⟨g3, A3, c3, rfl, hg3, z3, i3⟩ := (HI34.out.mod0 hm.out).get ht
            obtain ⟨g4, A4, c4, rfl, hg4, z4, i4⟩ := (HI4.out.mod0 hm.out).get ht
            have hsame := same_c A3 A4 c3 c4 t t ‹World›.drew (i3.mod0 (Mod.refl _ _).drew) (i4.mod0 (Mod.refl _ _).drew) (by omega)
            rw [decide_eq_true rfl] at hsame
            have hk1 : (k : Int) < (tr.length : Int) := by omega
            clear htl i3 i4
            go_wp2_with fail
            refine wp_region_still_tail 8 (by kernel_rfl) (by kernel_rfl) ?_
            simp only [List.take_succ_cons, List.take_zero, List.drop_succ_cons, List.drop_zero]
            change wpStill Try.prog _ (World.drew wr) (fun a' => wpList Try.prog _ _ _ a' (World.drew wr)) _ _
            repeat still_step
            refine wpStill_nil ?_
            go_wp2_with fail
            refine hsame.mono ?_
            rintro e w5 ⟨rfl, m5⟩
            go_wp2_with fail
            go_roundw
            case rel => exact ⟨k + 1, by omega, by go_num, hid ((hm.out.drew).trans m5)⟩
            case measure => simp [intOf]; omega
          · obtain rfl : k = tr.length := by omega
            go_wp2_with fail
            refine (awake_c _).mono ?_
            rintro e w5 ⟨rfl, m5⟩
            go_wp2_with fail
            go_ret
            exact ⟨rfl, (((M1.out.trans M4.out).trans hm.out).trans m5).low⟩
end Go.Proofs.Ytdnodloinlijaaa
