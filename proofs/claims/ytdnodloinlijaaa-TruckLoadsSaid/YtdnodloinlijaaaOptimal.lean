/- TruckOptimal: the walk. -/
import Derived.Test.YtdnodloinlijaaaSums
import Derived.Test.YtdnodloinlijaaaBef
namespace Go.Proofs.Ytdnodloinlijaaa
open Go.RowKit
set_option linter.unusedVariables false
set_option linter.unusedSimpArgs false

theorem sm_len (l : List Pc) : ∀ (S : List Int) (last : Int) (s : Pc), sm l last S = some s → last + 1 ≤ l.length → (S.length : Int) + last + 1 ≤ l.length
  | [], last, s, _, h => by simpa using h
  | j :: r, last, s, hs, h => by
    rw [sm_cons] at hs
    split at hs
    · cases hs
    split at hs
    · cases hs
    obtain ⟨s', hs', _⟩ := Option.map_eq_some_iff.1 hs
    have := sm_len l r j s' hs' (by omega)
    simp only [List.length_cons]
    omega
theorem best_len (l : List Pc) (W V : Int) : (bestR l W V).length ≤ 16 := by
  unfold bestR
  split
  · rename_i h
    obtain ⟨h16, hW, hV, hok⟩ := checkF_ok h
    obtain ⟨s, h1, _⟩ := best_spec l W V hok hW.1 hV.1
    have := sm_len l _ _ s h1 (by omega)
    omega
  · simp
/-- Best with what it says. -/
theorem bestI_c (A : Option Addr) (c : Nat) (l : List Pc) (W V : Int) (w : World) (h : Ps w A l) :
    Calls Try.prog 15 #[.slice A l.length c, .int .i64 W, .int .i64 V] w fun e w' => ∃ B d, e = .returned (.tuple #[.slice B (bestR l W V).length d, .int .i64 (checkF l W V)]) ∧ Is w' B (bestR l W V) ∧ Mod (fun _ => False) w w' :=
  (best_c A c l W V w h).mono fun e w' ⟨B, d, h1, h2, h3⟩ => ⟨B, d, h1, Is.own h2, h3⟩

set_option maxHeartbeats 3200000 in
theorem truckOptimal_walk (A : Option Addr) (l : List Pc) (c : Nat) (W V : Int) (B : Option Addr) (at_ : List Int) (d : Nat) (w : World) (h : Ps w A l) (h2 : Is w B at_) :
    Calls Try.prog 6 #[.agg #[.slice A l.length c, .int .i64 W, .int .i64 V], .slice B at_.length d] w fun e w' => e = .returned (.bool true) ∧ Below w.heap.size w w' := by
  obtain ⟨w1, hw1⟩ : ∃ w1 : World, w1 = w.alloc (.cells #[.slice A l.length c, .int .i64 W, .int .i64 V] 24) := ⟨_, rfl⟩
  have m1 : Mod (fun _ => False) w w1 := by rw [hw1]; exact (Mod.refl _ _).alloc _
  have hX1 : At w1 w.heap.size (.cells #[.slice A l.length c, .int .i64 W, .int .i64 V] 24 (0, 0)) := by rw [hw1]; exact At.new _ _
  have HP1 := hid (h.mod0 m1)
  have HI1 := hid (h2.mod0 m1)
  have M1 := hid m1
  have HX1 := hid hX1
  have Hw1 := hid hw1
  obtain ⟨x0, x1, x2⟩ := At.three hX1
  clear h h2 hw1 m1 hX1
  by_cases h40 : (16 : Int) < (l.length : Int) ∨ (¬ (16 : Int) < (l.length : Int) ∧ (40 : Int) < (at_.length : Int))
  · go_enter Try.func6, Try.ntmps6
    go_upto_region 1 with fail
    rw [← Hw1.out]
    rcases h40 with h40 | ⟨h40, h41⟩
    all_goals
      go_wp2_with fail
      refine (awake_c _).mono ?_
      rintro e w2 ⟨rfl, m2⟩
      go_wp2_with fail
      go_ret
      exact ⟨rfl, (M1.out.trans m2).low⟩
  · have h41 : ¬ (16 : Int) < (l.length : Int) := fun q => h40 (.inl q)
    have h42 : ¬ (40 : Int) < (at_.length : Int) := fun q => h40 (.inr ⟨h41, q⟩)
    have h43 := hid (show at_.length ≤ 40 by omega)
    have hb := bestI_c A c l W V w1 HP1.out
    have hck := hid (fun (w2 : World) (m : Mod (fun _ => False) w1 w2) => check_c A c l W V w2 (HP1.out.mod0 m))
    have hlen := hid (best_len l W V)
    clear h40
    by_cases hc : checkF l W V = 0
    · have hl := hid (best_law hc)
      rw [hc] at hb
      generalize bestR l W V = bs at hb hl hlen
      obtain ⟨s, hs1, hs2, hs3, hs4⟩ := hl.out
      have Hs1 := hid hs1
      have Hs4 := hid hs4
      obtain ⟨sw, sv, sx⟩ := s
      have g1 : ¬ W < sw := by simp only at hs2; omega
      have g2 : ¬ V < sv := by simp only at hs3; omega
      clear hs1 hs2 hs3 hs4 hl hc hck
      go_enter Try.func6, Try.ntmps6
      go_upto_region 1 with fail
      rw [← Hw1.out]
      go_wp2_with fail
      refine hb.mono ?_
      rintro e w2 ⟨B2, d2, rfl, hi2, m2⟩
      have hsum := sum_c A B2 c d2 l bs w2 (HP1.out.mod0 m2) hi2 (by have := hlen.out; omega)
      rw [Hs1.out] at hsum
      simp only at hsum
      have HX2 := hid (HX1.out.mod m2 id)
      have HI2 := hid hi2
      have M2 := hid m2
      clear x0 x1 x2 hb hi2 m2
      obtain ⟨x0, x1, x2⟩ := At.three HX2.out
      go_wp2_with fail
      refine hsum.mono ?_
      rintro e w3 ⟨rfl, m3⟩
      obtain ⟨w4, hw4⟩ : ∃ w4 : World, w4 = w3.alloc (.cells #[.int .i64 sw, .int .i64 sv, .int .i64 sx] 28) := ⟨_, rfl⟩
      have m24 := hid (show Mod (fun _ => False) w2 w4 from by rw [hw4]; exact m3.alloc _)
      have HS4 := hid (show At w4 w3.heap.size (.cells #[.int .i64 sw, .int .i64 sv, .int .i64 sx] 28 (0, 0)) from by rw [hw4]; exact At.new _ _)
      have HX4 := hid (HX2.out.mod m24.out id)
      have HI4 := hid (HI2.out.mod0 m24.out)
      have M4 := hid (M2.out.trans m24.out)
      have Hw4 := hid hw4
      clear x0 x1 x2 hsum hw4 m3
      obtain ⟨x0, x1, x2⟩ := At.three HX4.out
      obtain ⟨s0, s1, s2⟩ := At.three HS4.out
      go_upto_region 7 with fail
      rw [← Hw4.out]
      clear Hw4
      have hsum := sum_c A B c d l at_ w4 (HP1.out.mod0 M4.out) (HI1.out.mod0 M4.out) h43.out
      have hst := Hs4.out at_
      generalize hr : sumF l at_ = r at hsum hst
      obtain ⟨⟨tw, tv, tx⟩, te⟩ := r
      simp only at hsum
      have Hst := hid hst
      clear hr hst
      go_wp2_with fail
      refine hsum.mono ?_
      rintro e w5 ⟨rfl, m5⟩
      obtain ⟨w6, hw6⟩ : ∃ w6 : World, w6 = w5.alloc (.cells #[.int .i64 tw, .int .i64 tv, .int .i64 tx] 28) := ⟨_, rfl⟩
      have m46 := hid (show Mod (fun _ => False) w4 w6 from by rw [hw6]; exact m5.alloc _)
      have HT6 := hid (show At w6 w5.heap.size (.cells #[.int .i64 tw, .int .i64 tv, .int .i64 tx] 28 (0, 0)) from by rw [hw6]; exact At.new _ _)
      have HX6 := hid (HX4.out.mod m46.out id)
      have HS6 := hid (HS4.out.mod m46.out id)
      have HI6 := hid (HI4.out.mod0 m46.out)
      have M6 := hid (M4.out.trans m46.out)
      have Hw6 := hid hw6
      clear x0 x1 x2 s0 s1 s2 hsum hw6 m5
      obtain ⟨x0, x1, x2⟩ := At.three HX6.out
      obtain ⟨s0, s1, s2⟩ := At.three HS6.out
      obtain ⟨t0, t1, t2⟩ := At.three HT6.out
      go_upto_region 10 with fail
      rw [← Hw6.out]
      clear Hw6
      by_cases hbad : (¬ te = 0) ∨ (te = 0 ∧ W < tw) ∨ (te = 0 ∧ ¬ W < tw ∧ V < tv)
      · rcases hbad with q | ⟨rfl, q⟩ | ⟨rfl, q1, q2⟩
        all_goals
          go_wp2_with fail
          refine (awake_c _).mono ?_
          rintro e w7 ⟨rfl, m7⟩
          go_wp2_with fail
          go_ret
          exact ⟨rfl, ((M1.out.trans M6.out).trans m7).low⟩
      · have q0 : te = 0 := Classical.byContradiction fun q => hbad (.inl q)
        subst q0
        have q1 : ¬ W < tw := fun q => hbad (.inr (.inl ⟨rfl, q⟩))
        have q2 : ¬ V < tv := fun q => hbad (.inr (.inr ⟨rfl, q1, q⟩))
        obtain ⟨q3, q4⟩ := Hst.out ⟨tw, tv, tx⟩ rfl (by simp only; omega) (by simp only; omega)
        simp only at q3 q4
        clear hbad
        by_cases e : tx = sx
        · subst e
          have hbf := before_c B B2 d d2 at_ bs w6 (HI1.out.mod0 M6.out) HI6.out (by have := h43.out; omega)
          rw [q4 rfl] at hbf
          clear q3 q4
          go_wp2_with fail
          refine hbf.mono ?_
          rintro e w7 ⟨rfl, m7⟩
          go_wp2_with fail
          refine (awake_c _).mono ?_
          rintro e w8 ⟨rfl, m8⟩
          go_wp2_with fail
          go_ret
          exact ⟨rfl, (((M1.out.trans M6.out).trans m7).trans m8).low⟩
        · have e2 : (tx == sx) = false := by rw [beq_eq_false_iff_ne]; exact e
          have e3 : (tx != sx) = true := by rw [bne, e2]; rfl
          clear q4
          go_wp2_with fail
          refine (awake_c _).mono ?_
          rintro e w8 ⟨rfl, m8⟩
          go_wp2_with fail
          go_ret
          exact ⟨rfl, ((M1.out.trans M6.out).trans m8).low⟩
    · have hbr : bestR l W V = [] := by rw [bestR, if_neg hc]
      rw [hbr] at hb
      simp only [List.length_nil] at hb
      generalize checkF l W V = ce at hb hc hck
      clear hlen hbr
      go_enter Try.func6, Try.ntmps6
      go_upto_region 1 with fail
      rw [← Hw1.out]
      go_wp2_with fail
      refine hb.mono ?_
      rintro e w2 ⟨B2, d2, rfl, _, m2⟩
      have M2 := hid m2
      have HX2 := hid (HX1.out.mod m2 id)
      have hck2 := hck.out w2 m2
      clear x0 x1 x2 hb m2 hck
      obtain ⟨x0, x1, x2⟩ := At.three HX2.out
      go_wp2_with fail
      refine hck2.mono ?_
      rintro e w3 ⟨rfl, m3⟩
      go_wp2_with fail
      refine (awake_c _).mono ?_
      rintro e w4 ⟨rfl, m4⟩
      go_wp2_with fail
      go_ret
      exact ⟨rfl, (((M1.out.trans M2.out).trans m3).trans m4).low⟩
end Go.Proofs.Ytdnodloinlijaaa
