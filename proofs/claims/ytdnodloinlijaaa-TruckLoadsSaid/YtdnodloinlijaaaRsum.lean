/- The specification's Sum: its contract. -/
import Derived.Test.YtdnodloinlijaaaSum
namespace Go.Proofs.Ytdnodloinlijaaa
open Go.RowKit
set_option linter.unusedVariables false
set_option linter.unusedSimpArgs false

def aggP (p : Pc) : Value := .agg #[.int .i64 p.w, .int .i64 p.v, .int .i64 p.x]
theorem plus_c (k : Nat) (a b : Pc) (w : World) (hk : k ≤ 1000) (ha : Small k a) (hb : okP b = true) :
    Calls Try.prog 22 #[.agg #[.int .i64 a.w, .int .i64 a.v, .int .i64 a.x], .agg #[.int .i64 b.w, .int .i64 b.v, .int .i64 b.x]] w fun e w' => e = .returned (.agg #[.int .i64 (plusP a b).w, .int .i64 (plusP a b).v, .int .i64 (plusP a b).x]) ∧ Mod (fun _ => False) w w' := by
  obtain ⟨a1, a2, a3⟩ := okP_t hb
  obtain ⟨b1, b2, b3, b4, b5, b6⟩ := ha
  have e0 : IntKind.i64.wrap (a.w + b.w) = a.w + b.w := wrap_ok _ (by omega) (by omega)
  have e1 : IntKind.i64.wrap (a.v + b.v) = a.v + b.v := wrap_ok _ (by omega) (by omega)
  have e2 : IntKind.i64.wrap (a.x + b.x) = a.x + b.x := wrap_ok _ (by omega) (by omega)
  clear a1 a2 a3 b1 b2 b3 b4 b5 b6 hb hk
  go_enter Try.func22, Try.ntmps22
  go_wp2_with fail
  refine bodyPost_ret (v := .agg #[.int .i64 (a.w + b.w), .int .i64 (a.v + b.v), .int .i64 (a.x + b.x)]) (by simp [results, Try.results22, go_sem, e0, e1, e2]) rfl ⟨rfl, ?_⟩
  exact ((Mod.refl _ _).alloc _).alloc _ |>.alloc _

set_option maxHeartbeats 1600000 in
theorem rsum_c (A B : Option Addr) (c d : Nat) (l : List Pc) (at_ : List Int) (w : World) (h : Ps w A l) (h2 : Is w B at_) (hl : at_.length ≤ 40) :
    Calls Try.prog 11 #[.slice A l.length c, .slice B at_.length d] w fun e w' => e = .returned (.tuple #[.agg #[.int .i64 (sumF l at_).1.w, .int .i64 (sumF l at_).1.v, .int .i64 (sumF l at_).1.x], .int .i64 (sumF l at_).2]) ∧ Mod (fun _ => False) w w' := by
  have hm1 : Mod (fun _ => False) w (w.alloc (.cells #[.int .i64 0, .int .i64 0, .int .i64 0] 28)) := (Mod.refl _ _).alloc _
  have hR1 := At.new w (.cells #[.int .i64 0, .int .i64 0, .int .i64 0] 28)
  have hck := rcheck_c A c l 0 0 _ (h.mod0 hm1)
  obtain ⟨w1, hw1⟩ : ∃ w1, w1 = w.alloc (.cells #[.int .i64 0, .int .i64 0, .int .i64 0] 28) := ⟨_, rfl⟩
  rw [← hw1] at hm1 hR1 hck
  have Hw1 := hid hw1
  have Hm1 := hid hm1
  have HR1 := hid hR1
  have H := hid h
  have H2 := hid h2
  clear h h2 hw1 hm1 hR1
  by_cases hc : checkF l 0 0 = 0
  · have e : sumF l at_ = sumGo l (-1) ⟨0, 0, 0⟩ at_ := by rw [sumF, if_neg (by simp [hc])]
    rw [e]
    clear e
    obtain ⟨T, hT⟩ : ∃ T, T = sumGo l (-1) ⟨0, 0, 0⟩ at_ := ⟨_, rfl⟩
    rw [← hT]
    obtain ⟨hl16, _, _, hok⟩ := checkF_ok hc
    rw [hc] at hck
    have HT := hid hT
    have Hok := hid hok
    clear hT hc hok
    go_enter Try.func11, Try.ntmps11
    go_wp2_with fail
    rw [← Hw1.out]
    refine hck.mono ?_
    rintro e w2 ⟨rfl, m2⟩
    have HR2 := hid (HR1.out.mod m2 id)
    have M2 := hid (Hm1.out.trans m2)
    have hn2 : w.heap.size ≠ w2.heap.size := by have := HR2.out.lt; omega
    have hn3 : w.heap.size ≤ w2.heap.size := M2.out.size
    clear hck m2
    go_wp2_with fail
    go_loopw [8] (fun s8 wr => ∃ (k : Nat) (acc : Pc), k ≤ at_.length ∧ s8 = .int .i64 k ∧ Hid (sumGo l (if k = 0 then -1 else at_.getD (k - 1) 0) acc (at_.drop k) = T) ∧ Hid (Small k acc) ∧
        Hid (At wr w2.heap.size (.cells #[.int .i64 acc.w, .int .i64 acc.v, .int .i64 acc.x] 28 (0, 0))) ∧ Hid (At wr w.heap.size (.cells #[.int .i64 0, .int .i64 0, .int .i64 0] 28 (0, 0))) ∧ Hid (Mod (fun _ => False) w wr))
      (fun s8 _ => at_.length - (intOf s8).toNat)
    case atStart => exact ⟨0, ⟨0, 0, 0⟩, by omega, rfl, hid HT.out.symm, hid (by constructor <;> simp), hid (At.new _ _), hid (HR2.out.alloc _), hid (M2.out.alloc _)⟩
    case round =>
      obtain ⟨k, acc, hk, rfl, hgo, hsm, hO, hR, m⟩ := hrel
      have hRl := hR.out.lt
      have hOl := hO.out.lt
      obtain ⟨r0, r1, r2⟩ := At.three hR.out
      have f0 := hR.out.free 0
      have f1 := hR.out.free 1
      have f2 := hR.out.free 2
      by_cases hlt : k < at_.length
      · obtain ⟨i, hi⟩ := getE hlt
        obtain ⟨b, off, rfl, hb, z0⟩ := (H2.out.mod0 m.out).get hi
        have hk1 : (k : Int) < at_.length := by omega
        have hg := hgo.out
        have Hi := hid hi
        rw [drop_at hi, sumGo_cons] at hg
        clear hi
        by_cases hr : i < 0 ∨ (l.length : Int) ≤ i
        · rw [if_pos hr] at hg
          subst hg
          have hr' : i < 0 ∨ (0 ≤ i ∧ (l.length : Int) ≤ i) := by omega
          clear hr
          rcases hr' with q | ⟨q0, q⟩
          · go_wp2_with fail
            have hF := At.put3 hR.out (.int .i64 0) (.int .i64 0) (.int .i64 0)
            obtain ⟨t0, t1, t2⟩ := At.three hF
            refine bodyPost_ret (v := .tuple #[.agg #[.int .i64 0, .int .i64 0, .int .i64 0], .int .i64 9]) (by simp [results, Try.results11, go_sem, *]) rfl ⟨rfl, ?_⟩
            exact ((m.out.put _ (fun h => by simp at h)).put _ (fun h => by simp at h)).put _ (fun h => by simp at h)
          · have q1 : ¬ i < 0 := by omega
            go_wp2_with fail
            have hF := At.put3 hR.out (.int .i64 0) (.int .i64 0) (.int .i64 0)
            obtain ⟨t0, t1, t2⟩ := At.three hF
            refine bodyPost_ret (v := .tuple #[.agg #[.int .i64 0, .int .i64 0, .int .i64 0], .int .i64 9]) (by simp [results, Try.results11, go_sem, *]) rfl ⟨rfl, ?_⟩
            exact ((m.out.put _ (fun h => by simp at h)).put _ (fun h => by simp at h)).put _ (fun h => by simp at h)
        · rw [if_neg hr] at hg
          have q1 : ¬ i < 0 := by omega
          have q2 : ¬ (l.length : Int) ≤ i := by omega
          obtain ⟨j, rfl⟩ := Int.eq_ofNat_of_zero_le (show 0 ≤ i by omega)
          have hj : j < l.length := by omega
          have hj1 : (j : Int) < l.length := by omega
          obtain ⟨p, hp⟩ := getE hj
          have hpe : l.getD (j : Int).toNat default = p := by rw [Int.toNat_natCast, List.getD_eq_getElem?_getD, hp]; rfl
          rw [hpe] at hg
          have Hokp := hid (all_get Hok.out hp)
          obtain ⟨b', off', rfl, hb', _⟩ := H.out.get hp
          have Hp := hid hp
          have Hs' := hid (hsm.out.step Hokp.out)
          have hRd := hid (hR.out.drew)
          have hOd := hid (hO.out.drew)
          have Md := hid (m.out.drew)
          have x := H.out.cells m.out hp
          obtain ⟨x0, x1, x2⟩ := x
          obtain ⟨o0, o1, o2⟩ := At.three hO.out
          have Hplus := hid (plus_c k acc p wr.drew.drew (by omega) hsm.out Hokp.out)
          have Hplus1 := hid (plus_c k acc p wr.drew (by omega) hsm.out Hokp.out)
          clear hp hpe hr
          cases k with
          | zero =>
            have hg2 := hg
            rw [if_pos rfl, if_neg (by omega)] at hg2
            have Hg := hid hg2
            clear hg hg2
            simp only [Nat.add_zero, Int.natCast_zero] at z0 hk1
            go_wp2_with fail
            go_quiet (fail)
            go_wp2_with fail
            obtain ⟨w3, hw3⟩ : ∃ w3, w3 = wr.drewN nq := ⟨_, rfl⟩
            rw [← hw3]
            have HO3 := hid (show At w3 w2.heap.size (.cells #[.int .i64 acc.w, .int .i64 acc.v, .int .i64 acc.x] 28 (0, 0)) from by rw [hw3]; exact hO.out.drewN nq)
            have HR3 := hid (show At w3 w.heap.size (.cells #[.int .i64 0, .int .i64 0, .int .i64 0] 28 (0, 0)) from by rw [hw3]; exact hR.out.drewN nq)
            have M3 := hid (show Mod (fun _ => False) w w3 from by rw [hw3]; exact m.out.drewN nq)
            have z3 : w3.cell? ⟨b, off, none⟩ = some (.int .i64 (j : Int)) := by rw [hw3]; exact z0
            clear hw3 z0 x0 x1 x2 o0 o1 o2 r0 r1 r2 f0 f1 f2 hRl hOl hb hb'
            obtain ⟨x0, x1, x2⟩ := H.out.cells M3.out Hp.out
            obtain ⟨o0, o1, o2⟩ := At.three HO3.out
            refine wp_region_still_tail 8 (by kernel_rfl) (by kernel_rfl) ?_
            simp only [List.take_succ_cons, List.take_zero, List.drop_succ_cons, List.drop_zero]
            change wpStill Try.prog _ (World.drew w3) (fun a' => wpList Try.prog _ _ _ a' (World.drew w3)) _ _
            repeat still_step
            refine wpStill_nil ?_
            go_wp2_with fail
            refine (plus_c 0 acc p w3.drew (by omega) hsm.out Hokp.out).mono ?_
            rintro e w4 ⟨rfl, m4⟩
            have HO4 := hid ((HO3.out.drew).mod m4 id)
            have HR4 := hid ((HR3.out.drew).mod m4 id)
            have M4 := hid ((M3.out.drew).trans m4)
            have g0 := HO4.out.free 0
            have g1 := HO4.out.free 1
            have g2 := HO4.out.free 2
            have gl := HO4.out.lt
            obtain ⟨y0, y1, y2⟩ := At.three HO4.out
            clear x0 x1 x2 o0 o1 o2 z3 m4
            go_wp2_with fail
            go_roundw
            case rel =>
              refine ⟨0 + 1, plusP acc p, by omega, by go_num, ?_, Hs', hid (At.put3 HO4.out _ _ _), hid (At.other (At.other (At.other HR4.out _ _ hn2) _ _ hn2) _ _ hn2), hid (((M4.out.put _ (fun h => by simp at h; omega)).put _ (fun h => by simp at h; omega)).put _ (fun h => by simp at h; omega))⟩
              have e : at_.getD (0 + 1 - 1) 0 = (j : Int) := by
                rw [Nat.add_sub_cancel, List.getD_eq_getElem?_getD, Hi.out]
                rfl
              rw [if_neg (by omega), e]
              exact Hg
            case measure => simp [intOf]; omega
          | succ k =>
            have hg2 := hg
            have hk0 : at_[k]? = some (at_.getD k 0) := by
              rw [List.getD_eq_getElem?_getD]
              obtain ⟨y, hy⟩ := getE (show k < at_.length by omega)
              rw [hy]
              rfl
            obtain ⟨b1, off1, he, _, z1⟩ := (H2.out.mod0 m.out).get hk0
            injection he with he
            injection he with he1 he2 he3
            subst he1 he2
            rw [if_neg (show ¬ (k + 1 = 0) by omega), Nat.add_sub_cancel] at hg2
            generalize at_.getD k 0 = i0 at z1 hg2
            have hkp : (0 : Int) < (k : Int) + 1 := by omega
            have hwk : IntKind.i64.wrap (k : Int) = (k : Int) := wrap_ok _ (by omega) (by omega)
            by_cases hla : (j : Int) ≤ i0
            · rw [if_pos hla] at hg2
              subst hg2
              clear hg hk0
              go_wp2_with fail
              go_quiet (fail)
              go_wp2_with fail
              have hF := At.put3 hR.out (.int .i64 0) (.int .i64 0) (.int .i64 0)
              obtain ⟨t0, t1, t2⟩ := At.three hF
              refine bodyPost_ret (v := .tuple #[.agg #[.int .i64 0, .int .i64 0, .int .i64 0], .int .i64 11]) (by simp [results, Try.results11, go_sem, *]) rfl ⟨rfl, ?_⟩
              exact (((m.out.drewN nq).put _ (fun h => by simp at h)).put _ (fun h => by simp at h)).put _ (fun h => by simp at h)
            · rw [if_neg hla] at hg2
              have Hg := hid hg2
              clear hg hg2 hk0
              go_wp2_with fail
              go_quiet (fail)
              go_wp2_with fail
              obtain ⟨w3, hw3⟩ : ∃ w3, w3 = wr.drewN nq := ⟨_, rfl⟩
              rw [← hw3]
              have HO3 := hid (show At w3 w2.heap.size (.cells #[.int .i64 acc.w, .int .i64 acc.v, .int .i64 acc.x] 28 (0, 0)) from by rw [hw3]; exact hO.out.drewN nq)
              have HR3 := hid (show At w3 w.heap.size (.cells #[.int .i64 0, .int .i64 0, .int .i64 0] 28 (0, 0)) from by rw [hw3]; exact hR.out.drewN nq)
              have M3 := hid (show Mod (fun _ => False) w w3 from by rw [hw3]; exact m.out.drewN nq)
              have z3 : w3.cell? ⟨b, off + (k + 1), none⟩ = some (.int .i64 (j : Int)) := by rw [hw3]; exact z0
              clear hw3 z0 x0 x1 x2 o0 o1 o2 r0 r1 r2 f0 f1 f2 hRl hOl hb hb'
              obtain ⟨x0, x1, x2⟩ := H.out.cells M3.out Hp.out
              obtain ⟨o0, o1, o2⟩ := At.three HO3.out
              obtain ⟨K, hK⟩ : ∃ K, K = k + 1 := ⟨_, rfl⟩
              have hKi : (k : Int) + 1 = (K : Int) := by omega
              have hKl : (K : Int) < at_.length := by omega
              rw [← hK] at z3
              rw [hKi]
              have HK := hid hK
              clear hK hKi
              refine wp_region_still_tail 8 (by kernel_rfl) (by kernel_rfl) ?_
              simp only [List.take_succ_cons, List.take_zero, List.drop_succ_cons, List.drop_zero]
              change wpStill Try.prog _ (World.drew w3) (fun a' => wpList Try.prog _ _ _ a' (World.drew w3)) _ _
              repeat still_step
              refine wpStill_nil ?_
              go_wp2_with fail
              refine (plus_c (k + 1) acc p w3.drew (by omega) hsm.out Hokp.out).mono ?_
              rintro e w4 ⟨rfl, m4⟩
              have HO4 := hid ((HO3.out.drew).mod m4 id)
              have HR4 := hid ((HR3.out.drew).mod m4 id)
              have M4 := hid ((M3.out.drew).trans m4)
              have g0 := HO4.out.free 0
              have g1 := HO4.out.free 1
              have g2 := HO4.out.free 2
              have gl := HO4.out.lt
              obtain ⟨y0, y1, y2⟩ := At.three HO4.out
              clear x0 x1 x2 o0 o1 o2 z3 m4
              go_wp2_with fail
              go_roundw
              case rel =>
                refine ⟨k + 1 + 1, plusP acc p, by omega, by have hK := HK.out; subst hK; go_num, ?_, Hs', hid (At.put3 HO4.out _ _ _), hid (At.other (At.other (At.other HR4.out _ _ hn2) _ _ hn2) _ _ hn2), hid (((M4.out.put _ (fun h => by simp at h; omega)).put _ (fun h => by simp at h; omega)).put _ (fun h => by simp at h; omega))⟩
                have e : at_.getD (k + 1 + 1 - 1) 0 = (j : Int) := by
                  rw [Nat.add_sub_cancel, List.getD_eq_getElem?_getD, Hi.out]
                  rfl
                rw [if_neg (by omega), e]
                exact Hg
              case measure => have hK := HK.out; subst hK; simp [intOf]; omega
      · obtain rfl : k = at_.length := by omega
        have hg := hgo.out
        rw [List.drop_length, sumGo_nil] at hg
        subst hg
        obtain ⟨o0, o1, o2⟩ := At.three hO.out
        go_wp2_with fail
        have hF := At.put3 hR.out (.int .i64 acc.w) (.int .i64 acc.v) (.int .i64 acc.x)
        obtain ⟨t0, t1, t2⟩ := At.three hF
        refine bodyPost_ret (v := .tuple #[.agg #[.int .i64 acc.w, .int .i64 acc.v, .int .i64 acc.x], .int .i64 0]) (by simp [results, Try.results11, go_sem, *]) rfl ⟨rfl, ?_⟩
        exact ((m.out.put _ (fun h => by simp at h)).put _ (fun h => by simp at h)).put _ (fun h => by simp at h)
  · have e : sumF l at_ = (⟨0, 0, 0⟩, checkF l 0 0) := by rw [sumF, if_pos hc]
    rw [e]
    clear e
    generalize checkF l 0 0 = E at hck hc
    have hRl := HR1.out.lt
    go_enter Try.func11, Try.ntmps11
    go_wp2_with fail
    rw [← Hw1.out]
    refine hck.mono ?_
    rintro e w2 ⟨rfl, m2⟩
    have HR2 := HR1.out.mod m2 id
    obtain ⟨r0, r1, r2⟩ := At.three HR2
    have f0 := HR2.free 0
    have f1 := HR2.free 1
    have f2 := HR2.free 2
    have hRl2 := HR2.lt
    clear hck
    go_wp2_with fail
    have hF := At.put3 HR2 (.int .i64 0) (.int .i64 0) (.int .i64 0)
    obtain ⟨t0, t1, t2⟩ := At.three hF
    refine bodyPost_ret (v := .tuple #[.agg #[.int .i64 0, .int .i64 0, .int .i64 0], .int .i64 E]) (by simp [results, Try.results11, go_sem, *]) rfl ⟨rfl, ?_⟩
    exact (((Hm1.out.trans m2).put _ (fun h => by simp at h)).put _ (fun h => by simp at h)).put _ (fun h => by simp at h)
end Go.Proofs.Ytdnodloinlijaaa
