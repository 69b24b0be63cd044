/- Sum: its contract. -/
import Derived.Test.YtdnodloinlijaaaFn
namespace Go.Proofs.Ytdnodloinlijaaa
open Go.RowKit
set_option linter.unusedVariables false
set_option linter.unusedSimpArgs false

theorem wrap_ok (x : Int) (h0 : -9223372036854775808 ≤ x) (h1 : x ≤ 9223372036854775807) : IntKind.i64.wrap x = x := by
  have h2 : (x + 9223372036854775808) % 18446744073709551616 = x + 9223372036854775808 := Int.emod_eq_of_lt (by omega) (by omega)
  simp [IntKind.wrap, IntKind.bits, IntKind.signed]
  omega
theorem okP_t {p : Pc} (h : okP p = true) : (0 ≤ p.w ∧ p.w ≤ 1000000000000) ∧ (0 ≤ p.v ∧ p.v ≤ 1000000000000) ∧ (0 ≤ p.x ∧ p.x ≤ 1000000000000) := by
  simp [okP] at h
  exact ⟨rng_t h.1, rng_t h.2.1, rng_t h.2.2⟩
theorem checkF_ok {l : List Pc} {W V : Int} (h : checkF l W V = 0) : l.length ≤ 16 ∧ (0 ≤ W ∧ W ≤ 1000000000000) ∧ (0 ≤ V ∧ V ≤ 1000000000000) ∧ l.all okP = true := by
  unfold checkF at h
  split at h
  · exact absurd h (by decide)
  · split at h
    · rename_i h1 h2
      simp only [Bool.and_eq_true] at h2
      split at h
      · exact ⟨by omega, rng_t h2.1, rng_t h2.2, by assumption⟩
      · exact absurd h (by decide)
    · exact absurd h (by decide)
/-- A sum of k parcels is in bounds. -/
structure Small (k : Nat) (a : Pc) : Prop where
  w0 : 0 ≤ a.w
  w1 : a.w ≤ k * 1000000000000
  v0 : 0 ≤ a.v
  v1 : a.v ≤ k * 1000000000000
  x0 : 0 ≤ a.x
  x1 : a.x ≤ k * 1000000000000
theorem Small.step {k : Nat} {a p : Pc} (h : Small k a) (hp : okP p = true) : Small (k + 1) (plusP a p) := by
  obtain ⟨a1, a2, a3⟩ := okP_t hp
  obtain ⟨b1, b2, b3, b4, b5, b6⟩ := h
  constructor <;> simp only [plusP] <;> omega
theorem Mod.here {R : Nat} {a b : World} (h : Mod (fun k => k = R) a b) (i : Nat) (v : Value) : Mod (fun k => k = R) a (b.setCell ⟨R, i, none⟩ v) := h.put v (fun _ => rfl)

/-- A store of three ints into a block of three. -/
theorem At.put3 {w : World} {b : Nat} {t : TypeId} {u0 u1 u2 : Value} (h : At w b (.cells #[u0, u1, u2] t (0, 0))) (v0 v1 v2 : Value) :
    At (((w.setCell ⟨b, 0, none⟩ v0).setCell ⟨b, 1, none⟩ v1).setCell ⟨b, 2, none⟩ v2) b (.cells #[v0, v1, v2] t (0, 0)) := ((h.put 0 v0).put 1 v1).put 2 v2

theorem sumGo_nil (l : List Pc) (last : Int) (acc : Pc) : sumGo l last acc [] = (acc, 0) := rfl
theorem sumGo_cons (l : List Pc) (last : Int) (acc : Pc) (i : Int) (r : List Int) : sumGo l last acc (i :: r) = if i < 0 ∨ (l.length : Int) ≤ i then (⟨0, 0, 0⟩, 9) else if i ≤ last then (⟨0, 0, 0⟩, 11) else sumGo l i (plusP acc (l.getD i.toNat default)) r := rfl
theorem drop_at {α : Type} {l : List α} {k : Nat} {y : α} (h : l[k]? = some y) : l.drop k = y :: l.drop (k + 1) := by
  obtain ⟨hk, e⟩ := List.getElem?_eq_some_iff.1 h
  rw [List.drop_eq_getElem_cons hk, e]

/-- The parcels' cells, in a later world. -/
theorem Ps.cells {w w' : World} {b off : Nat} {l : List Pc} (h : Ps w (some ⟨b, off, none⟩) l) (m : Mod (fun _ => False) w w') {i : Nat} {p : Pc} (hi : l[i]? = some p) :
    w'.cell? ⟨b, off + i * 3, none⟩ = some (.int .i64 p.w) ∧ w'.cell? ⟨b, off + i * 3 + 1, none⟩ = some (.int .i64 p.v) ∧ w'.cell? ⟨b, off + i * 3 + 2, none⟩ = some (.int .i64 p.x) := by
  obtain ⟨b', off', e, _, h0, h1, h2⟩ := h.get hi
  injection e with e
  injection e with e1 e2 e3
  subst e1 e2
  exact ⟨m.keep0 h0, m.keep0 h1, m.keep0 h2⟩

set_option maxHeartbeats 1600000 in
theorem sum_c (A B : Option Addr) (c d : Nat) (l : List Pc) (at_ : List Int) (w : World) (h : Ps w A l) (h2 : Is w B at_) (hl : at_.length ≤ 40) :
    Calls Try.prog 10 #[.slice A l.length c, .slice B at_.length d] w fun e w' => e = .returned (.tuple #[.agg #[.int .i64 (sumF l at_).1.w, .int .i64 (sumF l at_).1.v, .int .i64 (sumF l at_).1.x], .int .i64 (sumF l at_).2]) ∧ Mod (fun _ => False) w w' := by
  have hm1 : Mod (fun _ => False) w (w.alloc (.cells #[.int .i64 0, .int .i64 0, .int .i64 0] 28)) := (Mod.refl _ _).alloc _
  have hR1 := At.new w (.cells #[.int .i64 0, .int .i64 0, .int .i64 0] 28)
  have hck := check_c A c l 0 0 _ (h.mod0 hm1)
  obtain ⟨w1, hw1⟩ : ∃ w1, w1 = w.alloc (.cells #[.int .i64 0, .int .i64 0, .int .i64 0] 28) := ⟨_, rfl⟩
  rw [← hw1] at hm1 hR1 hck
  have Hw1 := hid hw1
  have Hm1 := hid hm1
  have HR1 := hid hR1
  have H := hid h
  have H2 := hid h2
  clear h h2 hw1 hm1 hR1
  by_cases hc : checkF l 0 0 = 0
  · have e : sumF l at_ = sumGo l (-1) ⟨0, 0, 0⟩ at_ := by rw [sumF, if_neg (by simp [hc])]
    rw [e]
    clear e
    obtain ⟨T, hT⟩ : ∃ T, T = sumGo l (-1) ⟨0, 0, 0⟩ at_ := ⟨_, rfl⟩
    rw [← hT]
    obtain ⟨hl16, _, _, hok⟩ := checkF_ok hc
    rw [hc] at hck
    have HT := hid hT
    have Hok := hid hok
    clear hT hc hok
    go_enter Try.func10, Try.ntmps10
    go_wp2_with fail
    rw [← Hw1.out]
    refine hck.mono ?_
    rintro e w2 ⟨rfl, m2⟩
    have HR2 := hid (HR1.out.mod m2 id)
    have M2 := hid (Hm1.out.trans m2)
    clear hck m2
    go_wp2_with fail
    go_loopw [8, 19] (fun s8 s19 wr => ∃ (k : Nat) (last : Int) (acc : Pc), k ≤ at_.length ∧ s8 = .int .i64 last ∧ s19 = .int .i64 k ∧ Hid (sumGo l last acc (at_.drop k) = T) ∧ Hid (Small k acc) ∧
        Hid (At wr w2.heap.size (.cells #[.int .i64 acc.w, .int .i64 acc.v, .int .i64 acc.x] 28 (0, 0))) ∧ Hid (At wr w.heap.size (.cells #[.int .i64 0, .int .i64 0, .int .i64 0] 28 (0, 0))) ∧ Hid (Mod (fun _ => False) w wr))
      (fun _ s19 _ => at_.length - (intOf s19).toNat)
    case atStart => exact ⟨0, -1, ⟨0, 0, 0⟩, by omega, rfl, rfl, hid HT.out.symm, hid (by constructor <;> simp), hid (At.new _ _), hid (HR2.out.alloc _), hid (M2.out.alloc _)⟩
    case round =>
      obtain ⟨k, last, acc, hk, rfl, rfl, hgo, hsm, hO, hR, m⟩ := hrel
      have hRl := hR.out.lt
      have hOl := hO.out.lt
      obtain ⟨r0, r1, r2⟩ := At.three hR.out
      have f0 := hR.out.free 0
      have f1 := hR.out.free 1
      have f2 := hR.out.free 2
      by_cases hlt : k < at_.length
      · obtain ⟨i, hi⟩ := getE hlt
        obtain ⟨b, off, rfl, hb, z0⟩ := (H2.out.mod0 m.out).get hi
        have hk1 : (k : Int) < at_.length := by omega
        have hg := hgo.out
        rw [drop_at hi, sumGo_cons] at hg
        clear hi
        by_cases hr : i < 0 ∨ (l.length : Int) ≤ i
        · rw [if_pos hr] at hg
          subst hg
          have hr' : i < 0 ∨ (0 ≤ i ∧ (l.length : Int) ≤ i) := by omega
          clear hr
          rcases hr' with q | ⟨q0, q⟩
          · go_wp2_with fail
            have hF := At.put3 hR.out (.int .i64 0) (.int .i64 0) (.int .i64 0)
            obtain ⟨t0, t1, t2⟩ := At.three hF
            refine bodyPost_ret (v := .tuple #[.agg #[.int .i64 0, .int .i64 0, .int .i64 0], .int .i64 9]) (by simp [results, Try.results10, go_sem, *]) rfl ⟨rfl, ?_⟩
            exact ((m.out.put _ (fun h => by simp at h)).put _ (fun h => by simp at h)).put _ (fun h => by simp at h)
          · have q1 : ¬ i < 0 := by omega
            go_wp2_with fail
            have hF := At.put3 hR.out (.int .i64 0) (.int .i64 0) (.int .i64 0)
            obtain ⟨t0, t1, t2⟩ := At.three hF
            refine bodyPost_ret (v := .tuple #[.agg #[.int .i64 0, .int .i64 0, .int .i64 0], .int .i64 9]) (by simp [results, Try.results10, go_sem, *]) rfl ⟨rfl, ?_⟩
            exact ((m.out.put _ (fun h => by simp at h)).put _ (fun h => by simp at h)).put _ (fun h => by simp at h)
        · rw [if_neg hr] at hg
          have q1 : ¬ i < 0 := by omega
          have q2 : ¬ (l.length : Int) ≤ i := by omega
          by_cases hla : i ≤ last
          · rw [if_pos hla] at hg
            subst hg
            clear hr
            go_wp2_with fail
            have hF := At.put3 hR.out (.int .i64 0) (.int .i64 0) (.int .i64 0)
            obtain ⟨t0, t1, t2⟩ := At.three hF
            refine bodyPost_ret (v := .tuple #[.agg #[.int .i64 0, .int .i64 0, .int .i64 0], .int .i64 11]) (by simp [results, Try.results10, go_sem, *]) rfl ⟨rfl, ?_⟩
            exact ((m.out.put _ (fun h => by simp at h)).put _ (fun h => by simp at h)).put _ (fun h => by simp at h)
          · rw [if_neg hla] at hg
            obtain ⟨j, rfl⟩ := Int.eq_ofNat_of_zero_le (show 0 ≤ i by omega)
            have hj : j < l.length := by omega
            have hj1 : (j : Int) < l.length := by omega
            obtain ⟨p, hp⟩ := getE hj
            have hpe : l.getD (j : Int).toNat default = p := by rw [Int.toNat_natCast, List.getD_eq_getElem?_getD, hp]; rfl
            rw [hpe] at hg
            have hokp := all_get Hok.out hp
            have Hg := hid hg
            obtain ⟨b', off', rfl, _, _⟩ := H.out.get hp
            obtain ⟨x0, _, _⟩ := H.out.cells m.out hp
            obtain ⟨a1, a2, a3⟩ := okP_t hokp
            obtain ⟨b1, b2, b3, b4, b5, b6⟩ := hsm.out
            have e0 : IntKind.i64.wrap (acc.w + p.w) = acc.w + p.w := wrap_ok _ (by omega) (by omega)
            have e1 : IntKind.i64.wrap (acc.v + p.v) = acc.v + p.v := wrap_ok _ (by omega) (by omega)
            have e2 : IntKind.i64.wrap (acc.x + p.x) = acc.x + p.x := wrap_ok _ (by omega) (by omega)
            have E1 := hid e1
            have E2 := hid e2
            have Hp := hid hp
            have Hs' := hid (hsm.out.step hokp)
            obtain ⟨o0, _, _⟩ := At.three hO.out
            have g0 := hO.out.free 0
            obtain ⟨w3, hw3⟩ : ∃ w3, w3 = (wr.setCell ⟨w2.heap.size, 0, none⟩ (.int .i64 (acc.w + p.w))).drew := ⟨_, rfl⟩
            have HO3 := hid (show At w3 w2.heap.size (.cells #[.int .i64 (acc.w + p.w), .int .i64 acc.v, .int .i64 acc.x] 28 (0, 0)) from by rw [hw3]; exact (hO.out.put 0 _).drew)
            have hne : w.heap.size < w2.heap.size := by
              have q1 := Hm1.out.size
              have q2 : w.heap.size < w2.heap.size := HR2.out.lt
              exact q2
            have hn2 : w.heap.size ≠ w2.heap.size := by omega
            have HR3 := hid (show At w3 w.heap.size (.cells #[.int .i64 0, .int .i64 0, .int .i64 0] 28 (0, 0)) from by rw [hw3]; exact (At.other hR.out _ _ hn2).drew)
            have M3 := hid (show Mod (fun _ => False) w w3 from by rw [hw3]; exact (m.out.put _ (fun h => by simp at h; omega)).drew)
            obtain ⟨w4, hw4⟩ : ∃ w4, w4 = (w3.setCell ⟨w2.heap.size, 1, none⟩ (.int .i64 (acc.v + p.v))).drew := ⟨_, rfl⟩
            have HO4 := hid (show At w4 w2.heap.size (.cells #[.int .i64 (acc.w + p.w), .int .i64 (acc.v + p.v), .int .i64 acc.x] 28 (0, 0)) from by rw [hw4]; exact (HO3.out.put 1 _).drew)
            have HR4 := hid (show At w4 w.heap.size (.cells #[.int .i64 0, .int .i64 0, .int .i64 0] 28 (0, 0)) from by rw [hw4]; exact (At.other HR3.out _ _ hn2).drew)
            have M4 := hid (show Mod (fun _ => False) w w4 from by rw [hw4]; exact (M3.out.put _ (fun h => by simp at h; omega)).drew)
            obtain ⟨w5, hw5⟩ : ∃ w5, w5 = (w4.setCell ⟨w2.heap.size, 2, none⟩ (.int .i64 (acc.x + p.x))).drew := ⟨_, rfl⟩
            have HO5 := hid (show At w5 w2.heap.size (.cells #[.int .i64 (acc.w + p.w), .int .i64 (acc.v + p.v), .int .i64 (acc.x + p.x)] 28 (0, 0)) from by rw [hw5]; exact (HO4.out.put 2 _).drew)
            have HR5 := hid (show At w5 w.heap.size (.cells #[.int .i64 0, .int .i64 0, .int .i64 0] 28 (0, 0)) from by rw [hw5]; exact (At.other HR4.out _ _ hn2).drew)
            have M5 := hid (show Mod (fun _ => False) w w5 from by rw [hw5]; exact (M4.out.put _ (fun h => by simp at h; omega)).drew)
            have Hw3 := hid hw3
            have Hw4 := hid hw4
            have Hw5 := hid hw5
            clear hw3 hw4 hw5 hg hpe hp e1 e2 a1 a2 a3 b1 b2 b3 b4 b5 b6 hokp hr hne
            go_wp2_with fail
            refine wp_region_still_tail 9 (by kernel_rfl) (by kernel_rfl) ?_
            simp only [List.take_succ_cons, List.take_zero, List.drop_succ_cons, List.drop_zero]
            change wpStill Try.prog _ (World.drew wr) (fun a' => wpList Try.prog _ _ _ a' (World.drew wr)) _ _
            repeat still_step
            refine wpStill_nil ?_
            go_upto_region 14 with fail
            rw [← Hw3.out]
            obtain ⟨_, x1, _⟩ := H.out.cells M3.out Hp.out
            obtain ⟨_, o1, _⟩ := At.three HO3.out
            have g1 := HO3.out.free 1
            have hl3 := HO3.out.lt
            have e1 := E1.out
            clear o0 g0 x0 e0 r0 r1 r2 f0 f1 f2 hOl hRl z0 hb
            refine wp_region_still_tail 9 (by kernel_rfl) (by kernel_rfl) ?_
            simp only [List.take_succ_cons, List.take_zero, List.drop_succ_cons, List.drop_zero]
            change wpStill Try.prog _ (World.drew w3) (fun a' => wpList Try.prog _ _ _ a' (World.drew w3)) _ _
            repeat still_step
            refine wpStill_nil ?_
            go_upto_region 15 with fail
            rw [← Hw4.out]
            obtain ⟨_, _, x2⟩ := H.out.cells M4.out Hp.out
            obtain ⟨_, _, o2⟩ := At.three HO4.out
            have g2 := HO4.out.free 2
            have hl4 := HO4.out.lt
            have e2 := E2.out
            clear o1 g1 x1 e1 hl3
            refine wp_region_still_tail 9 (by kernel_rfl) (by kernel_rfl) ?_
            simp only [List.take_succ_cons, List.take_zero, List.drop_succ_cons, List.drop_zero]
            change wpStill Try.prog _ (World.drew w4) (fun a' => wpList Try.prog _ _ _ a' (World.drew w4)) _ _
            repeat still_step
            refine wpStill_nil ?_
            go_upto_region 16 with fail
            rw [← Hw5.out]
            go_wp2_with fail
            go_roundw
            case rel => exact ⟨k + 1, (j : Int), plusP acc p, by omega, rfl, by go_num, Hg, Hs', HO5, HR5, M5⟩
            case measure => simp [intOf]; omega
      · obtain rfl : k = at_.length := by omega
        have hg := hgo.out
        rw [List.drop_length, sumGo_nil] at hg
        subst hg
        obtain ⟨o0, o1, o2⟩ := At.three hO.out
        go_wp2_with fail
        have hF := At.put3 hR.out (.int .i64 acc.w) (.int .i64 acc.v) (.int .i64 acc.x)
        obtain ⟨t0, t1, t2⟩ := At.three hF
        refine bodyPost_ret (v := .tuple #[.agg #[.int .i64 acc.w, .int .i64 acc.v, .int .i64 acc.x], .int .i64 0]) (by simp [results, Try.results10, go_sem, *]) rfl ⟨rfl, ?_⟩
        exact ((m.out.put _ (fun h => by simp at h)).put _ (fun h => by simp at h)).put _ (fun h => by simp at h)
  · have e : sumF l at_ = (⟨0, 0, 0⟩, checkF l 0 0) := by rw [sumF, if_pos hc]
    rw [e]
    clear e
    generalize checkF l 0 0 = E at hck hc
    have hRl := HR1.out.lt
    go_enter Try.func10, Try.ntmps10
    go_wp2_with fail
    rw [← Hw1.out]
    refine hck.mono ?_
    rintro e w2 ⟨rfl, m2⟩
    have HR2 := HR1.out.mod m2 id
    obtain ⟨r0, r1, r2⟩ := At.three HR2
    have f0 := HR2.free 0
    have f1 := HR2.free 1
    have f2 := HR2.free 2
    have hRl2 := HR2.lt
    clear hck
    go_wp2_with fail
    have hF := At.put3 HR2 (.int .i64 0) (.int .i64 0) (.int .i64 0)
    obtain ⟨t0, t1, t2⟩ := At.three hF
    refine bodyPost_ret (v := .tuple #[.agg #[.int .i64 0, .int .i64 0, .int .i64 0], .int .i64 E]) (by simp [results, Try.results10, go_sem, *]) rfl ⟨rfl, ?_⟩
    exact (((Hm1.out.trans m2).put _ (fun h => by simp at h)).put _ (fun h => by simp at h)).put _ (fun h => by simp at h)
end Go.Proofs.Ytdnodloinlijaaa
