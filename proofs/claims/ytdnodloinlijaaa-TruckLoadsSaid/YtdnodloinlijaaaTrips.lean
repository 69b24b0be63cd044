/- truck.Trips: its contract. -/
import Derived.Test.YtdnodloinlijaaaTrow
namespace Go.Proofs.Ytdnodloinlijaaa
open Go.RowKit
set_option linter.unusedVariables false
set_option linter.unusedSimpArgs false

def sliceLen : Value → Nat
  | .slice _ n _ => n
  | _ => 0
theorem bestR_of {l : List Pc} {W V : Int} (h : checkF l W V = 0) : bestR l W V = bestF l W V := by rw [bestR, if_pos h]
theorem firsts_len (L : List (Pc × Int)) : (firsts L).length = L.length := by simp [firsts]
theorem seconds_len (L : List (Pc × Int)) : (seconds L).length = L.length := by simp [seconds]
theorem best_l {A : Option Addr} {c : Nat} {L : List (Pc × Int)} {W V : Int} {w : World} (h : Ps w A (firsts L)) (hc : checkF (firsts L) W V = 0) :
    Calls Try.prog 15 #[.slice A L.length c, .int .i64 W, .int .i64 V] w fun e w' => ∃ B d, e = .returned (.tuple #[.slice B (bestF (firsts L) W V).length d, .int .i64 0]) ∧
      w'.ownsRow w.heap.size 3 1 (.slice B (bestF (firsts L) W V).length d) (bestF (firsts L) W V).length ((bestF (firsts L) W V).map intV) ∧ Mod (fun _ => False) w w' := by
  have := best_c A c (firsts L) W V w h
  rw [firsts_len, bestR_of hc, hc] at this
  exact this
theorem firsts_get {L : List (Pc × Int)} {k : Nat} {q : Pc × Int} (h : L[k]? = some q) : (firsts L)[k]? = some q.1 := by simp [firsts, h]
theorem seconds_get {L : List (Pc × Int)} {k : Nat} {q : Pc × Int} (h : L[k]? = some q) : (seconds L)[k]? = some q.2 := by simp [seconds, h]

set_option maxRecDepth 100000 in
set_option maxHeartbeats 8000000 in
theorem trips_c (A : Option Addr) (c : Nat) (l : List Pc) (W V : Int) (w : World) (h : Ps w A l) :
    Calls Try.prog 18 #[.slice A l.length c, .int .i64 W, .int .i64 V] w fun e w' => ∃ B d, e = .returned (.tuple #[.slice B (tripsR l W V).length d, .int .i64 (checkF l W V)]) ∧
      Rows2 w.heap.size w' (.slice B (tripsR l W V).length d) (tripsR l W V) ∧ Mod (fun _ => False) w w' := by
  have hck := check_c A c l W V w h
  by_cases hc : checkF l W V = 0
  rotate_left
  · have e : tripsR l W V = [] := by rw [tripsR, if_neg hc]
    rw [e]
    clear e
    generalize checkF l W V = r at hc hck
    go_enter Try.func18, Try.ntmps18
    go_wp2_with fail
    refine hck.mono ?_
    rintro e w1 ⟨rfl, m1⟩
    go_wp2_with fail
    go_ret2
    exact ⟨none, 0, rfl, Rows2.nil _ _, m1⟩
  · have e : tripsR l W V = tripsF W V (l.length + 1) (withIdx l) := by rw [tripsR, if_pos hc]
    rw [e, hc]
    rw [hc] at hck
    obtain ⟨h16, hW, hV, hok⟩ := checkF_ok hc
    obtain ⟨T, hT⟩ : ∃ T, T = tripsF W V (l.length + 1) (withIdx l) := ⟨_, rfl⟩
    rw [← hT]
    obtain ⟨i0, hi0, hz0, hz1, hz2⟩ := info_parts info3
    have HT := hid hT
    have Hok := hid hok
    have HW := hid hW
    have HV := hid hV
    clear e hc hT hok hW hV
    go_enter Try.func18, Try.ntmps18
    go_wp2_with fail
    refine hck.mono ?_
    rintro e w1 ⟨rfl, m1⟩
    clear hck
    go_wp2_with (first | (at_builtin; refine wpList_copy (w := w) rfl (.tmp 27) (.tmp 28) rfl A c l ⟨w1.heap.size, 0, none⟩ (h.mod0 (m1.alloc _)) h16 (m1.alloc _) rfl rfl ?_))
    intro A2 c2 w2 hP2 m2
    clear m1
    go_wp2_with (first | (at_make; go_loud (refine wpList_make_full _ rfl (.tmp 31) (.tmp 31) 25 rfl w2.heap.size 3 i0 (.int .i64 0) 1 Try.underlying25 hi0 hz0 hz1 .i64 .i64 (l.length : Int) (l.length : Int) l.length rfl rfl rfl rfl ?b2 ?b3 ?b4 ?_)))
    case b2 => rw [hz2]; omega
    case b3 => unfold maxLen; omega
    case b4 => exact Nat.le_refl _
    intro w3 hown hg
    have m3 : Mod (fun _ => False) w2 w3 := ⟨hg.os, hg.tape, hg.output, hg.size, fun k hk _ => hg.block k hk (by simp)⟩
    obtain ⟨arr0, hA0, hsz0⟩ : ∃ arr0, At w3 w2.heap.size (.cells arr0 3 (0, 0)) ∧ arr0.size = l.length := by
      obtain ⟨hx, h2⟩ := hown
      rcases h2 with ⟨hv, _⟩ | ⟨g, cap, cur, hv, _, hh, _, _, hcs, ht⟩
      · cases hv
      · cases hv
        exact ⟨cur, hh, by omega⟩
    have M3 := hid m3
    have HA0 := hid hA0
    clear hown hg m3 hA0 hz0 hz1 hz2 hi0
    go_wp2_with fail
    go_loopw [35] (fun s35 wr => ∃ (k : Nat) (arr : Array Value), k ≤ l.length ∧ s35 = .int .i64 (k : Int) ∧ Hid (At wr w2.heap.size (.cells arr 3 (0, 0))) ∧ arr.size = l.length ∧ Hid (∀ j, j < k → arr[j]? = some (.int .i64 (j : Int))) ∧ Hid (Mod (fun _ => False) w2 wr))
      (fun s35 _ => l.length - (intOf s35).toNat)
    case atStart => exact ⟨0, arr0, Nat.zero_le _, rfl, HA0, hsz0, hid (fun j hj => by omega), M3⟩
    case round =>
      obtain ⟨k, arr, hk, rfl, hR, hsz, hp, mw⟩ := hrel
      by_cases hlt : k < l.length
      · have hk1 : (k : Int) < l.length := by omega
        have hRl := hR.out.lt
        have y0 : ∃ v, wr.cell? ⟨w2.heap.size, k, none⟩ = some v := ⟨_, arr_cell hR.out (Array.getElem?_eq_getElem (show k < arr.size by omega))⟩
        obtain ⟨v0, y0⟩ := y0
        have f0 := hR.out.free k
        go_wp2_with fail
        go_roundw
        case rel =>
          refine ⟨k + 1, arr.setIfInBounds k (.int .i64 (k : Int)), by omega, by go_num, hid (hR.out.put k _), by simpa using hsz, hid (fun j hj => ?_), hid (mw.out.put _ (fun h => by simp at h))⟩
          by_cases e : j = k
          · subst e
            rw [Array.getElem?_setIfInBounds_self_of_lt (by omega)]
          · rw [Array.getElem?_setIfInBounds_ne (by omega)]
            exact hp.out j (by omega)
        case measure => simp [intOf]; omega
      · obtain rfl : k = l.length := by omega
        have hI4 : Is wr (some ⟨w2.heap.size, 0, none⟩) (seconds (withIdx l)) := by
          refine Is.of hR.out ?_
          rw [seconds_withIdx]
          apply List.ext_getElem?
          intro j
          rw [Array.getElem?_toList]
          by_cases e : j < l.length
          · rw [hp.out j e]
            simp [idxs, e, intV]
          · rw [Array.getElem?_eq_none (by omega), List.getElem?_eq_none (by simp [idxs]; omega)]
        have HI4 := hid hI4
        have HP4 := hid (hP2.out.mod0 mw.out)
        have M4 := hid (m2.out.trans mw.out)
        clear hI4 hR hp mw hP2 m2 HA0 M3
        go_wp2_with fail
        go_loopw [9, 10, 12] (fun s9 s10 s12 wt => ∃ (m : Nat) (L : List (Pc × Int)) (tr : List (List Int)) (A9 : Option Addr) (c9 : Nat) (A10 : Option Addr) (c10 : Nat) (A12 : Option Addr) (c12 : Nat), s9 = .slice A9 L.length c9 ∧ s10 = .slice A10 L.length c10 ∧ s12 = .slice A12 tr.length c12 ∧ L.length < m ∧ L.length ≤ 16 ∧ tr.length + m ≤ 17 ∧
            Hid (tr ++ tripsF W V m L = T) ∧ Hid (Ps wt A9 (firsts L)) ∧ Hid (Is wt A10 (seconds L)) ∧ Hid (Rows2 w.heap.size wt s12 tr) ∧ Hid ((firsts L).all okP = true) ∧ Hid (Mod (fun _ => False) w wt))
          (fun s9 _ _ _ => sliceLen s9)
        case atStart =>
          refine ⟨l.length + 1, withIdx l, [], A2, c2, some ⟨w2.heap.size, 0, none⟩, l.length, none, 0, ?_, ?_, rfl, ?_, ?_, ?_, hid HT.out.symm, ?_, HI4, hid (Rows2.nil _ _), ?_, M4⟩
          · rw [withIdx_len]
          · rw [withIdx_len]
          · rw [withIdx_len]; omega
          · rw [withIdx_len]; omega
          · simp only [List.length_nil]; omega
          · rw [firsts_withIdx]; exact HP4
          · rw [firsts_withIdx]; exact Hok
        case round =>
          clear HI4 HP4 M4
          obtain ⟨m, L, tr, A9, c9, A10, c10, A12, c12, rfl, rfl, rfl, hLm, hL16, htr, hgo, hP, hI, hRw, hok, hM⟩ := hrel
          cases m with
          | zero => omega
          | succ m =>
          have hb := best_l (c := c9) hP.out (checkF_of (by rw [firsts_len]; exact hL16) HW.out HV.out hok.out)
          have hg := hgo.out
          rw [tripsF_succ] at hg
          have hhd := fun q => best_head (l := firsts L) (W := W) (V := V) hok.out q
          rw [firsts_len] at hhd
          generalize bestF (firsts L) W V = ld at hb hg hhd
          have Hg := hid hg
          have Hhd := hid hhd
          clear hg hhd
          go_wp2_with fail
          refine hb.mono ?_
          rintro e w4 ⟨Bl, dl, rfl, hld, m4⟩
          clear hb
          by_cases hl0 : ld = []
          · subst hl0
            have hg := Hg.out
            rw [if_pos rfl, List.append_nil] at hg
            subst hg
            simp only [List.length_nil] at hld
            have hR4 := hid (hRw.out.mod0 m4)
            clear hld
            go_wp2_with fail
            go_ret2
            exact ⟨A12, c12, rfl, hR4.out, hM.out.trans m4⟩
          · have hlp : ¬ (ld.length : Int) = 0 := by
              have := List.length_pos_iff.2 hl0
              omega
            have hlb : ((ld.length : Int) == 0) = false := by
              rw [beq_eq_false_iff_ne]
              exact hlp
            have hg := Hg.out
            rw [if_neg hl0] at hg
            have Hg2 := hid hg
            have hlt2 : (split 0 L ld).2.length < L.length := by
              obtain ⟨j, S, e, hj⟩ := Hhd.out hl0
              rw [e]
              exact split_lt L 0 j S (Nat.zero_le _) (by omega)
            have Hlt2 := hid hlt2
            have Hsub := hid (split_sub L 0 ld)
            obtain ⟨S2, hS2⟩ : ∃ S2, S2 = split 0 L ld := ⟨_, rfl⟩
            rw [← hS2] at Hg2 Hlt2 Hsub
            have HS2 := hid hS2
            have HP4 := hid (hP.out.mod0 m4)
            have HI4 := hid (hI.out.mod0 m4)
            have HR4 := hid (hRw.out.mod0 m4)
            have HL4 := hid (Is.own hld)
            have hcap : ld.length ≤ dl := by
              rcases hld.2 with ⟨q, q2⟩ | ⟨g', c', cur, he, _, _, q, _⟩
              · omega
              · cases he
                exact q
            have M4 := hid (hM.out.trans m4)
            clear hg hlt2 hS2 Hg Hhd hP hI hRw hld hM m4 hgo
            go_wp2_with fail
            go_loopw [13, 15, 16, 17, 61] (fun s13 s15 s16 s17 s61 wx => ∃ (k : Nat) (ldr : List Int) (RP : List Pc) (RQ tA : List Int) (A13 : Option Addr) (c13 : Nat) (A15 : Option Addr) (c15 : Nat) (A16 : Option Addr) (c16 : Nat) (A17 : Option Addr) (c17 : Nat), k ≤ L.length ∧ s61 = .int .i64 (k : Int) ∧ s13 = .slice A13 ldr.length c13 ∧ s15 = .slice A15 tA.length c15 ∧ s16 = .slice A16 RQ.length c16 ∧ s17 = .slice A17 RP.length c17 ∧
                tA.length ≤ k ∧ RP.length ≤ k ∧ RQ.length ≤ k ∧ ldr.length ≤ c13 ∧ Hid (∃ R, firsts R = RP ∧ seconds R = RQ ∧ S2 = (tA ++ (split k (L.drop k) ldr).1, R ++ (split k (L.drop k) ldr).2)) ∧ Hid (Is w4 A13 ldr) ∧ Hid (St3 w4.heap.size w4 wx s17 s16 s15 RP RQ tA))
              (fun _ _ _ _ s61 _ => L.length - (intOf s61).toNat)
            case atStart => exact ⟨0, ld, [], [], [], Bl, dl, none, 0, none, 0, none, 0, Nat.zero_le _, rfl, rfl, rfl, rfl, rfl, Nat.le_refl _, Nat.le_refl _, Nat.le_refl _, hcap, hid ⟨[], rfl, rfl, HS2.out⟩, HL4, hid (St3.start w4)⟩
            case round =>
              clear hcap HL4 HS2
              obtain ⟨k, ldr, RP, RQ, tA, A13, c13, A15, c15, A16, c16, A17, c17, hkL, rfl, rfl, rfl, rfl, rfl, htk, hpk, hqk, hc13, hspl, hIl, hSt⟩ := hrel
              by_cases hlt : k < L.length
              · obtain ⟨q, hq⟩ := getE hlt
                obtain ⟨b9, o9, rfl, hb9, x0, x1, x2⟩ := HP4.out.get (firsts_get hq)
                obtain ⟨b10, o10, rfl, hb10, y0⟩ := HI4.out.get (seconds_get hq)
                have z0 := hSt.out.cell hb9 x0
                have z1 := hSt.out.cell hb9 x1
                have z2 := hSt.out.cell hb9 x2
                have hk1 : (k : Int) < L.length := by omega
                have hbx : b9 < wr.heap.size := Nat.lt_of_lt_of_le hb9 hSt.out.sz
                have Hq := hid hq
                have Hy0 := hid y0
                obtain ⟨w5, hw5⟩ : ∃ w5, w5 = wr.alloc (.cells #[.int .i64 q.1.w, .int .i64 q.1.v, .int .i64 q.1.x] 28) := ⟨_, rfl⟩
                have Hw5 := hid hw5
                have HSt5 := hid (show St3 w4.heap.size w4 w5 (.slice A17 RP.length c17) (.slice A16 RQ.length c16) (.slice A15 tA.length c15) RP RQ tA from by rw [hw5]; exact hSt.out.alloc _)
                have HN5 := hid (show At w5 wr.heap.size (.cells #[.int .i64 q.1.w, .int .i64 q.1.v, .int .i64 q.1.x] 28 (0, 0)) from by rw [hw5]; exact At.new _ _)
                have HNe := hid (show ¬ (Value.slice A17 RP.length c17).ownBlock = some wr.heap.size from fun e => by have := own_lt hSt.out.p e; omega)
                clear hw5 hq x0 x1 x2 y0
                go_upto_region 20 with fail
                rw [← Hw5.out]
                by_cases hhd : ldr.head? = some (k : Int)
                · cases ldr with
                  | nil => cases hhd
                  | cons x r =>
                    obtain rfl : x = (k : Int) := Option.some.inj hhd
                    obtain ⟨b13, o13, rfl, hb13, v0⟩ := hIl.out.get (i := 0) (x := (k : Int)) rfl
                    have v1 := HSt5.out.cell hb13 v0
                    rw [Nat.add_zero] at v1
                    have y5 := HSt5.out.cell hb10 Hy0.out
                    have hb105 : b10 < w5.heap.size := Nat.lt_of_lt_of_le hb10 HSt5.out.sz
                    have hb135 : b13 < w5.heap.size := Nat.lt_of_lt_of_le hb13 HSt5.out.sz
                    have hlp : (0 : Int) < (r.length : Int) + 1 := by omega
                    rw [List.length_cons] at hc13
                    have hc1 : (1 : Int) ≤ (c13 : Int) := by omega
                    have hc2 : (r.length : Int) + 1 ≤ (c13 : Int) := by omega
                    have hc3 : r.length + 1 ≤ c13 := hc13
                    have hc4 : (1 : Int) ≤ (r.length : Int) + 1 := by omega
                    have HvD := hid HSt5.out.drew
                    have Hy5 := hid y5
                    have htl := hid (Is.tail (c := c13) hIl.out (fun e => by cases r with | nil => rfl | cons a b => simp at hc13; omega))
                    clear Hw5
                    go_upto_region 21 with fail
                    go_region_held3 (fun w' => w'.cell? ⟨b10, o10 + k, none⟩ = some (.int .i64 q.2)) (go_keep) (first
                      | (refine step_t rfl (.tmp 76) (.tmp 81) rfl (St3.alloc HvD.out _) (by omega) q.2 w5.heap.size (At.new w5.drew _) (by simp [Act.eval, Act.put]) (by simp [Act.eval, Act.put]) ?_; intro gt ct w8 hst m8; have z8 := St3.cell hst.out hb10 Hy0.out))
                    obtain ⟨A13', hA13⟩ : ∃ A' : Option Addr, A' = (if c13 = 1 then some ⟨b13, o13, none⟩ else some ⟨b13, o13 + 1, none⟩) := ⟨_, rfl⟩
                    rw [← hA13] at htl ⊢
                    clear hA13
                    go_wp2_with fail
                    go_roundw
                    case rel =>
                      refine ⟨k + 1, r, RP, RQ, tA ++ [q.2], A13', c13 - 1, some ⟨gt, 0, none⟩, ct, A16, c16, A17, c17, by omega, by go_num, rfl, by rw [List.length_append]; rfl, rfl, rfl, by rw [List.length_append, List.length_singleton]; omega, by omega, by omega, by omega, ?_, htl, hst⟩
                      obtain ⟨R, e1, e2, e3⟩ := hspl.out
                      rw [drop_at Hq.out, split_cons, if_pos (show ((k : Int) :: r).head? = some (k : Int) from rfl)] at e3
                      exact hid ⟨R, e1, e2, by rw [e3]; simp⟩
                    case measure => simp [intOf]; omega
                · have hcs : ¬ (0 : Int) < (ldr.length : Int) ∨ ∃ x b13 o13, A13 = some ⟨b13, o13, none⟩ ∧ w4.cell? ⟨b13, o13, none⟩ = some (.int .i64 x) ∧ b13 < w4.heap.size ∧ ¬ x = (k : Int) ∧ (0 : Int) < (ldr.length : Int) := by
                    cases ldr with
                    | nil => exact .inl (by simp)
                    | cons x r =>
                      obtain ⟨b13, o13, e, hb, hv⟩ := hIl.out.get (i := 0) (x := x) rfl
                      exact .inr ⟨x, b13, o13, e, by simpa using hv, hb, fun e => hhd (by rw [e]; rfl), by simp only [List.length_cons]; omega⟩
                  have Hhd := hid hhd
                  have y5 := HSt5.out.cell hb10 Hy0.out
                  have hb105 : b10 < w5.heap.size := Nat.lt_of_lt_of_le hb10 HSt5.out.sz
                  obtain ⟨n50, n51, n52⟩ := At.three HN5.out
                  have hNl := HN5.out.lt
                  have HD := hid HSt5.out.drew
                  have HND := hid HN5.out.drew
                  clear Hw5 hhd z0 z1 z2 hbx
                  rcases hcs with hlz | ⟨x, b13, o13, rfl, v0, hb13, hxk, hlz⟩
                  case' inr =>
                    have v1 := HSt5.out.cell hb13 v0
                    clear v0
                  all_goals go_upto_region 22 with fail
                  all_goals
                    go_region_held3 (fun w' => w'.cell? ⟨wr.heap.size, 0, none⟩ = some (.int .i64 q.1.w) ∧ w'.cell? ⟨wr.heap.size, 1, none⟩ = some (.int .i64 q.1.v) ∧ w'.cell? ⟨wr.heap.size, 2, none⟩ = some (.int .i64 q.1.x) ∧ w'.cell? ⟨b10, o10 + k, none⟩ = some (.int .i64 q.2)) (go_keep) (first
                      | (refine step_p rfl (.tmp 85) (.tmp 87) rfl (St3.alloc HD.out _) (by omega) q.1 w5.heap.size (At.new w5.drew _) (by simp [Act.eval, Act.put]) (by simp [Act.eval, Act.put]) ?_; intro gp cp w7 hst m7; have HN7 := hid (At.mod (At.alloc HND.out _) m7.out HNe.out); have zP := At.three HN7.out; obtain ⟨z70, z71, z72⟩ := zP; have z73 := St3.cell hst.out hb10 Hy0.out)
                      | (refine step_q rfl (.tmp 89) (.tmp 94) rfl (St3.alloc HD.out _) (by omega) q.2 w5.heap.size (At.new w5.drew _) (by simp [Act.eval, Act.put]) (by simp [Act.eval, Act.put]) ?_; intro gq cq w7 hst m7; have HN7 := hid (St3.keepP (St3.alloc HD.out _) m7.out (At.alloc HND.out _)); have zP := At.three HN7.out; obtain ⟨z70, z71, z72⟩ := zP; have z73 := St3.cell hst.out hb10 Hy0.out)
                      | (refine step_p rfl (.tmp 85) (.tmp 87) rfl (St3.alloc (St3.alloc HD.out _) _) (by omega) q.1 w5.heap.size (At.alloc (At.new w5.drew _) _) (by simp [Act.eval, Act.put]) (by simp [Act.eval, Act.put]) ?_; intro gp cp w7 hst m7; have hQ7 := hid (St3.keepQ (St3.alloc (St3.alloc HD.out _) _) m7.out (At.new1 w5.drew _ _)); have HN7 := hid (At.mod (At.alloc (At.alloc HND.out _) _) m7.out HNe.out); have zP := At.three HN7.out; obtain ⟨z70, z71, z72⟩ := zP; have z73 := St3.cell hst.out hb10 Hy0.out)
                      | (refine step_p rfl (.tmp 85) (.tmp 87) rfl (St3.alloc (St3.alloc HD.out _) _) (by omega) q.1 (w5.heap.size + 1) (At.new1 w5.drew _ _) (by simp [Act.eval, Act.put]) (by simp [Act.eval, Act.put]) ?_; intro gp cp w7 hst m7; have hQ7 := hid (St3.keepQ (St3.alloc (St3.alloc HD.out _) _) m7.out (At.alloc (At.new w5.drew _) _)); have HN7 := hid (At.mod (At.alloc (At.alloc HND.out _) _) m7.out HNe.out); have zP := At.three HN7.out; obtain ⟨z70, z71, z72⟩ := zP; have z73 := St3.cell hst.out hb10 Hy0.out)
                      | (refine step_q rfl (.tmp 89) (.tmp 94) rfl (St3.alloc (St3.alloc HD.out _) _) (by omega) q.2 w5.heap.size (At.alloc (At.new w5.drew _) _) (by simp [Act.eval, Act.put]) (by simp [Act.eval, Act.put]) ?_; intro gq cq w7 hst m7; have hP7 := hid (St3.keepP (St3.alloc (St3.alloc HD.out _) _) m7.out (At.new1 w5.drew _ _)); have HN7 := hid (St3.keepP (St3.alloc (St3.alloc HD.out _) _) m7.out (At.alloc (At.alloc HND.out _) _)); have zP := At.three HN7.out; obtain ⟨z70, z71, z72⟩ := zP; have z73 := St3.cell hst.out hb10 Hy0.out)
                      | (refine step_q rfl (.tmp 89) (.tmp 94) rfl (St3.alloc (St3.alloc HD.out _) _) (by omega) q.2 (w5.heap.size + 1) (At.new1 w5.drew _ _) (by simp [Act.eval, Act.put]) (by simp [Act.eval, Act.put]) ?_; intro gq cq w7 hst m7; have hP7 := hid (St3.keepP (St3.alloc (St3.alloc HD.out _) _) m7.out (At.alloc (At.new w5.drew _) _)); have HN7 := hid (St3.keepP (St3.alloc (St3.alloc HD.out _) _) m7.out (At.alloc (At.alloc HND.out _) _)); have zP := At.three HN7.out; obtain ⟨z70, z71, z72⟩ := zP; have z73 := St3.cell hst.out hb10 Hy0.out)
                      | (refine step_p rfl (.tmp 85) (.tmp 87) rfl (St3.alloc hst.out _) (by omega) q.1 w7.heap.size (At.new w7 _) (by simp [Act.eval, Act.put]) (by simp [Act.eval, Act.put]) ?_; intro gp cp w8 hst m8; have zP := At.three (At.mod (At.alloc HN7.out _) m8.out HNe.out); obtain ⟨z80, z81, z82⟩ := zP; have z83 := St3.cell hst.out hb10 Hy0.out)
                      | (refine step_q rfl (.tmp 89) (.tmp 94) rfl (St3.alloc hst.out _) (by omega) q.2 w7.heap.size (At.new w7 _) (by simp [Act.eval, Act.put]) (by simp [Act.eval, Act.put]) ?_; intro gq cq w8 hst8 m8; have zP := At.three (St3.keepP (St3.alloc hst.out _) m8.out (At.alloc HN7.out _)); have hst := hst8; obtain ⟨z80, z81, z82⟩ := zP; have z83 := St3.cell hst.out hb10 Hy0.out)
                      | (refine step_p rfl (.tmp 85) (.tmp 87) rfl hst.out (by omega) q.1 _ hP7.out (by simp [Act.eval, Act.put]) (by simp [Act.eval, Act.put]) ?_; intro gp cp w8 hst m8; have zP := At.three (At.mod HN7.out m8.out HNe.out); obtain ⟨z80, z81, z82⟩ := zP; have z83 := St3.cell hst.out hb10 Hy0.out)
                      | (refine step_q rfl (.tmp 89) (.tmp 94) rfl hst.out (by omega) q.2 _ hQ7.out (by simp [Act.eval, Act.put]) (by simp [Act.eval, Act.put]) ?_; intro gq cq w8 hst8 m8; have zP := At.three (St3.keepP hst.out m8.out HN7.out); have hst := hst8; obtain ⟨z80, z81, z82⟩ := zP; have z83 := St3.cell hst.out hb10 Hy0.out))
                  all_goals
                    go_wp2_with fail
                    go_roundw
                    case rel =>
                      refine ⟨k + 1, ldr, RP ++ [q.1], RQ ++ [q.2], tA, _, c13, A15, c15, some ⟨gq, 0, none⟩, cq, some ⟨gp, 0, none⟩, cp, by omega, by go_num, rfl, rfl, by rw [List.length_append]; rfl, by rw [List.length_append]; rfl, by omega, by rw [List.length_append, List.length_singleton]; omega, by rw [List.length_append, List.length_singleton]; omega, hc13, ?_, hIl, hst⟩
                      obtain ⟨R, e1, e2, e3⟩ := hspl.out
                      rw [drop_at Hq.out, split_cons, if_neg Hhd.out] at e3
                      exact hid ⟨R ++ [q], by rw [← e1]; simp [firsts], by rw [← e2]; simp [seconds], by rw [e3]; simp⟩
                    case measure => simp [intOf]; omega
              · obtain rfl : k = L.length := by omega
                obtain ⟨R, rfl, rfl, hspl2⟩ := hspl.out
                have hS : S2 = (tA, R) := by rw [hspl2, List.drop_length]; simp [split]
                subst hS
                have hg := Hg2.out
                have hlt3 := Hlt2.out
                have hsub3 := Hsub.out
                simp only at hg hlt3 hsub3
                have Hg3 := hid hg
                have hRx := hid ((HR4.out.below hSt.out.bel (Nat.le_refl _)).mod0 ((Mod.refl _ wr).alloc (.cells #[.slice A15 tA.length c15] 25)))
                have hyx := hid (own_mod0 (own_down hSt.out.t M4.out.size) ((Mod.refl _ wr).alloc (.cells #[.slice A15 tA.length c15] 25)))
                have Mx := hid ((M4.out.below hSt.out.bel M4.out.size).alloc (.cells #[.slice A15 tA.length c15] 25))
                have hqx := hid (hSt.out.alloc (.cells #[.slice A15 tA.length c15] 25))
                have Hlt3 := hid hlt3
                clear hg hspl hspl2 Hg2 Hlt2 hlt3
                go_wp2_with (first | (at_builtin; refine wpList_trip (w := w) rfl (.tmp 97) (.tmp 99) rfl (.slice A12 tr.length c12) tr tA (.slice A15 tA.length c15) wr.heap.size hRx.out hyx.out (At.new _ _) (by omega) Mx.out rfl rfl ?_))
                intro g cg w6 hRn hmg hmod
                have hPn : Ps w6 A17 (firsts R) := by
                  obtain ⟨xs, h1, _⟩ := hRx.out
                  exact Ps.own (own_far hqx.out.p h1 (by decide) hmg.out)
                have hIn : Is w6 A16 (seconds R) := by
                  obtain ⟨xs, h1, _⟩ := hRx.out
                  exact Is.own (own_far hqx.out.q h1 (by decide) hmg.out)
                have HPn := hid hPn
                have HIn := hid hIn
                clear hPn hIn hqx hyx hRx Mx hmg
                go_wp2_with fail
                go_roundw
                case rel => exact ⟨m, R, tr ++ [tA], A17, c17, A16, c16, some ⟨g, 0, none⟩, cg, by rw [firsts_len], by rw [seconds_len], by simp, by have := Hlt3.out; omega, by have := Hlt3.out; omega, by simp; omega, hid (by have := Hg3.out; rw [List.append_assoc]; exact this), HPn, HIn, hRn, hid (firsts_all hok.out hsub3), hmod⟩
                case measure => have := Hlt3.out; simp [sliceLen, firsts_len]; omega
end Go.Proofs.Ytdnodloinlijaaa
