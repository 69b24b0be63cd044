/- TruckLoads: the walk. -/
import Derived.Test.YtdnodloinlijaaaPlain5
namespace Go.Proofs.Ytdnodloinlijaaa
open Go.RowKit
set_option linter.unusedVariables false
set_option linter.unusedSimpArgs false

theorem bools_set (uf : List Bool) (j : Nat) (b : Bool) : (uf.map Value.bool).set j (.bool b) = (uf.set j b).map Value.bool := by rw [List.map_set]
theorem made_bools (n : Nat) : (madeCells #[Value.bool false] n).toList = (List.replicate n false).map Value.bool := by
  apply List.ext_getElem?
  intro i
  by_cases h : i < n
  · simp [madeCells, Nat.mod_one, h]
  · simp [madeCells, Nat.mod_one, h]

set_option maxRecDepth 100000 in
set_option maxHeartbeats 6400000 in
theorem truckLoads_walk (A : Option Addr) (l : List Pc) (c : Nat) (W V : Int) (w : World) (h : Ps w A l) :
    Calls Try.prog 8 #[.agg #[.slice A l.length c, .int .i64 W, .int .i64 V]] w fun e w' => e = .returned (.bool true) ∧ Below w.heap.size w w' := by
  obtain ⟨w1, hw1⟩ : ∃ w1 : World, w1 = w.alloc (.cells #[.slice A l.length c, .int .i64 W, .int .i64 V] 24) := ⟨_, rfl⟩
  have m1 : Mod (fun _ => False) w w1 := by rw [hw1]; exact (Mod.refl _ _).alloc _
  have hX1 : At w1 w.heap.size (.cells #[.slice A l.length c, .int .i64 W, .int .i64 V] 24 (0, 0)) := by rw [hw1]; exact At.new _ _
  have HP1 := hid (h.mod0 m1)
  have M1 := hid m1
  have HX1 := hid hX1
  have Hw1 := hid hw1
  obtain ⟨x0, x1, x2⟩ := At.three hX1
  clear h hw1 m1 hX1
  by_cases h9 : (9 : Int) < (l.length : Int)
  · go_enter Try.func8, Try.ntmps8
    go_upto_region 1 with fail
    rw [← Hw1.out]
    go_wp2_with fail
    refine (awake_c _).mono ?_
    rintro e w2 ⟨rfl, m2⟩
    go_wp2_with fail
    go_ret
    exact ⟨rfl, (M1.out.trans m2).low⟩
  · have hn9 := hid (show l.length ≤ 9 by omega)
    have hb := trips_c A c l W V w1 HP1.out
    by_cases hc : checkF l W V = 0
    rotate_left
    · have e : tripsR l W V = [] := by rw [tripsR, if_neg hc]
      rw [e] at hb
      simp only [List.length_nil] at hb
      generalize checkF l W V = ce at hb hc
      clear e
      go_enter Try.func8, Try.ntmps8
      go_upto_region 1 with fail
      rw [← Hw1.out]
      go_wp2_with fail
      refine hb.mono ?_
      rintro e w2 ⟨B2, d2, rfl, _, m2⟩
      clear x0 x1 x2
      go_wp2_with fail
      refine (awake_c _).mono ?_
      rintro e w3 ⟨rfl, m3⟩
      go_wp2_with fail
      go_ret
      exact ⟨rfl, ((M1.out.trans m2).trans m3).low⟩
    · obtain ⟨i0, hi0, hz0, hz1, hz2⟩ := info_parts info4
      have Hgood := hid (good_all l W V hc)
      have hlen := hid (tripsR_len l W V)
      rw [hc] at hb
      obtain ⟨h16, hWx, hVx, hok⟩ := checkF_ok hc
      clear hWx hVx
      generalize tripsR l W V = tr at hb hlen Hgood
      clear hc hok
      go_enter Try.func8, Try.ntmps8
      go_upto_region 1 with fail
      rw [← Hw1.out]
      clear Hw1
      go_wp2_with fail
      refine hb.mono ?_
      rintro e w2 ⟨B2, d2, rfl, hT2, m2⟩
      have HT2 := hid hT2
      have HX2 := hid (HX1.out.mod m2 id)
      have HP2 := hid (HP1.out.mod0 m2)
      have M2 := hid (M1.out.trans m2)
      clear x0 x1 x2 m2 hb hT2
      obtain ⟨x0, x1, x2⟩ := At.three HX2.out
      go_wp2_with (first | (at_make; go_loud (refine wpList_make_full _ rfl (.tmp 39) (.tmp 39) 43 rfl w2.heap.size 4 i0 (.bool false) 1 Try.underlying43 hi0 hz0 hz1 .i64 .i64 (l.length : Int) (l.length : Int) l.length rfl rfl rfl rfl ?b2 ?b3 ?b4 ?_)))
      case b2 => rw [hz2]; omega
      case b3 => unfold maxLen; omega
      case b4 => exact Nat.le_refl _
      intro w3 hown hg
      rw [made_bools] at hown
      have HU3 := hid hown
      have M23 := hid (show Mod (fun _ => False) w2 w3 from ⟨hg.os, hg.tape, hg.output, hg.size, fun k hk _ => hg.block k hk (by simp)⟩)
      clear hown hg hz0 hz1 hz2 hi0 x0 x1 x2
      go_wp2_with fail
      go_loopw [6, 7] (fun s6 s7 wr => ∃ (k : Nat) (lastv : Int) (bd : Option Int) (L : List (Pc × Int)) (uf : List Bool), k ≤ tr.length ∧ s6 = .int .i64 lastv ∧ s7 = .int .i64 (k : Int) ∧ (k = 0 ∨ bd = some lastv) ∧ uf.length = l.length ∧
          Hid (Good l W V (tr.drop k) L bd) ∧ Hid (Flags l.length uf L) ∧ Hid (List.Sublist L (withIdx l)) ∧ Hid (wr.ownsRow w2.heap.size 4 1 (.slice (some ⟨w2.heap.size, 0, none⟩) l.length l.length) l.length (uf.map Value.bool)) ∧ Hid (Mod (fun _ => False) w2 wr))
        (fun _ s7 _ => tr.length - (intOf s7).toNat)
      case atStart => exact ⟨0, 0, none, withIdx l, List.replicate l.length false, Nat.zero_le _, rfl, rfl, .inl rfl, by simp, Hgood, hid (flags_start l), hid (List.Sublist.refl _), HU3, M23⟩
      case round =>
        clear HU3 M23
        obtain ⟨k, lastv, bd, L, uf, hk, rfl, rfl, hbd, huf, hgd, hfl, hsub, hU, hM⟩ := hrel
        have hl17 := hlen.out.1
        by_cases hlt : k < tr.length
        · obtain ⟨t, ht⟩ := getE hlt
          have htl := hid (hlen.out.2 t (List.mem_of_getElem? ht))
          have hg := hgd.out
          rw [drop_at ht, Good_cons] at hg
          obtain ⟨hne, ⟨s, hs1, hs2, hs3, hs4, hs5⟩, hin, hpw⟩ := hg
          have Hs5 := hid hs5
          have Hin := hid hin
          have Hpw := hid hpw
          have Hbd := hid (show k = 0 ∨ s.x ≤ lastv from hbd.imp id (fun e => hs4 _ e))
          obtain ⟨g3, A3, c3, rfl, hg32, z32, i32⟩ := HT2.out.get ht
          have hg3 : g3 < wr.heap.size := Nat.lt_of_lt_of_le hg32 hM.out.size
          have z3 := hM.out.keep0 z32
          have i3 := i32.mod0 hM.out
          have HI2 := hid i32
          have Hz2 := hid z32
          have Hz3 := hid z3
          have Ht := hid ht
          have hsum := hid (fun (w5 : World) (m : Mod (fun _ => False) wr w5) => sum_c A A3 c c3 l t w5 ((HP2.out.mod0 hM.out).mod0 m) (i3.mod0 m) (by have := htl.out; omega))
          rw [hs1] at hsum
          have HXr := hid (HX2.out.mod hM.out id)
          obtain ⟨x0, x1, x2⟩ := At.three HXr.out
          have hk1 : (k : Int) < (tr.length : Int) := by omega
          have hlp : ((t.length : Int) == 0) = false := by
            rw [beq_eq_false_iff_ne]
            have := List.length_pos_iff.2 hne
            omega
          obtain ⟨sw, sv, sx⟩ := s
          have g1 : ¬ W < sw := by simp only at hs2; omega
          have g2 : ¬ V < sv := by simp only at hs3; omega
          simp only at hsum Hbd Hs5
          have HXl := HXr.out.lt
          clear hgd hs1 hs2 hs3 hs4 hs5 hin hpw hbd i3 hne i32 z32 hg32 ht
          go_upto_region 11 with fail
          have HXd := hid HXr.out.drew
          have hzd : wr.drew.cell? ⟨g3, k, none⟩ = some (.slice A3 t.length c3) := z3
          have Hzd := hid hzd
          have nd1 : w.heap.size ≠ wr.heap.size := by omega
          have nd2 : wr.heap.size ≠ w.heap.size := by omega
          have nd3 : g3 ≠ wr.heap.size := by omega
          have nd4 : wr.heap.size ≠ g3 := by omega
          clear hzd
          go_region_held3 (fun w' => w'.cell? ⟨w.heap.size, 0, none⟩ = some (.slice A l.length c) ∧ w'.cell? ⟨w.heap.size, 1, none⟩ = some (.int .i64 W) ∧ w'.cell? ⟨w.heap.size, 2, none⟩ = some (.int .i64 V) ∧ w'.cell? ⟨g3, k, none⟩ = some (.slice A3 t.length c3)) (go_keep) (first
            | (go_at_call 10; refine (hsum.out _ (((Mod.refl _ wr).alloc (.cells #[.int .i64 0, .int .i64 0, .int .i64 0] 28)).drew)).mono ?_; rintro e w5 ⟨rfl, m5⟩; have M5 := hid ((((Mod.refl _ wr).alloc (.cells #[.int .i64 0, .int .i64 0, .int .i64 0] 28)).drew).trans m5); have hX5 := HXr.out.mod M5.out id; have xx := At.three hX5; obtain ⟨xx0, xx1, xx2⟩ := xx; have hz5 := M5.out.keep0 Hz3.out; have hZ5 := At.mod (At.drew (At.new wr (.cells #[.int .i64 0, .int .i64 0, .int .i64 0] 28))) m5 id; have HZ5 := hid hZ5; have zz := At.three hZ5; obtain ⟨zz0, zz1, zz2⟩ := zz; have zf0 := hZ5.free 0; have zf1 := hZ5.free 1; have zf2 := hZ5.free 2; have zl := hZ5.lt)
            | (go_at_call 10; refine (hsum.out _ (Mod.refl _ wr).drew).mono ?_; rintro e w5 ⟨rfl, m5⟩; have M5 := hid ((Mod.refl _ wr).drew.trans m5); have hX5 := HXr.out.mod M5.out id; have xx := At.three hX5; obtain ⟨xx0, xx1, xx2⟩ := xx; have hz5 := M5.out.keep0 Hz3.out))
          all_goals
            first
              | (obtain ⟨w6, hw6⟩ : ∃ w6 : World, w6 = w5.alloc (.cells #[.int .i64 sw, .int .i64 sv, .int .i64 sx] 28) := ⟨_, rfl⟩
                 obtain ⟨N6, hN6⟩ : ∃ N6, N6 = w5.heap.size := ⟨_, rfl⟩
                 rw [← hw6, ← hN6]
                 have HS6 := hid (show At w6 N6 (.cells #[.int .i64 sw, .int .i64 sv, .int .i64 sx] 28 (0, 0)) from by rw [hw6, hN6]; exact At.new _ _)
                 have M6 := hid (show Mod (fun _ => False) wr w6 from by rw [hw6]; exact M5.out.alloc _)
                 clear hw6 hN6 xx0 xx1 xx2 hz5 hX5)
              | (obtain ⟨w6, hw6⟩ : ∃ w6 : World, w6 = ((w5.setCell ⟨wr.heap.size, 0, none⟩ (.int .i64 sw)).setCell ⟨wr.heap.size, 1, none⟩ (.int .i64 sv)).setCell ⟨wr.heap.size, 2, none⟩ (.int .i64 sx) := ⟨_, rfl⟩
                 obtain ⟨N6, hN6⟩ : ∃ N6, N6 = wr.heap.size := ⟨_, rfl⟩
                 rw [← hw6, ← hN6]
                 have HS6 := hid (show At w6 N6 (.cells #[.int .i64 sw, .int .i64 sv, .int .i64 sx] 28 (0, 0)) from by rw [hw6, hN6]; exact At.put3 HZ5.out _ _ _)
                 have M6 := hid (show Mod (fun _ => False) wr w6 from by rw [hw6]; exact put_new (put_new (put_new M5.out (Nat.le_refl _) _ _) (Nat.le_refl _) _ _) (Nat.le_refl _) _ _)
                 clear hw6 hN6 xx0 xx1 xx2 hz5 hX5 hZ5 zz0 zz1 zz2 zf0 zf1 zf2 zl)
          all_goals
            have HX6 := hid (HXr.out.mod M6.out id)
            have hz6 := M6.out.keep0 Hz3.out
            have M26 := hid (hM.out.trans M6.out)
            clear x0 x1 x2 z3 nd1 nd2 nd3 nd4 HXl
            obtain ⟨x0, x1, x2⟩ := At.three HX6.out
            obtain ⟨s0, s1, s2⟩ := At.three HS6.out
            have HXl := HX6.out.lt
            have hcase : ¬ (0 : Int) < (k : Int) ∨ ((0 : Int) < (k : Int) ∧ ¬ lastv < sx) := by
              rcases Hbd.out with q | q
              · left; omega
              · by_cases e : (0 : Int) < (k : Int)
                · exact .inr ⟨e, by omega⟩
                · exact .inl e
            rcases hcase with q1 | ⟨q1, q2⟩
            all_goals
              go_wp2_with fail
              go_loopw [10] (fun s10 wx => ∃ (i : Nat) (uf' : List Bool), i ≤ t.length ∧ s10 = .int .i64 (i : Int) ∧ uf'.length = l.length ∧ Hid (∀ j, j < l.length → uf'.getD j true = (decide ((j : Int) ∈ t.take i) || uf.getD j true)) ∧
                  Hid (wx.ownsRow w2.heap.size 4 1 (.slice (some ⟨w2.heap.size, 0, none⟩) l.length l.length) l.length (uf'.map Value.bool)) ∧ Hid (Mod (fun _ => False) w2 wx))
                (fun s10 _ => t.length - (intOf s10).toNat)
              case atStart => exact ⟨0, uf, Nat.zero_le _, rfl, huf, hid (fun j _ => by simp), hid (own_mod0 hU.out M6.out), M26⟩
              case round =>
                obtain ⟨i, uf', hit, rfl, huf', hft, hU', hM'⟩ := hrel
                have ht16 := htl.out
                have hz := hM'.out.keep0 Hz2.out
                have hgl := World.block_lt_of_cell? _ _ hz
                by_cases hlt2 : i < t.length
                · obtain ⟨y, hy⟩ := getE hlt2
                  obtain ⟨q, hq, hqy⟩ := Hin.out y (List.mem_of_getElem? hy)
                  obtain ⟨jn, hj1, hj2⟩ := in_load hsub.out hq
                  have hjl := (List.getElem?_eq_some_iff.1 hj2).1
                  obtain rfl : y = (jn : Int) := by rw [← hqy, hj1]
                  obtain ⟨b5, o5, rfl, hb5, v0⟩ := (HI2.out.mod0 hM'.out).get hy
                  have hfj : uf'.getD jn true = false := by
                    rw [hft.out jn hjl, (hfl.out jn hjl).2 ⟨q, hq, hj1⟩, decide_eq_false (take_not Hpw.out hy)]
                    rfl
                  obtain ⟨z, hzz⟩ := getE (show jn < uf'.length by omega)
                  have hzf : z = false := by
                    rw [List.getD_eq_getElem?_getD, hzz] at hfj
                    exact hfj
                  subst hzf
                  have u0 := hU'.out.cells (g := w2.heap.size) rfl jn (.bool false) (by rw [List.getElem?_map, hzz]; rfl)
                  rw [add_plain] at u0
                  have uf0 := hU'.out.frozenAt jn
                  have ul := World.block_lt_of_cell? _ _ u0
                  have hjn0 : ¬ (jn : Int) < 0 := by omega
                  have hjn1 : (jn : Int) < (l.length : Int) := by omega
                  have hjn2 : ¬ (l.length : Int) ≤ (jn : Int) := by omega
                  have hi1 : (i : Int) < (t.length : Int) := by omega
                  have Hy := hid hy
                  clear hy hqy hj1 hj2 hfj hzz hq
                  go_wp2_with fail
                  go_roundw
                  case rel =>
                    refine ⟨i + 1, uf'.set jn true, by omega, by go_num, by rw [List.length_set]; exact huf', hid (fun j hj => ?_), hid (by rw [← bools_set]; exact (hU'.out.stored jn (.bool true)).1), hid (put_new hM'.out (Nat.le_refl _) _ _)⟩
                    rw [setT_getD (by omega), hft.out j hj]
                    by_cases e : jn = j
                    · subst e
                      rw [if_pos rfl, decide_eq_true ((take_succ_mem Hy.out _).2 (.inl rfl))]
                      rfl
                    · rw [if_neg e]
                      congr 1
                      rw [decide_eq_decide, take_succ_mem Hy.out]
                      constructor
                      · exact .inr
                      · rintro (q | q)
                        · omega
                        · exact q
                  case measure => simp [intOf]; omega
                · obtain rfl : i = t.length := by omega
                  have hft' := hft.out
                  rw [List.take_length] at hft'
                  have HF := hid (flags_next hfl.out hft')
                  clear hft' hft
                  go_wp2_with fail
                  go_roundw
                  case rel => exact ⟨k + 1, sx, some sx, L.filter (fun q => decide (q.2 ∉ t)), uf', by omega, rfl, by go_num, .inr rfl, huf', Hs5, HF, hid (List.filter_sublist.trans hsub.out), hU', hM'⟩
                  case measure => simp [intOf]; omega
        · obtain rfl : k = tr.length := by omega
          have hg := hgd.out
          rw [List.drop_length, Good_nil] at hg
          have Hg := hid hg
          clear hg hgd hbd
          go_wp2_with fail
          go_loopw [12] (fun s12 wx => ∃ j : Nat, j ≤ l.length ∧ s12 = .int .i64 (j : Int) ∧ Hid (wx.ownsRow w2.heap.size 4 1 (.slice (some ⟨w2.heap.size, 0, none⟩) l.length l.length) l.length (uf.map Value.bool)) ∧ Hid (Mod (fun _ => False) w2 wx)) (fun s12 _ => l.length - (intOf s12).toNat)
          case atStart => exact ⟨0, Nat.zero_le _, rfl, hU, hM⟩
          case round =>
            clear hU hM
            obtain ⟨j, hjl, rfl, hU, hM⟩ := hrel
            have hl9 := hn9.out
            by_cases hlt2 : j < l.length
            · obtain ⟨p, hp⟩ := getE hlt2
              obtain ⟨b9, o9, rfl, hb9, y0, y1, y2⟩ := (HP2.out.mod0 hM.out).get hp
              have HXr := hid (HX2.out.mod hM.out id)
              obtain ⟨x0, x1, x2⟩ := At.three HXr.out
              have hXl := HXr.out.lt
              obtain ⟨z, hzz⟩ := getE (show j < uf.length by omega)
              have u0 := hU.out.cells (g := w2.heap.size) rfl j (.bool z) (by rw [List.getElem?_map, hzz]; rfl)
              rw [add_plain] at u0
              have ul := World.block_lt_of_cell? _ _ u0
              have hj1 : (j : Int) < (l.length : Int) := by omega
              have hfj : z = false → ¬ (p.w ≤ W ∧ p.v ≤ V ∧ 0 < p.x) := by
                rintro rfl
                obtain ⟨q, hq, hqj⟩ := (hfl.out j hlt2).1 (by rw [List.getD_eq_getElem?_getD, hzz]; rfl)
                obtain ⟨jn, h1, h2⟩ := in_load hsub.out hq
                obtain rfl : jn = j := by omega
                rw [hp] at h2
                obtain rfl := Option.some.inj h2
                exact Hg.out q hq
              have hfc : z = true ∨ (z = false ∧ ¬ p.w ≤ W) ∨ (z = false ∧ p.w ≤ W ∧ ¬ p.v ≤ V) ∨ (z = false ∧ p.w ≤ W ∧ p.v ≤ V ∧ ¬ (0 : Int) < p.x) := by
                cases z with
                | true => exact .inl rfl
                | false =>
                  have := hfj rfl
                  by_cases a : p.w ≤ W
                  · by_cases b : p.v ≤ V
                    · exact .inr (.inr (.inr ⟨rfl, a, b, fun e => this ⟨a, b, e⟩⟩))
                    · exact .inr (.inr (.inl ⟨rfl, a, b⟩))
                  · exact .inr (.inl ⟨rfl, a⟩)
              clear hp hzz hfj
              rcases hfc with rfl | ⟨rfl, a1⟩ | ⟨rfl, a1, a2⟩ | ⟨rfl, a1, a2, a3⟩
              all_goals
                go_wp2_with fail
                go_roundw
                case rel => exact ⟨j + 1, by omega, by go_num, hid (hU.out.alloc _), hid (hM.out.alloc _)⟩
                case measure => simp [intOf]; omega
            · obtain rfl : j = l.length := by omega
              go_wp2_with fail
              refine (awake_c _).mono ?_
              rintro e w5 ⟨rfl, m5⟩
              go_wp2_with fail
              go_ret
              exact ⟨rfl, ((M2.out.trans hM.out).trans m5).low⟩
end Go.Proofs.Ytdnodloinlijaaa
