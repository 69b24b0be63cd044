/- The specification's best. -/
import Derived.Test.YtdnodloinlijaaaRload
namespace Go.Proofs.Ytdnodloinlijaaa
open Go.RowKit
set_option linter.unusedVariables false
set_option linter.unusedSimpArgs false

def betterB (W V : Int) (st : List Int × Pc) (r : Option (List Int × Pc)) : List Int × Pc :=
  match r with
  | none => st
  | some q => if W < q.2.w ∨ V < q.2.v then st else if st.2.x < q.2.x ∨ (q.2.x = st.2.x ∧ bef q.1 st.1 = true) then q else st
def bestB (l : List Pc) (left : List Bool) (W V : Int) : Nat → Nat → List Int × Pc → List Int × Pc
  | 0, _, st => st
  | m + 1, k, st => bestB l left W V m (k + 1) (betterB W V st (loadF l left k))
def rbestF (l : List Pc) (left : List Bool) (W V : Int) : List Int := (bestB l left W V (2 ^ l.length) 0 ([], zeroP)).1
theorem bestB_succ (l : List Pc) (left : List Bool) (W V : Int) (m k : Nat) (st : List Int × Pc) : bestB l left W V (m + 1) k st = bestB l left W V m (k + 1) (betterB W V st (loadF l left k)) := rfl
theorem loadGo_len (left : List Bool) : ∀ (l : List Pc) (i bits : Nat) (acc r : List Int × Pc), loadGo left l i bits acc = some r → r.1.length ≤ acc.1.length + l.length
  | [], i, bits, acc, r, h => by
    simp [loadGo] at h
    subst h
    simp
  | p :: l, i, bits, acc, r, h => by
    rw [loadGo_cons] at h
    split at h
    · have := loadGo_len left l (i + 1) bits acc r h
      simp only [List.length_cons]; omega
    · split at h
      · have := loadGo_len left l (i + 1) bits _ r h
        simp only [List.length_append, List.length_cons, List.length_nil] at this ⊢; omega
      · cases h
theorem loadF_len {l : List Pc} {left : List Bool} {bits : Nat} {r : List Int × Pc} (h : loadF l left bits = some r) : r.1.length ≤ l.length := by
  have := loadGo_len left l 0 bits _ r h
  simpa using this

set_option maxRecDepth 100000 in
set_option maxHeartbeats 4000000 in
theorem rbest_c (A : Option Addr) (c : Nat) (l : List Pc) (B : Option Addr) (d : Nat) (left : List Bool) (W V : Int) (w : World) (h : Ps w A l) (h2 : Bs w B left) (h16 : l.length ≤ 16) (hok : l.all okP = true) (hll : left.length = l.length) :
    Calls Try.prog 27 #[.slice A l.length c, .slice B l.length d, .int .i64 W, .int .i64 V] w fun e w' => ∃ A' c', e = .returned (.slice A' (rbestF l left W V).length c') ∧
      w'.ownsRow w.heap.size 3 1 (.slice A' (rbestF l left W V).length c') (rbestF l left W V).length ((rbestF l left W V).map intV) ∧ Mod (fun _ => False) w w' := by
  obtain ⟨T, hT⟩ : ∃ T, T = bestB l left W V (2 ^ l.length) 0 ([], zeroP) := ⟨_, rfl⟩
  have hTT : rbestF l left W V = T.1 := by rw [hT]; rfl
  rw [hTT]
  have HT := hid hT
  have HP := hid h
  have HB := hid h2
  have Hok := hid hok
  have Hll := hid hll
  clear hT hTT h h2 hok hll
  have hpw : 2 ^ l.length ≤ 65536 := by
    have := Nat.pow_le_pow_right (n := 2) (by decide) h16
    simpa using this
  obtain ⟨N, hN⟩ : ∃ N, N = 2 ^ l.length := ⟨_, rfl⟩
  rw [← hN] at hpw
  have hwp : wrap64 ((2 : Int) ^ l.length) = (N : Int) := by
    have e : ((2 : Int) ^ l.length) = (N : Int) := by rw [hN]; norm_cast
    rw [e]
    exact IntWalk.wrap64_in _ (by omega)
  rw [← hN] at HT
  clear hN
  obtain ⟨w1, hw1⟩ : ∃ w1 : World, w1 = w.alloc (.cells #[.slice none 0 0, .int .i64 0, .int .i64 0, .int .i64 0, .bool true] 56) := ⟨_, rfl⟩
  have M1 := hid (show Mod (fun _ => False) w w1 from by rw [hw1]; exact (Mod.refl _ _).alloc _)
  have HR1 := hid (show At w1 w.heap.size (.cells #[.slice none 0 0, .int .i64 0, .int .i64 0, .int .i64 0, .bool true] 56 (0, 0)) from by rw [hw1]; exact At.new _ _)
  have Hw1 := hid hw1
  clear hw1
  go_enter Try.func27, Try.ntmps27
  go_upto_region 2 with fail
  rw [← Hw1.out]
  clear Hw1
  go_wp2_with fail
  go_loopw [10] (fun s10 wr => ∃ (k m : Nat) (st : List Int × Pc) (A3 : Option Addr) (c3 : Nat), k + m = N ∧ s10 = .int .i64 (k : Int) ∧ Hid (bestB l left W V m k st = T) ∧
      Hid (At wr w.heap.size (.cells #[.slice A3 st.1.length c3, .int .i64 st.2.w, .int .i64 st.2.v, .int .i64 st.2.x, .bool true] 56 (0, 0))) ∧
      Hid (wr.ownsRow w.heap.size 3 1 (.slice A3 st.1.length c3) st.1.length (st.1.map intV)) ∧ Hid (Mod (fun _ => False) w wr))
    (fun s10 _ => N - (intOf s10).toNat)
  case atStart => exact ⟨0, N, ([], zeroP), none, 0, by omega, rfl, hid HT.out.symm, HR1, hid (World.ownsRow_nil _ _ _ _), M1⟩
  case round =>
    clear HR1 M1
    obtain ⟨k, m, ⟨S, ⟨sw, sv, sx⟩⟩, A3, c3, hkm, rfl, hgo, hR, hown, hM⟩ := hrel
    simp only at hR hown hgo
    obtain ⟨r0, r1, r2, r3, r4⟩ := At.five hR.out
    have hRl := hR.out.lt
    by_cases hlt : k < N
    · cases m with
      | zero => omega
      | succ m =>
      have hk1 : (k : Int) < (N : Int) := by omega
      have hg := hgo.out
      rw [bestB_succ] at hg
      have hload := load_c A c l B d left k wr (HP.out.mod0 hM.out) (HB.out.mod0 hM.out) h16 Hok.out Hll.out (by omega)
      have hlen := fun r (h : loadF l left k = some r) => loadF_len h
      generalize loadF l left k = r at hg hload hlen
      have Hlen := hid hlen
      have Hg := hid hg
      clear hg hgo hlen
      go_wp2_with fail
      refine hload.mono ?_
      rintro e w3 ⟨v, rfl, hch, m3⟩
      clear hload
      cases r with
      | none =>
        obtain ⟨A4, c4, hv, _⟩ := hch
        have hv : v = .agg #[.slice A4 0 c4, .int .i64 0, .int .i64 0, .int .i64 0, .bool false] := hv
        subst hv
        obtain ⟨w4, hw4⟩ : ∃ w4 : World, w4 = w3.alloc (.cells #[.slice A4 0 c4, .int .i64 0, .int .i64 0, .int .i64 0, .bool false] 56) := ⟨_, rfl⟩
        have m34 := hid (show Mod (fun _ => False) wr w4 from by rw [hw4]; exact m3.alloc _)
        have HC4 := hid (show At w4 w3.heap.size (.cells #[.slice A4 0 c4, .int .i64 0, .int .i64 0, .int .i64 0, .bool false] 56 (0, 0)) from by rw [hw4]; exact At.new _ _)
        have HR4 := hid (hR.out.mod m34.out id)
        have Ho4 := hid (own_mod0 hown.out m34.out)
        have M4 := hid (hM.out.trans m34.out)
        have Hw4 := hid hw4
        clear hw4 m3 r0 r1 r2 r3 r4
        obtain ⟨c0, c1, c2, c3', c4'⟩ := At.five HC4.out
        go_upto_region 6 with fail
        rw [← Hw4.out]
        clear Hw4
        go_wp2_with fail
        go_roundw
        case rel => exact ⟨k + 1, m, (S, ⟨sw, sv, sx⟩), A3, c3, by omega, by go_num, Hg, HR4, Ho4, M4⟩
        case measure => simp [intOf]; omega
      | some q =>
        obtain ⟨S', ⟨tw, tv, tx⟩⟩ := q
        obtain ⟨A4, c4, hv, ho4⟩ := hch
        have hv : v = .agg #[.slice A4 S'.length c4, .int .i64 tw, .int .i64 tv, .int .i64 tx, .bool true] := hv
        have ho4 : w3.ownsRow wr.heap.size 3 1 (.slice A4 S'.length c4) S'.length (S'.map intV) := ho4
        have hS16 : S'.length ≤ 1000 := by have := Hlen.out _ rfl; simp only at this; omega
        have HS16 := hid hS16
        clear hS16
        subst hv
        obtain ⟨w4, hw4⟩ : ∃ w4 : World, w4 = w3.alloc (.cells #[.slice A4 S'.length c4, .int .i64 tw, .int .i64 tv, .int .i64 tx, .bool true] 56) := ⟨_, rfl⟩
        have m34 := hid (show Mod (fun _ => False) wr w4 from by rw [hw4]; exact m3.alloc _)
        have HC4 := hid (show At w4 w3.heap.size (.cells #[.slice A4 S'.length c4, .int .i64 tw, .int .i64 tv, .int .i64 tx, .bool true] 56 (0, 0)) from by rw [hw4]; exact At.new _ _)
        have HR4 := hid (hR.out.mod m34.out id)
        have Ho4 := hid (own_mod0 hown.out m34.out)
        have Hn4 := hid (show w4.ownsRow w.heap.size 3 1 (.slice A4 S'.length c4) S'.length (S'.map intV) from by rw [hw4]; exact own_down (ho4.alloc _) hM.out.size)
        have M4 := hid (hM.out.trans m34.out)
        have Hw4 := hid hw4
        clear hw4 m3 r0 r1 r2 r3 r4 ho4
        obtain ⟨c0, c1, c2, c3', c4'⟩ := At.five HC4.out
        obtain ⟨r0, r1, r2, r3, r4⟩ := At.five HR4.out
        have hCl4 := HC4.out.lt
        have hRl4 := HR4.out.lt
        go_upto_region 6 with fail
        rw [← Hw4.out]
        clear Hw4
        by_cases hbad : W < tw ∨ V < tv
        · have hg := Hg.out
          rw [betterB] at hg
          simp only [if_pos hbad] at hg
          have Hg := hid hg
          clear hg
          have hbad' : W < tw ∨ (¬ W < tw ∧ V < tv) := by omega
          clear hbad
          rcases hbad' with q1 | ⟨q1, q2⟩
          all_goals
            go_wp2_with fail
            go_roundw
            case rel => exact ⟨k + 1, m, (S, ⟨sw, sv, sx⟩), A3, c3, by omega, by go_num, Hg, HR4, Ho4, M4⟩
            case measure => simp [intOf]; omega
        · have q1 : ¬ W < tw := fun q => hbad (.inl q)
          have q2 : ¬ V < tv := fun q => hbad (.inr q)
          have hg := Hg.out
          rw [betterB] at hg
          simp only [if_neg hbad] at hg
          have Hg := hid hg
          clear hg hbad
          go_upto_region 7 with fail
          by_cases hx : sx < tx
          · have hg := Hg.out
            rw [if_pos (.inl hx)] at hg
            have Hg9 := hid hg
            clear Hg
            have hx' : tx > sx := hx
            clear hg q1 q2
            have rf := HR4.out.free
            have rf0 := rf 0
            have rf1 := rf 1
            have rf2 := rf 2
            have rf3 := rf 3
            have rf4 := rf 4
            clear rf
            go_wp2_with fail
            go_roundw
            case rel => exact ⟨k + 1, m, (S', ⟨tw, tv, tx⟩), A4, c4, by omega, by go_num, Hg9, hid (((((HR4.out.put 0 _).put 1 _).put 2 _).put 3 _).put 4 _), hid (own_store56 (own_store56 (own_store56 (own_store56 (own_store56 Hn4.out HR4.out) (HR4.out.put _ _)) ((HR4.out.put _ _).put _ _)) (((HR4.out.put _ _).put _ _).put _ _)) ((((HR4.out.put _ _).put _ _).put _ _).put _ _)), hid (put_new (put_new (put_new (put_new (put_new M4.out (Nat.le_refl _) _ _) (Nat.le_refl _) _ _) (Nat.le_refl _) _ _) (Nat.le_refl _) _ _) (Nat.le_refl _) _ _)⟩
            case measure => simp [intOf]; omega
          · by_cases hxe : tx = sx
            · subst hxe
              have hbf := rbefore_c A4 A3 c4 c3 S' S w4 (Is.own Hn4.out) (Is.own Ho4.out) HS16.out
              cases hbb : bef S' S with
              | true =>
                have hg := Hg.out
                rw [if_pos (.inr ⟨rfl, hbb⟩)] at hg
                have Hg9 := hid hg
                clear Hg
                rw [hbb] at hbf
                clear hg q1 q2 hbb
                go_wp2_with fail
                refine hbf.mono ?_
                rintro e w5 ⟨rfl, m5⟩
                have HC5 := hid (HC4.out.mod m5 id)
                have HR5 := hid (HR4.out.mod m5 id)
                have Hn5 := hid (own_mod0 Hn4.out m5)
                have M5 := hid (M4.out.trans m5)
                clear c0 c1 c2 c3' c4' r0 r1 r2 r3 r4 m5 hbf
                obtain ⟨c0, c1, c2, c3', c4'⟩ := At.five HC5.out
                obtain ⟨r0, r1, r2, r3, r4⟩ := At.five HR5.out
                have hCl5 := HC5.out.lt
                have hRl5 := HR5.out.lt
                have rf := HR5.out.free
                have rf0 := rf 0
                have rf1 := rf 1
                have rf2 := rf 2
                have rf3 := rf 3
                have rf4 := rf 4
                clear rf
                go_wp2_with fail
                go_roundw
                case rel => exact ⟨k + 1, m, (S', ⟨tw, tv, tx⟩), A4, c4, by omega, by go_num, Hg9, hid (((((HR5.out.put 0 _).put 1 _).put 2 _).put 3 _).put 4 _), hid (own_store56 (own_store56 (own_store56 (own_store56 (own_store56 Hn5.out HR5.out) (HR5.out.put _ _)) ((HR5.out.put _ _).put _ _)) (((HR5.out.put _ _).put _ _).put _ _)) ((((HR5.out.put _ _).put _ _).put _ _).put _ _)), hid (put_new (put_new (put_new (put_new (put_new M5.out (Nat.le_refl _) _ _) (Nat.le_refl _) _ _) (Nat.le_refl _) _ _) (Nat.le_refl _) _ _) (Nat.le_refl _) _ _)⟩
                case measure => simp [intOf]; omega
              | false =>
                have hg := Hg.out
                rw [if_neg (fun e => by rcases e with e | ⟨_, e⟩; exact hx e; rw [hbb] at e; cases e)] at hg
                have Hg9 := hid hg
                clear Hg
                rw [hbb] at hbf
                clear hg q1 q2 hbb
                go_wp2_with fail
                refine hbf.mono ?_
                rintro e w5 ⟨rfl, m5⟩
                have HR5 := hid (HR4.out.mod m5 id)
                have Ho5 := hid (own_mod0 Ho4.out m5)
                have M5 := hid (M4.out.trans m5)
                clear c0 c1 c2 c3' c4' r0 r1 r2 r3 r4 m5 hbf
                go_wp2_with fail
                go_roundw
                case rel => exact ⟨k + 1, m, (S, ⟨sw, sv, tx⟩), A3, c3, by omega, by go_num, Hg9, HR5, Ho5, M5⟩
                case measure => simp [intOf]; omega
            · have hg := Hg.out
              rw [if_neg (fun e => by rcases e with e | ⟨e, _⟩; exact hx e; exact hxe e)] at hg
              have Hg9 := hid hg
              clear Hg
              have hxb : (tx == sx) = false := by rw [beq_eq_false_iff_ne]; exact hxe
              clear hg q1 q2
              go_wp2_with fail
              go_roundw
              case rel => exact ⟨k + 1, m, (S, ⟨sw, sv, sx⟩), A3, c3, by omega, by go_num, Hg9, HR4, Ho4, M4⟩
              case measure => simp [intOf]; omega
    · have hm0 : m = 0 := by omega
      subst hm0
      have hk1 : ¬ (k : Int) < (N : Int) := by omega
      have hg := hgo.out
      rw [bestB] at hg
      subst hg
      go_wp2_with fail
      go_ret
      exact ⟨A3, c3, rfl, hown.out, hM.out⟩
end Go.Proofs.Ytdnodloinlijaaa
