/- The specification's Trips. -/
import Derived.Test.YtdnodloinlijaaaBests
import Derived.Laws.OwnMore
namespace Go.Proofs.Ytdnodloinlijaaa
open Go.RowKit
set_option linter.unusedVariables false
set_option linter.unusedSimpArgs false

def clearB (lf : List Bool) (x : List Int) : List Bool := x.foldl (fun f j => f.set j.toNat false) lf
theorem clearB_cons (lf : List Bool) (a : Int) (x : List Int) : clearB lf (a :: x) = clearB (lf.set a.toNat false) x := rfl
theorem clearB_len : ∀ (x : List Int) (lf : List Bool), (clearB lf x).length = lf.length
  | [], lf => rfl
  | a :: x, lf => by rw [clearB_cons, clearB_len x, List.length_set]
def rtripsGo (l : List Pc) (W V : Int) : Nat → List Bool → List (List Int)
  | 0, _ => []
  | m + 1, lf => if rbestF l lf W V = [] then [] else rbestF l lf W V :: rtripsGo l W V m (clearB lf (rbestF l lf W V))
theorem rtripsGo_succ (l : List Pc) (W V : Int) (m : Nat) (lf : List Bool) : rtripsGo l W V (m + 1) lf = if rbestF l lf W V = [] then [] else rbestF l lf W V :: rtripsGo l W V m (clearB lf (rbestF l lf W V)) := rfl
theorem Lr_sub (left : List Bool) : ∀ (r : List Pc) (i : Nat), List.Sublist (Lr left r i) ((r.zipIdx i).map (fun q => (q.1, (q.2 : Int))))
  | [], i => List.Sublist.slnil
  | p :: r, i => by
    rw [Lr_cons]
    have := Lr_sub left r (i + 1)
    simp only [List.zipIdx_cons, List.map_cons]
    split
    · exact this.cons_cons _
    · exact this.cons _
theorem Lr_sub0 (left : List Bool) (l : List Pc) : List.Sublist (Lr left l 0) (withIdx l) := Lr_sub left l 0
theorem Lr_range {left : List Bool} {l : List Pc} {q : Pc × Int} (h : q ∈ Lr left l 0) : 0 ≤ q.2 ∧ q.2 < l.length := by
  have := (Lr_sub0 left l).subset h
  unfold withIdx at this
  obtain ⟨z, hz, rfl⟩ := List.mem_map.1 this
  have := List.mem_zipIdx hz
  simp only
  omega
theorem rbestF_range {l : List Pc} {lf : List Bool} {W V : Int} : ∀ j ∈ rbestF l lf W V, 0 ≤ j ∧ j < l.length := by
  intro j hj
  obtain ⟨i1, _⟩ := bestB_spec l lf W V (2 ^ l.length) 0 ([], zeroP)
  unfold rbestF at hj
  rcases i1 with e | ⟨k', _, _, h3, _⟩
  · rw [e] at hj
    simp at hj
  · obtain ⟨M, a, b⟩ := loadF_sub h3
    rw [b] at hj
    obtain ⟨q, hq, rfl⟩ := List.mem_map.1 hj
    exact Lr_range (a.subset hq)
theorem Lr_len (left : List Bool) (l : List Pc) : (Lr left l 0).length ≤ l.length := by
  have := (Lr_sub0 left l).length_le
  rwa [withIdx_len] at this
theorem rbestF_len {l : List Pc} {lf : List Bool} {W V : Int} : (rbestF l lf W V).length ≤ l.length := by
  obtain ⟨i1, _⟩ := bestB_spec l lf W V (2 ^ l.length) 0 ([], zeroP)
  unfold rbestF
  rcases i1 with e | ⟨k', _, _, h3, _⟩
  · rw [e]
    simp
  · obtain ⟨M, a, b⟩ := loadF_sub h3
    rw [b]
    have := a.length_le
    have := Lr_len lf l
    simp only [List.length_map]
    omega
theorem Rows2.far {N B : Nat} {w w' : World} {v v2 : Value} {T : List (List Int)} {n2 s2 : Nat} {xs2 : List Value} (h : Rows2 N w v T) (h2 : w.ownsRow B 4 s2 v2 n2 xs2) (m : Mod (fun q => v2.ownBlock = some q) w w') : Rows2 N w' v T := by
  obtain ⟨xs, h3, h4⟩ := h
  exact ⟨xs, own_far h3 h2 (by decide) m, fun i t hi => by
    obtain ⟨x, h5, h6⟩ := h4 i t hi
    exact ⟨x, h5, own_far h6 h2 (by decide) m⟩⟩
theorem map_set_bool (lf : List Bool) (j : Nat) : (lf.map Value.bool).set j (.bool false) = (lf.set j false).map Value.bool := by rw [List.map_set]
def rtripsR (l : List Pc) (W V : Int) : List (List Int) := if checkF l W V = 0 then rtripsGo l W V l.length (List.replicate l.length true) else []

set_option maxRecDepth 100000 in
set_option maxHeartbeats 4000000 in
theorem rtrips_c (A : Option Addr) (c : Nat) (l : List Pc) (W V : Int) (w : World) (h : Ps w A l) :
    Calls Try.prog 19 #[.slice A l.length c, .int .i64 W, .int .i64 V] w fun e w' => ∃ B d, e = .returned (.tuple #[.slice B (rtripsR l W V).length d, .int .i64 (checkF l W V)]) ∧
      Rows2 w.heap.size w' (.slice B (rtripsR l W V).length d) (rtripsR l W V) ∧ Mod (fun _ => False) w w' := by
  have hck := rcheck_c A c l W V w h
  by_cases hc : checkF l W V = 0
  rotate_left
  · have e : rtripsR l W V = [] := by rw [rtripsR, if_neg hc]
    rw [e]
    clear e
    generalize checkF l W V = r at hc hck
    go_enter Try.func19, Try.ntmps19
    go_wp2_with fail
    refine hck.mono ?_
    rintro e w1 ⟨rfl, m1⟩
    go_wp2_with fail
    go_ret2
    exact ⟨none, 0, rfl, Rows2.nil _ _, m1⟩
  · have e : rtripsR l W V = rtripsGo l W V l.length (List.replicate l.length true) := by rw [rtripsR, if_pos hc]
    rw [e, hc]
    rw [hc] at hck
    obtain ⟨h16, hW, hV, hok⟩ := checkF_ok hc
    obtain ⟨T, hT⟩ : ∃ T, T = rtripsGo l W V l.length (List.replicate l.length true) := ⟨_, rfl⟩
    rw [← hT]
    have HT := hid hT
    have Hok := hid hok
    have HP := hid h
    clear e hc hT hok h
    go_enter Try.func19, Try.ntmps19
    go_wp2_with fail
    refine hck.mono ?_
    rintro e w1 ⟨rfl, m1⟩
    have M1 := hid m1
    clear hck m1
    go_wp2_with fail
    refine (all_c l.length w1 h16).mono ?_
    rintro e w2 ⟨AL, cL, rfl, hB2, m2⟩
    have HB2 := hid (own_down hB2 M1.out.size)
    have M2 := hid (M1.out.trans m2)
    clear hB2 m2
    by_cases hn0 : l.length = 0
    · have hk1 : ¬ (0 : Int) < (l.length : Int) := by omega
      have hg := HT.out
      rw [hn0] at hg
      have hg : T = [] := hg
      subst hg
      clear HB2
      go_wp2_with fail
      go_loopw [10, 11] (fun s10 s11 wr => s10 = .slice none 0 0 ∧ s11 = .int .i64 0 ∧ Hid (Mod (fun _ => False) w wr)) (fun _ _ _ => 0)
      case atStart => exact ⟨rfl, rfl, M2⟩
      case round =>
        obtain ⟨rfl, rfl, hM⟩ := hrel
        go_wp2_with fail
        go_ret2
        exact ⟨none, 0, rfl, Rows2.nil _ _, hM.out⟩
    obtain ⟨G, hvG⟩ : ∃ G, AL = some ⟨G, 0, none⟩ := by
      obtain ⟨G, capG, hvG, hGN, _⟩ := HB2.out.form (by omega)
      injection hvG with hA _ _
      exact ⟨G, hA⟩
    subst hvG
    have Hn0 := hid hn0
    clear hn0
    go_wp2_with fail
    go_loopw [10, 11] (fun s10 s11 wr => ∃ (k m : Nat) (lf : List Bool) (tr : List (List Int)) (A10 : Option Addr) (c10 : Nat), k + m = l.length ∧ s11 = .int .i64 (k : Int) ∧ s10 = .slice A10 tr.length c10 ∧ lf.length = l.length ∧ tr.length ≤ k ∧ Hid (tr ++ rtripsGo l W V m lf = T) ∧
        Hid (wr.ownsRow w.heap.size 4 1 (.slice (some ⟨G, 0, none⟩) l.length cL) l.length (lf.map Value.bool)) ∧ Hid (Rows2 w.heap.size wr s10 tr) ∧ Hid (Mod (fun _ => False) w wr))
      (fun _ s11 _ => l.length - (intOf s11).toNat)
    case atStart => exact ⟨0, l.length, List.replicate l.length true, [], none, 0, by omega, rfl, rfl, by simp, Nat.le_refl _, hid HT.out.symm, HB2, hid (Rows2.nil _ _), M2⟩
    case round =>
      clear HB2 M2
      obtain ⟨k, m, lf, tr, A10, c10, hkm, rfl, rfl, hlf, htr, hgo, hL, hRw, hM⟩ := hrel
      by_cases hlt : k < l.length
      · cases m with
        | zero => omega
        | succ m =>
        have hk1 : (k : Int) < (l.length : Int) := by omega
        have hg := hgo.out
        rw [rtripsGo_succ] at hg
        have hb := rbest_c A c l (some ⟨G, 0, none⟩) cL lf W V wr (HP.out.mod0 hM.out) (Bs.own hL.out) h16 Hok.out hlf
        have hrg : ∀ j ∈ rbestF l lf W V, 0 ≤ j ∧ j < l.length := rbestF_range
        have hxl : (rbestF l lf W V).length ≤ l.length := rbestF_len
        generalize rbestF l lf W V = x at hg hb hrg hxl
        have Hg := hid hg
        have Hrg := hid hrg
        clear hg hgo hrg
        go_wp2_with fail
        refine hb.mono ?_
        rintro e w3 ⟨A3, c3, rfl, hx, m3⟩
        clear hb
        have HX3 := hid hx
        have HL3 := hid (own_mod0 hL.out m3)
        have HR3 := hid (hRw.out.mod0 m3)
        have M3 := hid (hM.out.trans m3)
        have hsz := m3.size
        have HXd := hid (own_down hx hM.out.size)
        clear hx m3 hL hRw hM
        by_cases hx0 : x = []
        · subst hx0
          have hg := Hg.out
          rw [if_pos rfl, List.append_nil] at hg
          subst hg
          go_wp2_with fail
          go_ret2
          exact ⟨A10, c10, rfl, HR3.out, M3.out⟩
        · have hxp : ¬ (x.length : Int) = 0 := by
            have := List.length_pos_iff.2 hx0
            omega
          have hxb : ((x.length : Int) == 0) = false := by
            rw [beq_eq_false_iff_ne]
            exact hxp
          have hg := Hg.out
          rw [if_neg hx0] at hg
          have Hg2 := hid hg
          clear hg Hg
          have hRx := hid (HR3.out.mod0 ((Mod.refl _ w3).alloc (.cells #[.slice A3 x.length c3] 25)))
          have hyx := hid (own_mod0 HXd.out ((Mod.refl _ w3).alloc (.cells #[.slice A3 x.length c3] 25)))
          have hLx := hid (own_mod0 HL3.out ((Mod.refl _ w3).alloc (.cells #[.slice A3 x.length c3] 25)))
          have Mx := hid (M3.out.alloc (.cells #[.slice A3 x.length c3] 25))
          go_wp2_with (first | (at_builtin; refine wpList_trip (w := w) rfl (.tmp 38) (.tmp 40) rfl (.slice A10 tr.length c10) tr x (.slice A3 x.length c3) w3.heap.size hRx.out hyx.out (At.new _ _) (by omega) Mx.out rfl rfl ?_))
          intro g cg w6 hRn hmg hmod
          have HL6 := hid (show w6.ownsRow w.heap.size 4 1 (.slice (some ⟨G, 0, none⟩) l.length cL) l.length (lf.map Value.bool) from by
            obtain ⟨xs, h1, _⟩ := hRx.out
            exact own_far hLx.out h1 (by decide) hmg.out)
          have HX6 := hid (show w6.ownsRow w.heap.size 3 1 (.slice A3 x.length c3) x.length (x.map intV) from by
            obtain ⟨xs, h1, _⟩ := hRx.out
            exact own_far hyx.out h1 (by decide) hmg.out)
          clear hRx hyx hLx Mx hmg HX3 HL3 HR3 M3 HXd hsz
          go_wp2_with fail
          go_loopw [13] (fun s13 wx => ∃ (i : Nat) (lf' : List Bool), i ≤ x.length ∧ s13 = .int .i64 (i : Int) ∧ lf'.length = l.length ∧ Hid (clearB lf' (x.drop i) = clearB lf x) ∧
              Hid (wx.ownsRow w.heap.size 4 1 (.slice (some ⟨G, 0, none⟩) l.length cL) l.length (lf'.map Value.bool)) ∧ Hid (Mod (fun q => (Value.slice (some ⟨G, 0, none⟩) l.length cL).ownBlock = some q) w6 wx))
            (fun s13 _ => x.length - (intOf s13).toNat)
          case atStart => exact ⟨0, lf, Nat.zero_le _, rfl, hlf, hid (by rw [List.drop_zero]), HL6, hid (Mod.refl _ _)⟩
          case round =>
            obtain ⟨i, lf', hix, rfl, hlf', hcl, hL', hM'⟩ := hrel
            by_cases hlt2 : i < x.length
            · obtain ⟨y, hy⟩ := getE hlt2
              obtain ⟨hy0, hy1⟩ := Hrg.out y (List.mem_of_getElem? hy)
              obtain ⟨yn, rfl⟩ := Int.eq_ofNat_of_zero_le hy0
              obtain ⟨b3, o3, rfl, hb3, v0⟩ := (Is.own (own_far HX6.out HL6.out (by decide) hM'.out)).get hy
              have hix1 : (i : Int) < (x.length : Int) := by omega
              obtain ⟨z, hz⟩ := getE (show yn < lf'.length by omega)
              have hz1 := hL'.out.cells (g := G) rfl yn (.bool z) (by rw [List.getElem?_map, hz]; rfl)
              rw [add_plain] at hz1
              have hzf := hL'.out.frozenAt yn
              have hGl' : G < ‹World›.heap.size := World.block_lt_of_cell? _ _ hz1
              have hc := hcl.out
              rw [drop_at hy, clearB_cons, Int.toNat_natCast] at hc
              have Hc := hid hc
              clear hc hcl hz hy hy0
              go_wp2_with fail
              go_roundw
              case rel => exact ⟨i + 1, lf'.set yn false, by omega, by go_num, by rw [List.length_set]; exact hlf', Hc, hid (by rw [← map_set_bool]; exact (hL'.out.stored yn (.bool false)).1), hid (hM'.out.put _ (fun _ => rfl))⟩
              case measure => simp [intOf]; omega
            · obtain rfl : i = x.length := by omega
              have hc := hcl.out
              rw [List.drop_length] at hc
              have hc : lf' = clearB lf x := hc
              subst hc
              have HRn := hid (hRn.out.far HL6.out hM'.out)
              have HMn := hid (hmod.out.trans' hM'.out (fun q hq e => by have := own_base HL6.out e; omega))
              clear hcl hM'
              go_wp2_with fail
              go_roundw
              case rel => exact ⟨k + 1, m, clearB lf x, tr ++ [x], some ⟨g, 0, none⟩, cg, by omega, by go_num, by rw [List.length_append]; rfl, by rw [clearB_len]; exact hlf, by rw [List.length_append, List.length_singleton]; omega, hid (by have := Hg2.out; rw [List.append_assoc]; exact this), hL', HRn, HMn⟩
              case measure => simp [intOf]; omega
      · have hm0 : m = 0 := by omega
        subst hm0
        have hk1 : ¬ (k : Int) < (l.length : Int) := by omega
        have hg := hgo.out
        rw [rtripsGo, List.append_nil] at hg
        subst hg
        go_wp2_with fail
        go_ret2
        exact ⟨A10, c10, rfl, hRw.out, hM.out⟩
end Go.Proofs.Ytdnodloinlijaaa
