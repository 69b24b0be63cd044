/- The law YardFinds: its walk. -/
import Derived.Test.YtknijmhhlfooaaaPlay
namespace Go.Proofs.Ytknijmhhlfooaaa
open Go.RowKit
set_option linter.unusedVariables false
set_option linter.unusedSimpArgs false

theorem Ages.flat_names {puts : Int} {bays : List (List Pc)} {ag : List Pc} (h : Ages puts bays ag) : bays.flatten.Pairwise (fun x y => x.1 ≠ y.1) :=
  (h.perm.pairwise_iff (fun h => Ne.symm h)).2 h.names
theorem getD_eq {bays : List (List Pc)} {i : Nat} (hi : i < bays.length) : bays.getD i [] = bays[i] := by simp [List.getD_eq_getElem?_getD, hi]
/-- An item that lies somewhere is found there. -/
theorem find_at {bays : List (List Pc)} (h : bays.flatten.Pairwise (fun x y => x.1 ≠ y.1)) {i k : Nat} (hi : i < bays.length) (hk : k < (bays.getD i []).length) :
    find bays ((bays.getD i [])[k]'hk).1 = ((i : Int), ((bays.getD i []).length : Int) - 1 - k, true) := by
  rw [List.pairwise_flatten] at h
  obtain ⟨h1, h2⟩ := h
  have e := findF_hit ((bays.getD i [])[k]'hk).1 bays 0 i k hi hk rfl (fun j hj x hx => ?_) (fun j hj => ?_)
  · rw [show find bays _ = _ from e, Nat.zero_add]
  · have hj' : j < bays.length := by omega
    rw [getD_eq hj'] at hx
    have := List.pairwise_iff_getElem.1 h2 j i hj' hi hj
    refine this x hx _ ?_
    rw [← getD_eq hi]
    exact List.getElem_mem hk
  · have := h1 (bays.getD i []) (by rw [getD_eq hi]; exact List.getElem_mem hi)
    exact List.pairwise_iff_getElem.1 this j k (by omega) hk hj

def isIt (it : ByteArray) (x : Pc) : Bool := decide (x.1 = it)
theorem find_any (it : ByteArray) (bays : List (List Pc)) : (find bays it).2.2 = bays.flatten.any (isIt it) ∧ ((find bays it).2.2 = false → (find bays it).1 = 0 ∧ (find bays it).2.1 = 0) := by
  rcases find_cases it bays 0 with ⟨h1, h2⟩ | ⟨i, k, hi, hk, he, ⟨x, hx, hxi⟩, _⟩
  · rw [show find bays it = _ from h1]
    refine ⟨?_, fun _ => ⟨rfl, rfl⟩⟩
    symm
    rw [List.any_eq_false]
    intro x hx
    simpa [isIt] using h2 x hx
  · rw [show find bays it = _ from he]
    refine ⟨?_, fun h => by simp at h⟩
    symm
    rw [List.any_eq_true]
    exact ⟨x, getD_mem hi hx, by simpa [isIt] using hxi⟩

set_option maxRecDepth 100000 in
set_option maxHeartbeats 3200000 in
theorem yardFinds_walk (nb cap : Int) (A : Option Addr) (n c : Nat) (kd bay : Nat → Int) (it : Nat → ByteArray) (item : ByteArray) (w : World) (ho : Ops w A n kd bay it) (_ : item.size ≤ 140737488351232) :
    Calls Try.prog 7 #[.agg #[.int .i64 nb, .int .i64 cap], .slice A n c, .string item] w fun e w' => e = .returned (.bool true) ∧ Below w.heap.size w w' := by
  cases hs : shortF n it with
  | false =>
    have Hs := hid hs
    clear hs
    go_enter Try.func7, Try.ntmps7
    go_wp2_with fail
    refine (short_c A n c kd bay it _ (ho.mod0 ((Mod.refl _ _).alloc _))).mono ?_
    rw [Hs.out]
    rintro e w1 ⟨rfl, rfl⟩
    go_wp2_with fail
    refine (awake_c _).mono ?_
    rintro e w1 ⟨rfl, m1⟩
    go_wp2_with fail
    go_ret
    exact ⟨rfl, (((Mod.refl (fun _ => False) w).alloc _).below m1 (by simp)).toBelow _ (Nat.le_refl _) (fun _ _ h => h)⟩
  | true =>
    have Hs := hid hs
    obtain ⟨hn60, hit⟩ := shortF_true hs
    clear hs hit
    by_cases h16 : 16 < nb
    · go_enter Try.func7, Try.ntmps7
      go_wp2_with fail
      refine (short_c A n c kd bay it _ (ho.mod0 ((Mod.refl _ _).alloc _))).mono ?_
      rw [Hs.out]
      rintro e w1 ⟨rfl, rfl⟩
      go_wp2_with fail
      refine (awake_c _).mono ?_
      rintro e w1 ⟨rfl, m1⟩
      go_wp2_with fail
      go_ret
      exact ⟨rfl, (((Mod.refl (fun _ => False) w).alloc _).below m1 (by simp)).toBelow _ (Nat.le_refl _) (fun _ _ h => h)⟩
    · by_cases hbad : nb < 1 ∨ (1 ≤ nb ∧ 16 < nb) ∨ (1 ≤ nb ∧ nb ≤ 16 ∧ cap < 1) ∨ (1 ≤ nb ∧ nb ≤ 16 ∧ 1 ≤ cap ∧ 32 < cap)
      · have Hb := hid hbad
        clear hbad
        go_enter Try.func7, Try.ntmps7
        go_wp2_with fail
        refine (short_c A n c kd bay it _ (ho.mod0 ((Mod.refl _ _).alloc _))).mono ?_
        rw [Hs.out]
        rintro e w1 ⟨rfl, rfl⟩
        go_wp2_with fail
        refine (play_bad nb cap _ _ Hb.out).mono ?_
        rintro e w1 ⟨rfl, rfl⟩
        go_wp2_with fail
        refine (awake_c _).mono ?_
        rintro e w1 ⟨rfl, m1⟩
        go_wp2_with fail
        go_ret
        exact ⟨rfl, (((Mod.refl (fun _ => False) w).alloc _).below m1 (by simp)).toBelow _ (Nat.le_refl _) (fun _ _ h => h)⟩
      · obtain ⟨a, rfl⟩ : ∃ a : Nat, nb = a := ⟨nb.toNat, by omega⟩
        have hb1 : 1 ≤ a := by omega
        have hb2 : a ≤ 16 := by omega
        have hb3 : 1 ≤ cap := by omega
        have hb4 : cap ≤ 32 := by omega
        clear hbad
        have hg := playF_good hb1 hb2 hb3 hb4 kd bay it n
        go_enter Try.func7, Try.ntmps7
        go_wp2_with fail
        refine (short_c A n c kd bay it _ (ho.mod0 ((Mod.refl _ _).alloc _))).mono ?_
        rw [Hs.out]
        rintro e w1 ⟨rfl, rfl⟩
        go_wp2_with fail
        refine (play_good a cap A n c kd bay it _ (ho.mod0 ((Mod.refl _ _).alloc _)) hn60 hb1 hb2 hb3 hb4).mono ?_
        generalize playF cap a kd bay it n = s at hg
        obtain ⟨puts, bays⟩ := s
        obtain ⟨hf, ⟨ag, hA⟩, hl, _⟩ := hg
        simp only at hf hA hl
        rintro e w1 ⟨y, rfl, h0, mB⟩
        simp only at h0
        have hbx : At (w.alloc (.cells #[.int .i64 a, .int .i64 cap] 23)) w.heap.size (.cells #[.int .i64 a, .int .i64 cap] 23) := At.new _ _
        have hbx1 := hbx.below mB (by simp)
        have c0 := hbx1.cell 0
        have c1 := hbx1.cell 1
        simp only [List.getElem?_toArray, List.getElem?_cons_zero, List.getElem?_cons_succ] at c0 c1
        have mw : Below w.heap.size w w1 := ((Mod.refl (fun _ => False) w).alloc _).toBelow _ (Nat.le_refl _) (fun _ _ h => h) |>.trans (mB.mono (by simp))
        have HY := hid h0
        have HF := hid hf
        have HA := hid hA
        have Hl := hid hl
        have Hnames := hid hA.flat_names
        clear h0 hbx hbx1 hA hl hf
        go_wp2_with fail
        go_loopw [8, 9, 10] (fun th sm s wr => ∃ (b : Nat) (t : Bool) (m : Nat), b ≤ a ∧ s = .int .i64 b ∧ th = .bool t ∧ sm = .int .i64 m ∧ Hid (t = ((bays.take b).flatten.any (isIt item))) ∧ Hid (m = (bays.take b).flatten.length) ∧ Mod (fun _ => False) w1 wr)
          (fun th sm s _ => a - (intOf s).toNat)
        case atStart => exact ⟨0, false, 0, by omega, rfl, rfl, rfl, rfl, rfl, Mod.refl _ _⟩
        case round =>
          obtain ⟨b, t, m, hb, rfl, rfl, rfl, ht, hm, mr⟩ := hrel
          have e0 := mr.keep0 c0
          have e1 := mr.keep0 c1
          have hYr := hid (HY.out.mod0 mr)
          have hbd := flatten_bound (bays := bays) (fun i hi => HF.out.len32 i hi) b (by rw [Hl.out]; exact hb)
          rw [← hm.out] at hbd
          by_cases hlt : b < a
          · have hbl : b < bays.length := by rw [Hl.out]; exact hlt
            have hbay : bayF bays (b : Int) = bays.getD b [] := by rw [bayF, if_pos (by omega)]; simp
            have hcap := HF.out.len b hbl
            have hL32 := HF.out.len32 b hbl
            have Hb := hid hbay
            clear hbay
            go_wp2_with fail
            refine (bay_c b wr hYr.out HF.out).mono ?_
            rw [Hb.out]
            rintro e w4 ⟨v, rfl, hv, m4⟩
            obtain ⟨A', c', rfl⟩ := own_val hv
            have Hfind : Hid (∀ i (hi : i < (bays.getD b []).length), find bays ((bays.getD b [])[i]'hi).1 = ((b : Int), ((bays.getD b []).length : Int) - 1 - i, true)) := fun i hi => find_at Hnames.out hbl hi
            have htk := hid (take_flatten_succ hbl)
            generalize hL : bays.getD b [] = L at hv hcap hL32 Hfind htk
            have HL := hid hL
            have Hv := hid hv
            clear hL hv
            have f0 := m4.keep0 e0
            have f1 := m4.keep0 e1
            clear e0 e1
            have mr4 := mr.trans m4
            go_wp2_with fail
            obtain ⟨t0, ht0⟩ : ∃ t0 : Bool, t0 = t := ⟨_, rfl⟩
            subst ht0
            go_loopw [8, 12] (fun th s wr => ∃ (i : Nat) (t : Bool), i ≤ L.length ∧ s = .int .i64 i ∧ th = .bool t ∧ Hid (t = (((bays.take b).flatten ++ L.take i).any (isIt item))) ∧ Mod (fun _ => False) w4 wr)
              (fun th s _ => L.length - (intOf s).toNat)
            case atStart => exact ⟨0, t0, by omega, rfl, rfl, by simpa using ht, Mod.refl _ _⟩
            case round =>
              obtain ⟨i, t, hi, rfl, rfl, ht, m5⟩ := hrel
              have g0 := m5.keep0 f0
              have g1 := m5.keep0 f1
              by_cases hil : i < L.length
              · obtain ⟨g, cap', hgf, _, hgl⟩ := Hv.out.form (by omega)
                injection hgf with hA2 _ hc2
                subst hA2
                subst hc2
                have hxe : (names L)[i]? = some (.string (L[i]).1) := by simp [names, hil]
                have hcell : w4.cell? ⟨g, i, none⟩ = some (.string (L[i]).1) := by
                  have := Hv.out.cells (g := g) rfl i _ hxe
                  rwa [add_plain] at this
                have hcell5 := m5.keep0 hcell
                have hfx := hid (Hfind.out i hil)
                have hstep : Hid (L.take (i + 1) = L.take i ++ [L[i]]) := by
                  show _ = _
                  rw [List.take_add_one, List.getElem?_eq_getElem hil]
                  rfl
                generalize hX : L[i] = x at hcell5 hfx hstep
                have hYr5 := hid (HY.out.mod0 (mr4.trans m5))
                clear hcell hxe hX f0 f1
                have hnext : Hid (((bays.take b).flatten ++ L.take (i + 1)).any (isIt item) = (t || isIt item x)) := by
                  show _ = _
                  rw [hstep.out, ← List.append_assoc, List.any_append, ← ht.out]
                  simp
                cases t with
                | true =>
                  go_wp2_with fail
                  refine (find_c x.1 _ hYr5.out HF.out.n2 HF.out.len32).mono ?_
                  rw [hfx.out]
                  rintro e w6 ⟨rfl, m6⟩
                  go_wp2_with fail
                  go_roundw
                  case rel => exact ⟨i + 1, true, by omega, by go_num, rfl, by show _ = _; rw [hnext.out]; rfl, m5.trans m6⟩
                  case measure => simp [intOf]; omega
                | false =>
                  by_cases hx : x.1 = item
                  · have t1 := seq_true hx
                    have Hx := hid hx
                    clear hx
                    go_wp2_with fail
                    refine (find_c x.1 _ hYr5.out HF.out.n2 HF.out.len32).mono ?_
                    rw [hfx.out]
                    rintro e w6 ⟨rfl, m6⟩
                    go_wp2_with fail
                    go_roundw
                    case rel => exact ⟨i + 1, true, by omega, by go_num, rfl, by show _ = _; rw [hnext.out]; simp [isIt, Hx.out], m5.trans m6⟩
                    case measure => simp [intOf]; omega
                  · have t1 := seq_false hx
                    have Hx := hid hx
                    clear hx
                    go_wp2_with fail
                    refine (find_c x.1 _ hYr5.out HF.out.n2 HF.out.len32).mono ?_
                    rw [hfx.out]
                    rintro e w6 ⟨rfl, m6⟩
                    go_wp2_with fail
                    go_roundw
                    case rel => exact ⟨i + 1, false, by omega, by go_num, rfl, by show _ = _; rw [hnext.out]; simp [isIt, Hx.out], m5.trans m6⟩
                    case measure => simp [intOf]; omega
              · have : i = L.length := by omega
                subst this
                go_wp2_with fail
                go_roundw
                case rel =>
                  refine ⟨b + 1, t, m + L.length, by omega, by go_num, rfl, by go_num, ?_, ?_, mr4.trans m5⟩
                  · show _ = _
                    rw [htk.out, ht.out, List.take_length]
                  · show _ = _
                    rw [htk.out, List.length_append, hm.out]
                case measure => simp [intOf]; omega
          · have : b = a := by omega
            subst this
            have hla := Hl.out
            rw [← hla, List.take_length] at ht hm
            have hfa := find_any item bays
            rw [← ht.out] at hfa
            have Hfa := hid hfa
            clear hfa hla
            have Hm := hid hm.out
            go_wp2_with fail
            refine (find_c item _ hYr.out HF.out.n2 HF.out.len32).mono ?_
            rw [Hfa.out.1]
            generalize hF1 : (find bays item).1 = fb at Hfa ⊢
            generalize hF2 : (find bays item).2.1 = fa at Hfa ⊢
            rintro e w6 ⟨rfl, m6⟩
            have hY6 := hid (hYr.out.mod0 m6)
            cases t with
            | true =>
              go_wp2_with fail
              refine (len_c _ hY6.out HF.out).mono ?_
              rw [← Hm.out]
              rintro e w7 ⟨rfl, m7⟩
              go_wp2_with fail
              refine (awake_c w7).mono ?_
              rintro e w8 ⟨rfl, m8⟩
              go_wp2_with fail
              go_ret
              have mw7 : Below w.heap.size w w7 := mw.trans (((mr.trans m6).trans m7).toBelow _ mw.size (fun _ _ h => h))
              exact ⟨rfl, mw7.trans (m8.mono mw7.size)⟩
            | false =>
              obtain ⟨z1, z2⟩ := Hfa.out.2 (Hfa.out.1)
              subst z1 z2
              clear hF1 hF2
              go_wp2_with fail
              refine (len_c _ hY6.out HF.out).mono ?_
              rw [← Hm.out]
              rintro e w7 ⟨rfl, m7⟩
              go_wp2_with fail
              refine (awake_c w7).mono ?_
              rintro e w8 ⟨rfl, m8⟩
              go_wp2_with fail
              go_ret
              have mw7 : Below w.heap.size w w7 := mw.trans (((mr.trans m6).trans m7).toBelow _ mw.size (fun _ _ h => h))
              exact ⟨rfl, mw7.trans (m8.mono mw7.size)⟩
end Go.Proofs.Ytknijmhhlfooaaa
