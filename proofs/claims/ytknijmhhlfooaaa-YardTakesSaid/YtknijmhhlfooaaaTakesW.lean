/- The law YardTakes: its walk, joined. -/
import Derived.Test.YtknijmhhlfooaaaTakes
namespace Go.Proofs.Ytknijmhhlfooaaa
open Go.RowKit
set_option linter.unusedVariables false
set_option linter.unusedSimpArgs false

set_option maxRecDepth 100000 in
set_option maxHeartbeats 6400000 in
theorem yardTakes_walk (nb cap : Int) (A : Option Addr) (n c : Nat) (kd bay : Nat → Int) (it : Nat → ByteArray) (item : ByteArray) (w : World) (ho : Ops w A n kd bay it) (_ : item.size ≤ 140737488351232) :
    Calls Try.prog 8 #[.agg #[.int .i64 nb, .int .i64 cap], .slice A n c, .string item] w fun e w' => e = .returned (.bool true) ∧ Below w.heap.size w w' := by
  cases hs : shortF n it with
  | false =>
    have Hs := hid hs
    clear hs
    go_enter Try.func8, Try.ntmps8
    go_wp2_with fail
    refine (short_c A n c kd bay it _ (ho.mod0 ((Mod.refl _ _).alloc _))).mono ?_
    rw [Hs.out]
    rintro e w1 ⟨rfl, rfl⟩
    go_wp2_with fail
    refine (awake_c _).mono ?_
    rintro e w1 ⟨rfl, m1⟩
    go_wp2_with fail
    go_ret
    exact ⟨rfl, (((Mod.refl (fun _ => False) w).alloc _).below m1 (by simp)).toBelow _ (Nat.le_refl _) (fun _ _ h => h)⟩
  | true =>
    have Hs := hid hs
    obtain ⟨hn60, hit⟩ := shortF_true hs
    clear hs hit
    by_cases h16 : 16 < nb
    · go_enter Try.func8, Try.ntmps8
      go_wp2_with fail
      refine (short_c A n c kd bay it _ (ho.mod0 ((Mod.refl _ _).alloc _))).mono ?_
      rw [Hs.out]
      rintro e w1 ⟨rfl, rfl⟩
      go_wp2_with fail
      refine (awake_c _).mono ?_
      rintro e w1 ⟨rfl, m1⟩
      go_wp2_with fail
      go_ret
      exact ⟨rfl, (((Mod.refl (fun _ => False) w).alloc _).below m1 (by simp)).toBelow _ (Nat.le_refl _) (fun _ _ h => h)⟩
    · by_cases hbad : nb < 1 ∨ (1 ≤ nb ∧ 16 < nb) ∨ (1 ≤ nb ∧ nb ≤ 16 ∧ cap < 1) ∨ (1 ≤ nb ∧ nb ≤ 16 ∧ 1 ≤ cap ∧ 32 < cap)
      · have Hb := hid hbad
        clear hbad
        go_enter Try.func8, Try.ntmps8
        go_wp2_with fail
        refine (short_c A n c kd bay it _ (ho.mod0 ((Mod.refl _ _).alloc _))).mono ?_
        rw [Hs.out]
        rintro e w1 ⟨rfl, rfl⟩
        go_wp2_with fail
        go_quiet ((go_at_call 23; exact Calls.quiet_of_same ((play_bad nb cap _ _ Hb.out).mono (fun e w' h => ⟨h.1, h.2.symm⟩))))
        go_wp2_with fail
        refine (awake_c _).mono ?_
        rintro e w1 ⟨rfl, m1⟩
        go_wp2_with fail
        go_ret
        exact ⟨rfl, ((((Mod.refl (fun _ => False) w).alloc _).drewN _).below m1 (by simp)).toBelow _ (Nat.le_refl _) (fun _ _ h => h)⟩
      · obtain ⟨a, rfl⟩ : ∃ a : Nat, nb = a := ⟨nb.toNat, by omega⟩
        have hb1 : 1 ≤ a := by omega
        have hb2 : a ≤ 16 := by omega
        have hb3 : 1 ≤ cap := by omega
        have hb4 : cap ≤ 32 := by omega
        clear hbad
        have hg := hid (playF_good hb1 hb2 hb3 hb4 kd bay it n)
        go_enter Try.func8, Try.ntmps8
        go_wp2_with fail
        refine (short_c A n c kd bay it _ (ho.mod0 ((Mod.refl _ _).alloc _))).mono ?_
        rw [Hs.out]
        rintro e w1 ⟨rfl, rfl⟩
        go_wp2_with fail
        have hO0 := hid ((ho.mod0 ((Mod.refl _ _).alloc (.cells #[.int .i64 a, .int .i64 cap] 23))).mod0 ((Mod.refl _ _).drew))
        have hlt0 : w.heap.size < (w.alloc (.cells #[.int .i64 a, .int .i64 cap] 23)).drew.heap.size := by
          have : (w.alloc (.cells #[.int .i64 a, .int .i64 cap] 23)).drew.heap.size = w.heap.size + 1 := by show (w.alloc _).heap.size = _; simp
          omega
        have hbx : At ((w.alloc (.cells #[.int .i64 a, .int .i64 cap] 23)).drew) w.heap.size (.cells #[.int .i64 a, .int .i64 cap] 23) := At.drew (At.new _ _)
        go_region_held3 (fun w' => w'.cell? ⟨w.heap.size, 0, none⟩ = some (.int .i64 a) ∧ w'.cell? ⟨w.heap.size, 1, none⟩ = some (.int .i64 cap)) (go_keep)
          (first
            | (go_at_call 23; with_reducible refine (play_good a cap A n c kd bay it _ hO4.out hn60 hb1 hb2 hb3 hb4).mono ?_; rintro e w5 ⟨z, rfl, hZ, mB5⟩; have hbx5 := At.below hbx4 mB5 hbx4.lt; have c50 := At.cell hbx5 0; have c51 := At.cell hbx5 1; simp only [List.getElem?_toArray, List.getElem?_cons_zero, List.getElem?_cons_succ] at c50 c51)
            | (go_at_call 23; with_reducible refine (play_good a cap A n c kd bay it _ hO0.out hn60 hb1 hb2 hb3 hb4).mono ?_; rintro e w4 ⟨y, rfl, hY, mB4⟩; have hO4 := hid (Ops.mod hO0.out mB4); have hbx4 := At.below hbx mB4 hlt0; have c40 := At.cell hbx4 0; have c41 := At.cell hbx4 1; simp only [List.getElem?_toArray, List.getElem?_cons_zero, List.getElem?_cons_succ] at c40 c41))
        all_goals go_wp2_with fail
        obtain ⟨p, rfl⟩ : ∃ p, p = y := ⟨_, rfl⟩
        obtain ⟨q, rfl⟩ : ∃ q, q = z := ⟨_, rfl⟩
        have h12 : w4.heap.size ≤ w5.heap.size := mB5.size
        obtain ⟨FP, hFP⟩ : ∃ FP : Nat → Prop, ∀ k, FP k ↔ (w.heap.size ≤ k ∧ k < w4.heap.size) := ⟨_, fun k => Iff.rfl⟩
        obtain ⟨FQ, hFQ⟩ : ∃ FQ : Nat → Prop, ∀ k, FQ k ↔ w4.heap.size ≤ k := ⟨_, fun k => Iff.rfl⟩
        have hP := hid (((YardAt.mono (G := FP) hY (fun k hk h => by unfold Up at h; rw [hFP]; exact ⟨by omega, hk⟩))).apart (G := Up w4.heap.size) (w' := w5) (Mod.ofBelow mB5 (Nat.le_refl _) _) (fun k h1 h2 => by unfold Up at h2; rw [hFP] at h1; omega))
        have hQ := hid (YardAt.mono (G := FQ) hZ (fun k _ h => by rw [hFQ]; exact h))
        have hdis : ∀ k, FP k → FQ k → False := fun k h1 h2 => by rw [hFP] at h1; rw [hFQ] at h2; omega
        have hlow : ∀ k, FQ k → w.heap.size ≤ k := fun k h => by have := mB4.size; rw [hFQ] at h; omega
        clear hFP hFQ
        have mw5 : Below w.heap.size w w5 := (((((Mod.refl (fun _ => False) w).alloc _).drew).below mB4 (Nat.le_of_lt hlt0)).below mB5 (by have := mB4.size; omega)).toBelow _ (Nat.le_refl _) (fun _ _ h => h)
        have hlt5 : w.heap.size < w5.heap.size := hbx5.lt
        have Hbx := hid hbx5
        have hg' := hg.out
        clear hbx5 hbx4 hbx c40 c41 hY hZ hO0 hO4 mB4 mB5 hg
        generalize playF cap a kd bay it n = s at hg' hP hQ
        obtain ⟨puts, bays⟩ := s
        obtain ⟨hf, ⟨ag, hA⟩, hl, _⟩ := hg'
        simp only at hf hA hl hP hQ
        have HF := hid hf
        have Hl := hid hl
        have HT := hid (take_shape item hf hA)
        have HfT := hid (take_ages item hf hA).1
        have HlT := hid (take_ages item hf hA).2.1
        have hflat := hid (flatten_bound (bays := bays) (fun i hi => hf.len32 i hi) bays.length (Nat.le_refl _))
        clear hf hA hl
        refine (find_c item w5 hP.out HF.out.n2 HF.out.len32).mono ?_
        generalize hfb : (find bays item).1 = fb at HT ⊢
        generalize hfa : (find bays item).2.1 = fa at HT ⊢
        generalize hok : (find bays item).2.2 = ok at HT ⊢
        clear hfb hfa hok
        rintro e w6 ⟨rfl, m6⟩
        have hP6 := hid (hP.out.mod0 m6)
        have hQ6 := hid (hQ.out.mod0 m6)
        have hlt6 : w.heap.size < w6.heap.size := Nat.lt_of_lt_of_le hlt5 m6.size
        have hbx6 := hid (Hbx.out.mod m6 id)
        have mw6 : Below w.heap.size w w6 := mw5.trans (m6.toBelow _ (Nat.le_of_lt hlt5) (fun _ _ h => h))
        clear hP hQ hlt5 Hbx mw5 m6 c50 c51
        go_wp2_with fail
        refine (take_any item w6 hQ6.out HF.out).mono ?_
        generalize takeF cap bays item = R at HT HfT HlT
        obtain ⟨rn, rc, rb⟩ := R
        simp only at HT HfT HlT
        rintro e w7 ⟨rfl, hQ7, mt7⟩
        simp only at hQ7
        have hP7 := hid (hP6.out.apart mt7 hdis)
        have HQ7 := hid hQ7
        have hbx7 := mt7.at_ hbx6.out (by decide)
        have c0 := hbx7.cell 0
        have c1 := hbx7.cell 1
        simp only [List.getElem?_toArray, List.getElem?_cons_zero, List.getElem?_cons_succ] at c0 c1
        have mw7 : Below w.heap.size w w7 := mw6.trans (Mod.toBelow mt7 _ (Nat.le_of_lt hlt6) (fun i hi h => by have := hlow i h.1; omega))
        clear hP6 hQ6 hbx6 mw6 mt7 hQ7 hbx7
        have HT' := HT.out.cases
        rcases HT' with ⟨h1, h2, h3, h4⟩ | ⟨h1, h2, h3, h4⟩ | ⟨h1, h2, h3, i, h4, h5, h6, h7, h8, h9⟩
        · subst h1 h2 h3 h4
          go_wp2_with fail
          go_loopw [14] (fun s wr => ∃ b : Nat, b ≤ a ∧ s = .int .i64 b ∧ Mod (fun _ => False) w7 wr)
            (fun s _ => a - (intOf s).toNat)
          case atStart => exact ⟨0, by omega, rfl, Mod.refl _ _⟩
          case round =>
            obtain ⟨b, hb, rfl, mr⟩ := hrel
            have e0 := mr.keep0 c0
            have e1 := mr.keep0 c1
            have hPr := hid (hP7.out.mod0 mr)
            have hQr := hid (HQ7.out.mod0 mr)
            by_cases hlt : b < a
            · have hbl : b < rb.length := by rw [Hl.out]; exact hlt
              have hbay : bayF rb (b : Int) = rb.getD b [] := by rw [bayF, if_pos (by omega)]; simp
              have hL32 := HF.out.len32 b hbl
              have Hb := hid hbay
              clear hbay
              go_wp2_with fail
              refine (bay_c b wr hPr.out HF.out).mono ?_
              rw [Hb.out]
              rintro e w8 ⟨v, rfl, hv, m8⟩
              have hQ8 := hid (hQr.out.mod0 m8)
              generalize hL : rb.getD b [] = L at hv hL32 Hb
              have HL := hid hL
              clear hL
              obtain ⟨A1, k1, rfl⟩ := own_val hv
              have Hv := hid hv
              clear hv
              go_wp2_with fail
              refine (bay_c b w8 hQ8.out HF.out).mono ?_
              rw [Hb.out]
              rintro e w9 ⟨v, rfl, hv2, m9⟩
              have Hv9 := hid (own_mt Hv.out (MT.of0 (F := Up 0) m9))
              obtain ⟨A2, k2, rfl⟩ := own_val hv2
              have Hv2 := hid hv2
              have f0 := m9.keep0 (m8.keep0 e0)
              have f1 := m9.keep0 (m8.keep0 e1)
              clear hv2 e0 e1
              go_wp2_with fail
              refine (starts_c _ _ _ _ L L w9 Hv2.out Hv9.out List.prefix_rfl (by omega)).mono ?_
              rintro e w10 ⟨rfl, m10⟩
              go_wp2_with fail
              go_roundw
              case rel => exact ⟨b + 1, by omega, by go_num, ((mr.trans m8).trans m9).trans m10⟩
              case measure => simp [intOf]; omega
            · have : b = a := by omega
              subst this
              have hfl := hflat.out
              rw [List.take_length] at hfl
              have hn2 := HF.out.n2
              obtain ⟨fl, hq⟩ : ∃ fl, rb.flatten.length = fl := ⟨_, rfl⟩
              rw [hq] at hfl
              have Hq := hid hq
              clear hq
              go_wp2_with fail
              refine (len_c wr hQr.out HF.out).mono ?_
              rw [Hq.out]
              rintro e w8 ⟨rfl, m8⟩
              have hP8 := hid (hPr.out.mod0 m8)
              go_wp2_with fail
              refine (len_c w8 hP8.out HF.out).mono ?_
              rw [Hq.out]
              rintro e w9 ⟨rfl, m9⟩
              go_wp2_with fail
              refine (awake_c w9).mono ?_
              rintro e w10 ⟨rfl, m10⟩
              go_wp2_with fail
              go_ret
              have mw9 : Below w.heap.size w w9 := mw7.trans (((mr.trans m8).trans m9).toBelow _ mw7.size (fun _ _ h => h))
              exact ⟨rfl, mw9.trans (m10.mono mw9.size)⟩
        · subst h1 h2 h3 h4
          go_wp2_with fail
          go_loopw [14] (fun s wr => ∃ b : Nat, b ≤ a ∧ s = .int .i64 b ∧ Mod (fun _ => False) w7 wr)
            (fun s _ => a - (intOf s).toNat)
          case atStart => exact ⟨0, by omega, rfl, Mod.refl _ _⟩
          case round =>
            obtain ⟨b, hb, rfl, mr⟩ := hrel
            have e0 := mr.keep0 c0
            have e1 := mr.keep0 c1
            have hPr := hid (hP7.out.mod0 mr)
            have hQr := hid (HQ7.out.mod0 mr)
            by_cases hlt : b < a
            · have hbl : b < rb.length := by rw [Hl.out]; exact hlt
              have hbay : bayF rb (b : Int) = rb.getD b [] := by rw [bayF, if_pos (by omega)]; simp
              have hL32 := HF.out.len32 b hbl
              have Hb := hid hbay
              clear hbay
              go_wp2_with fail
              refine (bay_c b wr hPr.out HF.out).mono ?_
              rw [Hb.out]
              rintro e w8 ⟨v, rfl, hv, m8⟩
              have hQ8 := hid (hQr.out.mod0 m8)
              generalize hL : rb.getD b [] = L at hv hL32 Hb
              have HL := hid hL
              clear hL
              obtain ⟨A1, k1, rfl⟩ := own_val hv
              have Hv := hid hv
              clear hv
              go_wp2_with fail
              refine (bay_c b w8 hQ8.out HF.out).mono ?_
              rw [Hb.out]
              rintro e w9 ⟨v, rfl, hv2, m9⟩
              have Hv9 := hid (own_mt Hv.out (MT.of0 (F := Up 0) m9))
              obtain ⟨A2, k2, rfl⟩ := own_val hv2
              have Hv2 := hid hv2
              have f0 := m9.keep0 (m8.keep0 e0)
              have f1 := m9.keep0 (m8.keep0 e1)
              clear hv2 e0 e1
              go_wp2_with fail
              refine (starts_c _ _ _ _ L L w9 Hv2.out Hv9.out List.prefix_rfl (by omega)).mono ?_
              rintro e w10 ⟨rfl, m10⟩
              go_wp2_with fail
              go_roundw
              case rel => exact ⟨b + 1, by omega, by go_num, ((mr.trans m8).trans m9).trans m10⟩
              case measure => simp [intOf]; omega
            · have : b = a := by omega
              subst this
              have hfl := hflat.out
              rw [List.take_length] at hfl
              have hn2 := HF.out.n2
              obtain ⟨fl, hq⟩ : ∃ fl, rb.flatten.length = fl := ⟨_, rfl⟩
              rw [hq] at hfl
              have Hq := hid hq
              clear hq
              go_wp2_with fail
              refine (len_c wr hQr.out HF.out).mono ?_
              rw [Hq.out]
              rintro e w8 ⟨rfl, m8⟩
              have hP8 := hid (hPr.out.mod0 m8)
              go_wp2_with fail
              refine (len_c w8 hP8.out HF.out).mono ?_
              rw [Hq.out]
              rintro e w9 ⟨rfl, m9⟩
              go_wp2_with fail
              refine (awake_c w9).mono ?_
              rintro e w10 ⟨rfl, m10⟩
              go_wp2_with fail
              go_ret
              have mw9 : Below w.heap.size w w9 := mw7.trans (((mr.trans m8).trans m9).toBelow _ mw7.size (fun _ _ h => h))
              exact ⟨rfl, mw9.trans (m10.mono mw9.size)⟩
        · subst h1 h2 h3 h4
          have H5 := hid h5
          have H6 := hid h6
          have H7 := hid h7
          have H8 := hid h8
          have H9 := hid h9
          clear h5 h6 h7 h8 h9
          go_wp2_with fail
          go_loopw [14] (fun s wr => ∃ b : Nat, b ≤ a ∧ s = .int .i64 b ∧ Mod (fun _ => False) w7 wr)
            (fun s _ => a - (intOf s).toNat)
          case atStart => exact ⟨0, by omega, rfl, Mod.refl _ _⟩
          case round =>
            obtain ⟨b, hb, rfl, mr⟩ := hrel
            have e0 := mr.keep0 c0
            have e1 := mr.keep0 c1
            have hPr := hid (hP7.out.mod0 mr)
            have hQr := hid (HQ7.out.mod0 mr)
            by_cases hlt : b < a
            · have hbl : b < bays.length := by rw [Hl.out]; exact hlt
              have hbl2 : b < rb.length := by rw [HlT.out]; exact hbl
              have hbay : bayF bays (b : Int) = bays.getD b [] := by rw [bayF, if_pos (by omega)]; simp
              have hbay2 : bayF rb (b : Int) = rb.getD b [] := by rw [bayF, if_pos (by omega)]; simp
              have hL32 := HF.out.len32 b hbl
              have hM32 := HfT.out.len32 b hbl2
              have Hb := hid hbay
              have Hb2 := hid hbay2
              have hcs : Hid (b = i ∧ ((rb.getD b []).length : Int) = ((bays.getD b []).length : Int) - 1 - rn ∧ rb.getD b [] <+: bays.getD b [] ∨ b ≠ i ∧ bays.getD b [] <+: rb.getD b []) := by
                by_cases e : b = i
                · subst e
                  exact .inl ⟨rfl, H6.out, H7.out⟩
                · exact .inr ⟨e, H8.out b e⟩
              clear hbay hbay2
              go_wp2_with fail
              refine (bay_c b wr hPr.out HF.out).mono ?_
              rw [Hb.out]
              rintro e w8 ⟨v, rfl, hv, m8⟩
              have hQ8 := hid (hQr.out.mod0 m8)
              generalize hL : bays.getD b [] = L at hv hL32 Hb hcs
              generalize hM : rb.getD b [] = M at hM32 Hb2 hcs
              clear hL hM
              obtain ⟨A1, k1, rfl⟩ := own_val hv
              have Hv := hid hv
              clear hv
              go_wp2_with fail
              refine (bay_c b w8 hQ8.out HfT.out).mono ?_
              rw [Hb2.out]
              rintro e w9 ⟨v, rfl, hv2, m9⟩
              have Hv9 := hid (own_mt Hv.out (MT.of0 (F := Up 0) m9))
              obtain ⟨A2, k2, rfl⟩ := own_val hv2
              have Hv2 := hid hv2
              have f0 := m9.keep0 (m8.keep0 e0)
              have f1 := m9.keep0 (m8.keep0 e1)
              clear hv2 e0 e1
              rcases hcs.out with ⟨hbi, hlen, hpre⟩ | ⟨hbi, hpre⟩
              · have Hpre := hid hpre
                have hbi' : ((b : Int) == (i : Int)) = true := by simp [hbi]
                have hq : (L.length : Int) - 1 - rn = M.length := by omega
                have hr1 : -100 ≤ rn := by omega
                have hr2 : rn ≤ 100 := by omega
                clear hpre hlen
                clear hbi
                go_wp2_with fail
                refine (starts_c _ _ _ _ L M w9 Hv9.out Hv2.out Hpre.out (by omega)).mono ?_
                rintro e w10 ⟨rfl, m10⟩
                go_wp2_with fail
                go_roundw
                case rel => exact ⟨b + 1, by omega, by go_num, ((mr.trans m8).trans m9).trans m10⟩
                case measure => simp [intOf]; omega
              · have Hpre := hid hpre
                have hbi' : ((b : Int) == (i : Int)) = false := by simp; omega
                clear hpre
                go_wp2_with fail
                refine (starts_c _ _ _ _ M L w9 Hv2.out Hv9.out Hpre.out (by omega)).mono ?_
                rintro e w10 ⟨rfl, m10⟩
                go_wp2_with fail
                go_roundw
                case rel => exact ⟨b + 1, by omega, by go_num, ((mr.trans m8).trans m9).trans m10⟩
                case measure => simp [intOf]; omega
            · have : b = a := by omega
              subst this
              have hfl := hflat.out
              rw [List.take_length] at hfl
              have hn2 := HF.out.n2
              obtain ⟨fl, hq⟩ : ∃ fl, rb.flatten.length = fl := ⟨_, rfl⟩
              have hq2 : bays.flatten.length = fl + 1 := by rw [← hq]; exact H9.out.symm
              rw [hq2] at hfl
              have Hq := hid hq
              have Hq2 := hid hq2
              clear hq hq2
              go_wp2_with fail
              refine (len_c wr hQr.out HfT.out).mono ?_
              rw [Hq.out]
              rintro e w8 ⟨rfl, m8⟩
              have hP8 := hid (hPr.out.mod0 m8)
              go_wp2_with fail
              refine (len_c w8 hP8.out HF.out).mono ?_
              rw [Hq2.out]
              rintro e w9 ⟨rfl, m9⟩
              go_wp2_with fail
              refine (awake_c w9).mono ?_
              rintro e w10 ⟨rfl, m10⟩
              go_wp2_with fail
              go_ret
              have mw9 : Below w.heap.size w w9 := mw7.trans (((mr.trans m8).trans m9).toBelow _ mw7.size (fun _ _ h => h))
              exact ⟨rfl, mw9.trans (m10.mono mw9.size)⟩
end Go.Proofs.Ytknijmhhlfooaaa
