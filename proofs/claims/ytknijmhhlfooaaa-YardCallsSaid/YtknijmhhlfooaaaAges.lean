/- The law YardAges: its walk. -/
import Derived.Test.YtknijmhhlfooaaaAny
namespace Go.Proofs.Ytknijmhhlfooaaa
open Go.RowKit
set_option linter.unusedVariables false
set_option linter.unusedSimpArgs false

theorem own_mt {F : Nat → Prop} {w w' : World} {base : Nat} {v : Value} {n : Nat} {xs : List Value} (h : w.ownsRow base 9 1 v n xs) (m : MT F w w') : w'.ownsRow base 9 1 v n xs := by
  refine own_same h (fun g hg => ?_)
  obtain ⟨cur, hc⟩ := own_at h hg
  exact (MT.at_ hc m (by decide)).trans hc.symm
theorem YardAt.grown9 {F : Nat → Prop} {w w1 : World} {y : Nat} {cap puts : Int} {bays : List (List Pc)} {base : Nat} {v : Value} {n : Nat} {xs : List Value} (h : YardAt F w y cap puts bays) (ho : w.ownsRow base 9 1 v n xs) (hg : w.grownBy w1 v.ownBlock) : YardAt F w1 y cap puts bays := by
  obtain ⟨B, c, ps, vs, h⟩ := h
  refine ⟨B, c, ps, vs, h.keep (S := fun k => v.ownBlock = some k) ⟨hg.os, hg.tape, hg.output, hg.size, fun k hk hn => hg.block k hk (fun e => hn e.symm)⟩ (fun k _ _ ht hk => ?_)⟩
  obtain ⟨cur, hc⟩ := own_at ho hk
  obtain ⟨c', t, fr, h1, h2⟩ := ht
  have := At.inj hc h1
  injection this with _ e _
  subst e
  rcases h2 with h2 | h2 | h2 | h2 <;> cases h2
theorem MT.grown9 {B : Nat} {w0 w w1 : World} {v : Value} {n : Nat} {xs : List Value} (h : Below B w0 w) (hB : B ≤ w.heap.size) (ho : w.ownsRow B 9 1 v n xs) (hg : w.grownBy w1 v.ownBlock) : Below B w0 w1 := by
  refine h.trans ⟨hg.os, hg.tape, hg.output, hg.size, fun k hk => hg.block k (by omega) (fun e => ?_)⟩
  rcases ho.2 with ⟨h0, _⟩ | ⟨g, cap', cur, h0, hb, _⟩
  · rw [h0] at e; simp [Value.ownBlock] at e
  · rw [h0] at e
    have : k = g := by simpa [Value.ownBlock] using e
    omega

theorem Ops.mod0 {w w' : World} {A : Option Addr} {n : Nat} {kd bay : Nat → Int} {it : Nat → ByteArray} (h : Ops w A n kd bay it) (m : Mod (fun _ => False) w w') : Ops w' A n kd bay it :=
  h.mod (m.toBelow _ (Nat.le_refl _) (fun _ _ h => h))
/-- The oldest is taken: what is left. -/
theorem take_oldest {cap puts : Int} {bays : List (List Pc)} {x : Pc} {ag : List Pc} (hf : Fits cap puts bays) (h : Ages puts bays (x :: ag)) :
    Fits cap puts (takeF cap bays x.1).2.2 ∧ ((takeF cap bays x.1).2.1 = 12 ∨ (takeF cap bays x.1).2.1 = 0 ∧ Ages puts (takeF cap bays x.1).2.2 ag) := by
  obtain ⟨h1, _, h2 | h2⟩ := take_ages x.1 hf h
  · obtain ⟨_, _, _, h2 | h2⟩ := h2
    · exact absurd rfl (h2.1 x (by simp))
    · exact ⟨h1, .inl h2.2⟩
  · obtain ⟨h0, l1, x', l2, e, hx, hA⟩ := h2
    refine ⟨h1, .inr ⟨h0, ?_⟩⟩
    cases l1 with
    | nil =>
      simp only [List.nil_append, List.cons.injEq] at e
      rw [e.2]
      exact hA
    | cons a r =>
      exfalso
      simp only [List.cons_append, List.cons.injEq] at e
      have := (List.pairwise_cons.1 h.names).1 x' (by rw [e.2]; simp)
      exact this hx.symm

set_option maxRecDepth 100000 in
set_option maxHeartbeats 3200000 in
theorem yardAges_walk (nb cap : Int) (A : Option Addr) (n c : Nat) (kd bay : Nat → Int) (it : Nat → ByteArray) (w : World) (ho : Ops w A n kd bay it) :
    Calls Try.prog 3 #[.agg #[.int .i64 nb, .int .i64 cap], .slice A n c] w fun e w' => e = .returned (.bool true) ∧ Below w.heap.size w w' := by
  obtain ⟨i0, hi0, hz0, hz1, hz2⟩ := info_parts info9
  cases hs : shortF n it with
  | false =>
    have Hs := hid hs
    clear hs
    go_enter Try.func3, Try.ntmps3
    go_wp2_with fail
    refine (short_c A n c kd bay it _ (ho.mod0 ((Mod.refl _ _).alloc _))).mono ?_
    rw [Hs.out]
    rintro e w1 ⟨rfl, rfl⟩
    go_wp2_with fail
    refine (awake_c _).mono ?_
    rintro e w1 ⟨rfl, m1⟩
    go_wp2_with fail
    go_ret
    exact ⟨rfl, (((Mod.refl (fun _ => False) w).alloc _).below m1 (by simp)).toBelow _ (Nat.le_refl _) (fun _ _ h => h)⟩
  | true =>
    have Hs := hid hs
    obtain ⟨hn60, hit⟩ := shortF_true hs
    have Hit := hid hit
    clear hs hit
    by_cases hbad : nb < 1 ∨ (1 ≤ nb ∧ 16 < nb) ∨ (1 ≤ nb ∧ nb ≤ 16 ∧ cap < 1) ∨ (1 ≤ nb ∧ nb ≤ 16 ∧ 1 ≤ cap ∧ 32 < cap)
    · have Hb := hid hbad
      clear hbad
      go_enter Try.func3, Try.ntmps3
      go_wp2_with fail
      refine (short_c A n c kd bay it _ (ho.mod0 ((Mod.refl _ _).alloc _))).mono ?_
      rw [Hs.out]
      rintro e w1 ⟨rfl, rfl⟩
      go_wp2_with fail
      refine (new_bad nb cap _ Hb.out).mono ?_
      rintro e w1 ⟨rfl, rfl⟩
      go_wp2_with fail
      refine (awake_c _).mono ?_
      rintro e w1 ⟨rfl, m1⟩
      go_wp2_with fail
      go_ret
      exact ⟨rfl, (((Mod.refl (fun _ => False) w).alloc _).below m1 (by simp)).toBelow _ (Nat.le_refl _) (fun _ _ h => h)⟩
    · obtain ⟨a, rfl⟩ : ∃ a : Nat, nb = a := ⟨nb.toNat, by omega⟩
      have hb1 : 1 ≤ a := by omega
      have hb2 : a ≤ 16 := by omega
      have hb3 : 1 ≤ cap := by omega
      have hb4 : cap ≤ 32 := by omega
      clear hbad
      go_enter Try.func3, Try.ntmps3
      go_wp2_with fail
      refine (short_c A n c kd bay it _ (ho.mod0 ((Mod.refl _ _).alloc _))).mono ?_
      rw [Hs.out]
      rintro e w1 ⟨rfl, rfl⟩
      go_wp2_with fail
      refine (new_good a cap _ hb1 hb2 hb3 hb4).mono ?_
      rintro e w1 ⟨y, rfl, h0, m0⟩
      go_wp2_with fail
      have h00 : YardAt (Up w.heap.size) w1 y cap 0 (List.replicate a []) := by
        obtain ⟨B, c, ps, vs, h⟩ := h0
        exact ⟨B, c, ps, vs, h.mono (fun k _ hk => by have : (w.alloc _).heap.size ≤ k := hk; simp at this; unfold Up; omega)⟩
      have H0 := hid h00
      have mB : Below w.heap.size w w1 := (((Mod.refl (fun _ => False) w).alloc _).trans m0).toBelow _ (Nat.le_refl _) (fun _ _ h => h)
      have hB1 : w.heap.size ≤ w1.heap.size := mB.size
      clear h0 h00 m0
      have F0 : Hid (Fits cap 0 (List.replicate a [])) := fits_of (by simpa using hb1) (by simpa using hb2) hb3 hb4 (by intro l hl; rw [List.eq_of_mem_replicate hl]; simp; omega) (by omega)
      go_loopw [7, 8] (fun r s wr => ∃ (k : Nat) (puts : Int) (bays : List (List Pc)) (ag : List Pc), k ≤ n ∧ s = .int .i64 k ∧ Hid (wr.ownsRow w.heap.size 9 1 r ag.length (names ag)) ∧ Hid (YardAt (Up w.heap.size) wr y cap puts bays) ∧
          Hid (Fits cap puts bays) ∧ Hid (Ages puts bays ag) ∧ Hid (puts ≤ k ∧ ag.length ≤ k) ∧ Below w.heap.size w wr)
        (fun r s _ => n - (intOf s).toNat)
      case atStart => exact ⟨0, 0, List.replicate a [], [], by omega, rfl, World.ownsRow_nil _ _ _ _, H0.out, F0, Ages.empty a, ⟨by omega, by simp⟩, mB⟩
      case round =>
        obtain ⟨k, puts, bays, ag, hk, rfl, hrow, hY, hF, hA, hpk, mw⟩ := hrel
        by_cases hlt : k < n
        · obtain ⟨b, off, rfl, hb, hcc⟩ := ho.2 (by omega)
          obtain ⟨c0, c1, c2, _⟩ := hcc k hlt
          have hsz := mw.size
          have c3 := (mw.cell (p := ⟨b, off + k * 3 + 2, none⟩) hb).trans c2
          have d1 := (mw.cell (p := ⟨b, off + k * 3 + 1, none⟩) hb).trans c1
          have Hc2 := hid c2
          have hbr : b < wr.heap.size := by omega
          clear hcc c0 c1 c2
          obtain ⟨hfit, _, hcase⟩ := put_ages (bay k) (it k) hF.out hA.out
          go_wp2_with fail
          refine wp_region_still_tail 11 (by kernel_rfl) (by kernel_rfl) ?_
          simp only [List.take_succ_cons, List.take_zero, List.drop_succ_cons, List.drop_zero]
          change wpStill Try.prog _ (World.drew wr) (fun a' => wpList Try.prog _ _ _ a' (World.drew wr)) _ _
          repeat still_step
          refine wpStill_nil ?_
          go_wp2_with fail
          have hYd : YardAt (Up w.heap.size) wr.drew y cap puts bays := hY.out.mod0 ((Mod.refl _ _).drew)
          refine (put_any (bay k) (it k) wr.drew hYd hF.out (by have := hpk.out.1; omega)).mono ?_
          rintro e w4 ⟨rfl, h4, mt4⟩
          have h4' := h4.up (B := w.heap.size) (by exact hsz)
          have hrow4 : w4.ownsRow w.heap.size 9 1 _ ag.length (names ag) := own_mt (w := wr.drew) (hrow.out.drew) mt4
          have mw4 : Below w.heap.size w w4 := (mw.drew).trans (mt4.below (by exact hsz))
          have hb4 : b < w4.heap.size := Nat.lt_of_lt_of_le hbr mt4.size
          have c2' : w4.cell? ⟨b, off + k * 3 + 2, none⟩ = some (.string (it k)) := (mw4.cell (p := ⟨b, off + k * 3 + 2, none⟩) hb).trans Hc2.out
          generalize hP : putF cap puts bays (bay k) (it k) = R at hfit hcase h4'
          obtain ⟨code, p2, b2⟩ := R
          simp only at hfit hcase h4'
          have H4 := hid h4'
          have Hrow4 := hid hrow4
          have Hfit := hid hfit
          clear hP h4 h4' hrow4 mt4 c3 d1 hYd hfit
          rcases hcase with ⟨hcd, hp2, hag2⟩ | ⟨hcd, hp2, hb2⟩
          · subst hcd
            have Hp2 := hid hp2
            have Hag := hid hag2
            clear hp2 hag2
            obtain ⟨A', c', hrv⟩ := own_val Hrow4.out
            subst hrv
            have hag60 := hpk.out.2
            have hown0 := Hrow4.out
            go_wp2_with (first | (at_builtin; refine wpList_append_own _ rfl (.tmp 54) (.tmp 60) 31 rfl w.heap.size 9 i0 (.string ByteArray.empty) 1 16 Try.underlying31 hi0 hz0 hz1 hz2 rfl (by decide) (.slice A' ag.length c') ag.length (names ag) rfl (hown0.alloc _) ⟨w4.heap.size, 0, none⟩ 1 1 [.string (it k)] rfl rfl ?c1 ?c2 ?c3 ?c4 ?c5 ?_))
            case c1 =>
              intro j u hj
              match j, hj with
              | 0, hj => simp at hj; subst hj; simp [Addr.add]
            case c2 => intro u hu; simp at hu; subst hu; rfl
            case c3 => unfold maxLen; omega
            case c4 => omega
            case c5 => have := mw4.size; simp; omega
            · intro v' w5 hown' hgrow _
              have hown1 := hown0.alloc (.cells #[.string (it k)] 9)
              have mw5 : Below w.heap.size w w5 := MT.grown9 (mw4.trans (((Mod.refl (fun _ => False) w4).alloc (.cells #[.string (it k)] 9)).toBelow _ mw4.size (fun _ _ h => h))) (by have := mw4.size; simp; omega) hown1 hgrow
              have hY5 : YardAt (Up w.heap.size) w5 y cap (puts + 1) b2 := YardAt.grown9 ((H4.out.fin Hp2.out rfl).mod0 ((Mod.refl _ _).alloc _)) hown1 hgrow
              have Hown' := hid hown'
              clear hown' hgrow hown1 hown0
              obtain ⟨A2, c2, hv'⟩ := own_val Hown'.out
              subst hv'
              go_wp2_with fail
              go_roundw
              case rel =>
                refine ⟨k + 1, puts + 1, b2, ag ++ [(it k, puts)], by omega, by go_num, ?_, hY5, ?_, ?_, ⟨by have := hpk.out.1; omega, by have := hpk.out.2; simp; omega⟩, mw5⟩
                · show World.ownsRow _ _ _ _ _ _ _
                  have e : names (ag ++ [(it k, puts)]) = names ag ++ [.string (it k)] := by simp [names]
                  rw [e, List.length_append]
                  exact Hown'.out
                · have := Hfit.out
                  rw [Hp2.out] at this
                  exact this
                · have := Hag.out
                  rw [Hp2.out] at this
                  exact this
              case measure => simp [intOf]; omega
          · have hne : (code == 0) = false := by simpa using hcd
            subst hp2 hb2
            go_wp2_with fail
            go_roundw
            case rel => exact ⟨k + 1, _, _, ag, by omega, by go_num, Hrow4.out, H4.out, hF, hA, ⟨by have := hpk.out.1; omega, by have := hpk.out.2; omega⟩, mw4⟩
            case measure => simp [intOf]; omega
        · have : k = n := by omega
          subst this
          obtain ⟨A', c', hrv⟩ := own_val hrow.out
          subst hrv
          have hag60 := hpk.out.2
          have hag61 : ag.length ≤ 60 := by omega
          go_wp2_with fail
          obtain ⟨wo, rfl⟩ : ∃ wo : World, wo = wr := ⟨_, rfl⟩
          go_loopw [9] (fun s wr => ∃ (j : Nat) (b2 : List (List Pc)), j ≤ ag.length ∧ s = .int .i64 j ∧ Hid (wr.ownsRow w.heap.size 9 1 (.slice A' ag.length c') ag.length (names ag)) ∧ Hid (YardAt (Up w.heap.size) wr y cap puts b2) ∧
              Hid (Fits cap puts b2) ∧ Hid (Ages puts b2 (ag.drop j)) ∧ Below w.heap.size w wr)
            (fun s _ => ag.length - (intOf s).toNat)
          case atStart => exact ⟨0, bays, by omega, rfl, hrow, hY, hF, hA, mw⟩
          case round =>
            obtain ⟨j, b2, hj, rfl, hrow, hY, hF, hA, mw⟩ := hrel
            have hsz := mw.size
            by_cases hlt : j < ag.length
            · have hdrop : ag.drop j = ag[j] :: ag.drop (j + 1) := List.drop_eq_getElem_cons hlt
              have hA' := hA.out
              rw [hdrop] at hA'
              have hold := old_cons hA'
              have hxlt := hA'.lt (ag[j]) List.mem_cons_self
              obtain ⟨hfit, hcase⟩ := take_oldest hF.out hA'
              obtain ⟨g, cap', hgf, _, hgl⟩ := hrow.out.form (by omega)
              injection hgf with hA2 _ hc2
              subst hA2
              subst hc2
              have hxe : (names ag)[j]? = some (.string (ag[j]).1) := by simp [names, hlt]
              have hcell : wr.cell? ⟨g, j, none⟩ = some (.string (ag[j]).1) := by
                have := hrow.out.cells (g := g) rfl j _ hxe
                rwa [add_plain] at this
              generalize ag[j] = x at hold hxlt hcase hfit hcell
              have Hold := hid hold
              have Hcase := hid hcase
              have Hfit := hid hfit
              have hd : decide (x.2 < puts) = true := by simpa using hxlt
              clear hold hcase hfit hA' hdrop hxe
              go_wp2_with fail
              refine (oldest_c wr hY.out hF.out).mono ?_
              rw [Hold.out, hd]
              rintro e w4 ⟨rfl, m4⟩
              have hc4 := m4.keep0 hcell
              have hY4 := hid (hY.out.mod0 m4)
              clear hcell
              go_wp2_with fail
              have hsz4 : w.heap.size ≤ w4.heap.size := Nat.le_trans hsz m4.size
              refine (take_any x.1 w4 hY4.out hF.out).mono ?_
              have HcaseR := Hcase.out
              have HfitR := Hfit.out
              generalize takeF cap b2 x.1 = R at HcaseR HfitR
              obtain ⟨cn, cd, b3⟩ := R
              simp only at HcaseR HfitR
              rintro e w5 ⟨rfl, h5, mt5⟩
              simp only at h5
              have hY5 := hid (h5.up (B := w.heap.size) hsz4)
              have mw5 : Below w.heap.size w w5 := (mw.trans (m4.toBelow _ hsz (fun _ _ h => h))).trans (mt5.below hsz4)
              have hrow5 := hid (own_mt (own_mt hrow.out (MT.of0 (F := Up w.heap.size) m4)) mt5)
              have HF5 := hid HfitR
              clear h5 mt5 hc4 HfitR
              rcases HcaseR with hcd | ⟨hcd, hag2⟩
              · subst hcd
                go_wp2_with fail
                refine (awake_c w5).mono ?_
                rintro e w6 ⟨rfl, m6⟩
                go_wp2_with fail
                go_ret
                exact ⟨rfl, mw5.trans (m6.mono mw5.size)⟩
              · subst hcd
                have Hag2 := hid hag2
                clear hag2
                go_wp2_with fail
                go_roundw
                case rel => exact ⟨j + 1, b3, by omega, by go_num, hrow5, hY5, HF5, Hag2, mw5⟩
                case measure => simp [intOf]; omega
            · have : j = ag.length := by omega
              subst this
              have hA' := hA.out
              rw [List.drop_length] at hA'
              have hold := hid (old_nil hA')
              have hlen : b2.flatten.length = 0 := by rw [List.Perm.eq_nil hA'.perm]; rfl
              have Hlen := hid hlen
              have hd : decide (puts < puts) = false := by simp
              clear hA' hlen
              go_wp2_with fail
              refine (oldest_c wr hY.out hF.out).mono ?_
              rw [hold.out]
              simp only [hd]
              rintro e w4 ⟨rfl, m4⟩
              have hY4 := hid (hY.out.mod0 m4)
              go_wp2_with fail
              refine (len_c w4 hY4.out hF.out).mono ?_
              rw [Hlen.out]
              rintro e w5 ⟨rfl, m5⟩
              go_wp2_with fail
              refine (awake_c w5).mono ?_
              rintro e w6 ⟨rfl, m6⟩
              go_wp2_with fail
              go_ret
              have mw5 : Below w.heap.size w w5 := mw.trans ((m4.trans m5).toBelow _ hsz (fun _ _ h => h))
              exact ⟨rfl, mw5.trans (m6.mono mw5.size)⟩
end Go.Proofs.Ytknijmhhlfooaaa
