/- alike: its contract. -/
import Derived.Test.YtknijmhhlfooaaaRef5
namespace Go.Proofs.Ytknijmhhlfooaaa
open Go.RowKit
set_option linter.unusedVariables false
set_option linter.unusedSimpArgs false

def oldN : List Pc → ByteArray × Bool
  | [] => (⟨#[]⟩, false)
  | x :: _ => (x.1, true)
theorem oldN_old {puts : Int} {bays : List (List Pc)} {ag : List Pc} (h : Ages puts bays ag) : (oldF puts bays.flatten).1 = (oldN ag).1 ∧ decide ((oldF puts bays.flatten).2 < puts) = (oldN ag).2 := by
  cases ag with
  | nil =>
    rw [old_nil h]
    simp [oldN]
  | cons x r =>
    rw [old_cons h]
    have := h.lt x (by simp)
    simp [oldN, this]
theorem roldest_c {v : Value} {cap : Int} {bays : List (List Pc)} {ag : List Pc} (w : World) (h : RefAt w v cap bays ag) (hl : ag.length ≤ 1000) :
    Calls Try.prog 21 #[v] w fun e w' => e = .returned (.tuple #[.string (oldN ag).1, .bool (oldN ag).2]) ∧ Mod (fun _ => False) w w' := by
  cases ag with
  | nil => exact roldest_nil w h
  | cons x r => exact roldest_cons w h (by simp at hl; omega)

theorem RowN.of_own {w : World} {base : Nat} {v : Value} {l : List Pc} (h : w.ownsRow base 9 1 v l.length (names l)) : RowN w v l := own_weaken0 h

theorem len_x {F : Nat → Prop} {y : Nat} {cap puts : Int} {bays : List (List Pc)} (q : Nat) (w : World) (h : YardAt F w y cap puts bays) (hf : Fits cap puts bays) (hq : bays.flatten.length = q) :
    Calls Try.prog 15 #[.pointer (some ⟨y, 0, none⟩)] w fun e w' => e = .returned (.int .i64 (q : Int)) ∧ Mod (fun _ => False) w w' := by
  subst hq
  exact len_c w h hf
theorem rlen_x {v : Value} {cap : Int} {bays : List (List Pc)} {ag : List Pc} (q : Nat) (w : World) (h : RefAt w v cap bays ag) (hq : ag.length = q) :
    Calls Try.prog 31 #[v] w fun e w' => e = .returned (.int .i64 (q : Int)) ∧ Mod (fun _ => False) w w' := by
  subst hq
  exact rlen_c w h

set_option maxHeartbeats 3200000 in
theorem alike_c {F : Nat → Prop} {v : Value} {y : Nat} {cap puts : Int} {bays : List (List Pc)} {ag : List Pc} (w : World) (h : YardAt F w y cap puts bays) (hr : RefAt w v cap bays ag) (hf : Fits cap puts bays) (hA : Ages puts bays ag) :
    Calls Try.prog 19 #[.pointer (some ⟨y, 0, none⟩), v] w fun e w' => e = .returned (.bool true) ∧ Mod (fun _ => False) w w' := by
  have HR := hr
  obtain ⟨vb, va, rfl, hb, ha⟩ := hr
  obtain ⟨A, c, rfl⟩ := ha.val
  obtain ⟨Ab, cb, rfl⟩ := hb.val
  have HR' := hid HR
  have HY := hid h
  have HF := hid hf
  have HO := hid (oldN_old hA)
  have hlen : Hid (bays.flatten.length = ag.length) := hA.perm.length_eq
  have hag : ag.length ≤ 512 := by
    have := flatten_bound (bays := bays) (fun i hi => hf.len32 i hi) bays.length (Nat.le_refl _)
    rw [List.take_length] at this
    rw [← hlen.out]
    have := hf.n2
    omega
  have hn := hf.n2
  have hbx := At.new w (.cells #[.int .i64 cap, .slice Ab bays.length cb, .slice A ag.length c] 47)
  clear HR hb ha h hf hA
  go_enter Try.func19, Try.ntmps19
  go_wp2_with fail
  go_loopw [5] (fun s wr => ∃ i : Int, -1 ≤ i ∧ i ≤ bays.length + 1 ∧ s = .int .i64 i ∧ Mod (fun _ => False) (w.alloc (.cells #[.int .i64 cap, .slice Ab bays.length cb, .slice A ag.length c] 47)) wr)
    (fun s _ => ((bays.length : Int) + 1 - intOf s).toNat)
  case atStart => exact ⟨-1, by omega, by omega, rfl, Mod.refl _ _⟩
  case round =>
    obtain ⟨i, hi0, hi1, rfl, m⟩ := hrel
    have hbr := hbx.mod m id
    obtain ⟨e0, e1, e2⟩ := At.three hbr
    have mw : Mod (fun _ => False) w wr := ((Mod.refl _ _).alloc _).trans m
    have hYd := hid ((HY.out.mod0 mw).mod0 ((Mod.refl _ _).drew))
    have hRd := hid ((HR'.out.mod0 mw).mod0 ((Mod.refl _ _).drew))
    have hbd := hbr.drew
    by_cases hlt : i ≤ bays.length
    · have hbl : (bayF bays i).length ≤ 32 := by
        unfold bayF
        split
        · exact HF.out.len32 _ (by omega)
        · simp
      go_wp2_with fail
      go_region_held3 (fun w' => w'.cell? ⟨w.heap.size, 0, none⟩ = some (.int .i64 cap) ∧ w'.cell? ⟨w.heap.size, 1, none⟩ = some (.slice Ab bays.length cb) ∧ w'.cell? ⟨w.heap.size, 2, none⟩ = some (.slice A ag.length c)) (go_keep)
        (first
          | (go_at_call 17; with_reducible refine (bay_c i _ hYd.out HF.out).mono ?_; rintro e w4 ⟨x, rfl, hx, m4⟩; have hR4 := hid (RefAt.mod0 hRd.out m4); have hb4 := At.mod hbd m4 id; have c4 := At.three hb4; obtain ⟨c40, c41, c42⟩ := c4; have Hx := hid (RowN.of_own hx))
          | (go_at_call 30; with_reducible refine (rbay_c i _ hR4.out hn).mono ?_; rintro e w5 ⟨z, rfl, hz, m5⟩; have hb5 := At.mod hb4 m5 id; have c5 := At.three hb5; obtain ⟨c50, c51, c52⟩ := c5; have Hz := hid hz; have Hx5 := hid (RowN.mod0 Hx.out m5))
          | (go_at_call 29; with_reducible refine (same_c _ _ (bayF bays i) _ Hx5.out Hz.out (Nat.le_trans hbl (by decide))).mono ?_; rintro e w6 ⟨rfl, m6⟩; have hb6 := At.mod hb5 m6 id; have c6 := At.three hb6; obtain ⟨c60, c61, c62⟩ := c6))
      all_goals go_wp2_with fail
      all_goals go_roundw
      case rel => exact ⟨i + 1, by omega, by omega, by go_num, (((m.drew).trans m4).trans m5).trans m6⟩
      case measure => simp [intOf]; omega
    · go_wp2_with fail
      refine (oldest_c wr (HY.out.mod0 mw) HF.out).mono ?_
      rw [HO.out.1, HO.out.2]
      rintro e w4 ⟨rfl, m4⟩
      have hb4 := hbr.mod m4 id
      obtain ⟨c40, c41, c42⟩ := At.three hb4
      clear e0 e1 e2 hYd hRd hbd
      go_wp2_with fail
      refine (roldest_c w4 (HR'.out.mod0 (mw.trans m4)) (by omega)).mono ?_
      rintro e w5 ⟨rfl, m5⟩
      have hb5 := hb4.mod m5 id
      obtain ⟨c50, c51, c52⟩ := At.three hb5
      have mw5 := ((mw.trans m4).trans m5).drew
      have hY5 := hid (HY.out.mod0 mw5)
      have hR5 := hid (HR'.out.mod0 mw5)
      have hb5d := hb5.drew
      generalize oldN ag = on
      obtain ⟨s, ok⟩ := on
      obtain ⟨q, hq⟩ : ∃ q, ag.length = q := ⟨_, rfl⟩
      have Hq := hid hq
      have Hq2 : Hid (bays.flatten.length = q) := by show _ = _; rw [hlen.out]; exact hq
      clear c40 c41 c42 hq
      go_wp2_with fail
      go_region_held3 (fun w' => w'.cell? ⟨w.heap.size, 0, none⟩ = some (.int .i64 cap) ∧ w'.cell? ⟨w.heap.size, 1, none⟩ = some (.slice Ab bays.length cb) ∧ w'.cell? ⟨w.heap.size, 2, none⟩ = some (.slice A ag.length c)) (go_keep)
        (first
          | (go_at_call 15; with_reducible refine (len_x q _ hY5.out HF.out Hq2.out).mono ?_; rintro e w6 ⟨rfl, m6⟩; have hR6 := hid (RefAt.mod0 hR5.out m6); have hb6 := At.mod hb5d m6 id; have c6 := At.three hb6; obtain ⟨c60, c61, c62⟩ := c6)
          | (go_at_call 31; with_reducible refine (rlen_x q _ hR6.out Hq.out).mono ?_; rintro e w7 ⟨rfl, m7⟩; have hb7 := At.mod hb6 m7 id; have c7 := At.three hb7; obtain ⟨c70, c71, c72⟩ := c7))
      all_goals go_wp2_with fail
      all_goals go_ret
      all_goals exact ⟨rfl, (mw5.trans m6).trans m7⟩
end Go.Proofs.Ytknijmhhlfooaaa
