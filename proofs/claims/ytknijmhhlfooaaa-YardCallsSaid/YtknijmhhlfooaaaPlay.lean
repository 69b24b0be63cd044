/- play: a yard after some calls. -/
import Derived.Test.YtknijmhhlfooaaaAges
namespace Go.Proofs.Ytknijmhhlfooaaa
open Go.RowKit
set_option linter.unusedVariables false
set_option linter.unusedSimpArgs false

def stepF (cap : Int) (s : Int × List (List Pc)) (kd b : Int) (it : ByteArray) : Int × List (List Pc) :=
  if kd = 0 then ((putF cap s.1 s.2 b it).2.1, (putF cap s.1 s.2 b it).2.2)
  else if kd = 2 then (s.1, (takeF cap s.2 (oldF s.1 s.2.flatten).1).2.2)
  else (s.1, (takeF cap s.2 it).2.2)
def playF (cap : Int) (nb : Nat) (kd bay : Nat → Int) (it : Nat → ByteArray) : Nat → Int × List (List Pc)
  | 0 => (0, List.replicate nb [])
  | k + 1 => stepF cap (playF cap nb kd bay it k) (kd k) (bay k) (it k)

structure Good (cap : Int) (nb k : Nat) (s : Int × List (List Pc)) : Prop where
  fits : Fits cap s.1 s.2
  ages : ∃ ag, Ages s.1 s.2 ag
  len : s.2.length = nb
  le : s.1 ≤ k

theorem Good.step {cap : Int} {nb k : Nat} {s : Int × List (List Pc)} (h : Good cap nb k s) (kd b : Int) (it : ByteArray) : Good cap nb (k + 1) (stepF cap s kd b it) := by
  obtain ⟨hf, ⟨ag, hA⟩, hl, hle⟩ := h
  unfold stepF
  split
  · obtain ⟨h1, h2, h3 | h3⟩ := put_ages b it hf hA
    · exact ⟨h1, ⟨_, h3.2.2⟩, h2.trans hl, by show (putF cap s.1 s.2 b it).2.1 ≤ _; rw [h3.2.1]; omega⟩
    · refine ⟨h1, ⟨ag, ?_⟩, h2.trans hl, by show (putF cap s.1 s.2 b it).2.1 ≤ _; rw [h3.2.1]; omega⟩
      show Ages (putF cap s.1 s.2 b it).2.1 (putF cap s.1 s.2 b it).2.2 ag
      rw [h3.2.1, h3.2.2]
      exact hA
  · have take : ∀ it, Good cap nb (k + 1) (s.1, (takeF cap s.2 it).2.2) := fun it => by
      obtain ⟨h1, h2, h3 | h3⟩ := take_ages it hf hA
      · refine ⟨h1, ⟨ag, ?_⟩, h2.trans hl, by show s.1 ≤ _; omega⟩
        show Ages s.1 (takeF cap s.2 it).2.2 ag
        rw [h3.2.1]
        exact hA
      · obtain ⟨_, l1, x, l2, _, _, hA2⟩ := h3
        exact ⟨h1, ⟨_, hA2⟩, h2.trans hl, by show s.1 ≤ _; omega⟩
    split
    · exact take _
    · exact take _
theorem playF_good {cap : Int} {nb : Nat} (h1 : 1 ≤ nb) (h2 : nb ≤ 16) (h3 : 1 ≤ cap) (h4 : cap ≤ 32) (kd bay : Nat → Int) (it : Nat → ByteArray) (k : Nat) : Good cap nb k (playF cap nb kd bay it k) := by
  induction k with
  | zero =>
    refine ⟨fits_of (by simpa [playF] using h1) (by simpa [playF] using h2) h3 h4 (by intro l hl; rw [List.eq_of_mem_replicate hl]; simp; omega) (by simp [playF]), ⟨[], Ages.empty nb⟩, by simp [playF], by simp [playF]⟩
  | succ k ih => exact ih.step _ _ _

theorem play_bad (nb cap : Int) (v : Value) (w : World) (h : nb < 1 ∨ (1 ≤ nb ∧ 16 < nb) ∨ (1 ≤ nb ∧ nb ≤ 16 ∧ cap < 1) ∨ (1 ≤ nb ∧ nb ≤ 16 ∧ 1 ≤ cap ∧ 32 < cap)) :
    Calls Try.prog 23 #[.int .i64 nb, .int .i64 cap, v] w fun e w' => e = .returned (.pointer none) ∧ w = w' := by
  have H := hid h
  clear h
  go_enter Try.func23, Try.ntmps23
  go_wp2_with fail
  refine (new_bad nb cap _ H.out).mono ?_
  rintro e w1 ⟨rfl, rfl⟩
  go_wp2_with fail
  go_ret
  exact ⟨rfl, rfl⟩

set_option maxHeartbeats 1600000 in
theorem play_good (a : Nat) (cap : Int) (A : Option Addr) (n c : Nat) (kd bay : Nat → Int) (it : Nat → ByteArray) (w : World) (ho : Ops w A n kd bay it) (hn : n ≤ 60) (hb1 : 1 ≤ a) (hb2 : a ≤ 16) (hb3 : 1 ≤ cap) (hb4 : cap ≤ 32) :
    Calls Try.prog 23 #[.int .i64 a, .int .i64 cap, .slice A n c] w fun e w' => ∃ y, e = .returned (.pointer (some ⟨y, 0, none⟩)) ∧
      YardAt (Up w.heap.size) w' y cap (playF cap a kd bay it n).1 (playF cap a kd bay it n).2 ∧ Below w.heap.size w w' := by
  go_enter Try.func23, Try.ntmps23
  go_wp2_with fail
  refine (new_good a cap _ hb1 hb2 hb3 hb4).mono ?_
  rintro e w1 ⟨y, rfl, h0, m0⟩
  have H0 : Hid (YardAt (Up w.heap.size) w1 y cap 0 (List.replicate a [])) := h0
  have mB : Below w.heap.size w w1 := m0.toBelow _ (Nat.le_refl _) (fun _ _ h => h)
  clear h0 m0
  go_wp2_with fail
  go_loopw [9] (fun s wr => ∃ k : Nat, k ≤ n ∧ s = .int .i64 k ∧ Hid (YardAt (Up w.heap.size) wr y cap (playF cap a kd bay it k).1 (playF cap a kd bay it k).2) ∧ Below w.heap.size w wr)
    (fun s _ => n - (intOf s).toNat)
  case atStart => exact ⟨0, by omega, rfl, H0, mB⟩
  case round =>
    obtain ⟨k, hk, rfl, hY, mw⟩ := hrel
    by_cases hlt : k < n
    · obtain ⟨b, off, rfl, hb, hcc⟩ := ho.2 (by omega)
      obtain ⟨c0, c1, c2, _⟩ := hcc k hlt
      have hsz := mw.size
      have d0 := (mw.cell (p := ⟨b, off + k * 3, none⟩) hb).trans c0
      have d1 := (mw.cell (p := ⟨b, off + k * 3 + 1, none⟩) hb).trans c1
      have d2 := (mw.cell (p := ⟨b, off + k * 3 + 2, none⟩) hb).trans c2
      have hbr : b < wr.heap.size := by omega
      clear hcc c0 c1 c2
      have hg := playF_good hb1 hb2 hb3 hb4 kd bay it k
      have hf := hid hg.fits
      have hle := hg.le
      have hstep : Hid (playF cap a kd bay it (k + 1) = stepF cap (playF cap a kd bay it k) (kd k) (bay k) (it k)) := rfl
      generalize playF cap a kd bay it k = s at hY hf hle hstep
      clear hg
      by_cases hk0 : kd k = 0
      · have hk0' : (kd k == 0) = true := by simpa using hk0
        have Hk0 := hid hk0
        clear hk0
        go_wp2_with fail
        refine wp_region_still_tail 11 (by kernel_rfl) (by kernel_rfl) ?_
        simp only [List.take_succ_cons, List.take_zero, List.drop_succ_cons, List.drop_zero]
        change wpStill Try.prog _ (World.drew wr) (fun a' => wpList Try.prog _ _ _ a' (World.drew wr)) _ _
        repeat still_step
        refine wpStill_nil ?_
        go_wp2_with fail
        have hYd : YardAt (Up w.heap.size) wr.drew y cap s.1 s.2 := hY.out.mod0 ((Mod.refl _ _).drew)
        refine (put_any (bay k) (it k) wr.drew hYd hf.out (by omega)).mono ?_
        rintro e w4 ⟨rfl, h4, mt4⟩
        have H4 := hid (h4.up (B := w.heap.size) (by exact hsz))
        have mw4 : Below w.heap.size w w4 := (mw.drew).trans (mt4.below (by exact hsz))
        clear h4 mt4 hYd d0 d1 d2
        go_wp2_with fail
        go_roundw
        case rel =>
          refine ⟨k + 1, by omega, by go_num, ?_, mw4⟩
          show YardAt _ _ _ _ _ _
          rw [hstep.out, stepF, if_pos Hk0.out]
          exact H4.out
        case measure => simp [intOf]; omega
      · have hk0' : (kd k == 0) = false := by simpa using hk0
        have Hk0 := hid hk0
        clear hk0
        by_cases hk2 : kd k = 2
        · have hk2' : (kd k == 2) = true := by simpa using hk2
          have Hk2 := hid hk2
          clear hk2
          go_wp2_with fail
          refine (oldest_c wr hY.out hf.out).mono ?_
          rintro e w4 ⟨rfl, m4⟩
          have H4 := hid (hY.out.mod0 m4)
          have hsz4 : w.heap.size ≤ w4.heap.size := Nat.le_trans hsz m4.size
          go_wp2_with fail
          refine (take_any (oldF s.1 s.2.flatten).1 w4 H4.out hf.out).mono ?_
          rintro e w5 ⟨rfl, h5, mt5⟩
          have H5 := hid (h5.up (B := w.heap.size) hsz4)
          have mw5 : Below w.heap.size w w5 := (mw.trans (m4.toBelow _ hsz (fun _ _ h => h))).trans (mt5.below hsz4)
          clear h5 mt5
          go_wp2_with fail
          go_roundw
          case rel =>
            refine ⟨k + 1, by omega, by go_num, ?_, mw5⟩
            show YardAt _ _ _ _ _ _
            rw [hstep.out, stepF, if_neg Hk0.out, if_pos Hk2.out]
            exact H5.out
          case measure => simp [intOf]; omega
        · have hk2' : (kd k == 2) = false := by simpa using hk2
          have Hk2 := hid hk2
          clear hk2
          go_wp2_with fail
          refine (take_any (it k) wr hY.out hf.out).mono ?_
          rintro e w5 ⟨rfl, h5, mt5⟩
          have H5 := hid (h5.up (B := w.heap.size) hsz)
          have mw5 : Below w.heap.size w w5 := mw.trans (mt5.below hsz)
          clear h5 mt5
          go_wp2_with fail
          go_roundw
          case rel =>
            refine ⟨k + 1, by omega, by go_num, ?_, mw5⟩
            show YardAt _ _ _ _ _ _
            rw [hstep.out, stepF, if_neg Hk0.out, if_neg Hk2.out]
            exact H5.out
          case measure => simp [intOf]; omega
    · have : k = n := by omega
      subst this
      go_wp2_with fail
      go_ret
      exact ⟨_, rfl, hY.out, mw⟩
end Go.Proofs.Ytknijmhhlfooaaa
