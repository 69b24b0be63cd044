/- Take: its contract. -/
import Derived.Test.YtknijmhhlfooaaaMove
namespace Go.Proofs.Ytknijmhhlfooaaa
open Go.RowKit
set_option linter.unusedVariables false
set_option linter.unusedSimpArgs false

def roomTo (cap : Int) (bays : List (List Pc)) (b : Nat) : Nat → Int
  | 0 => 0
  | a + 1 => roomTo cap bays b a + (if a = b then 0 else cap - ((bays.getD a []).length : Int))
def movesF (cap : Int) (bays : List (List Pc)) (b : Nat) : Nat → List (List Pc)
  | 0 => bays
  | j + 1 => moveF cap (movesF cap bays b j) b
def takeTop (bays : List (List Pc)) (b : Nat) : List (List Pc) := bays.set b (bays.getD b []).dropLast

theorem firstRoom_some {cap : Int} {bays : List (List Pc)} {b i : Nat} (h : firstRoom cap bays b = some i) : i < bays.length ∧ i ≠ b ∧ ((bays.getD i []).length : Int) < cap ∧ ∀ j, j < i → hasRoom cap bays b j = false := by
  unfold firstRoom at h
  rw [List.find?_range_eq_some] at h
  obtain ⟨h1, h2, h3⟩ := h
  simp only [hasRoom, Bool.and_eq_true, decide_eq_true_eq] at h1
  exact ⟨List.mem_range.1 h2, h1.1, h1.2, fun j hj => by have := h3 j hj; simpa using this⟩
theorem moveF_length (cap : Int) (bays : List (List Pc)) (b : Nat) : (moveF cap bays b).length = bays.length := by
  unfold moveF
  split
  · simp [moveTo]
  · rfl
theorem movesF_length (cap : Int) (bays : List (List Pc)) (b j : Nat) : (movesF cap bays b j).length = bays.length := by
  induction j with
  | zero => rfl
  | succ j ih => rw [movesF, moveF_length, ih]
theorem getD_moveTo_b {bays : List (List Pc)} {b i : Nat} (hb : b < bays.length) (hi : i ≠ b) : (moveTo bays b i).getD b [] = (bays.getD b []).dropLast := by
  unfold moveTo
  rw [getD_set_ne hi, getD_set_eq hb]
theorem getD_moveTo_i {bays : List (List Pc)} {b i : Nat} (hi : i < bays.length) : (moveTo bays b i).getD i [] = bays.getD i [] ++ [(bays.getD b []).getLastD (.empty, 0)] := by
  unfold moveTo
  rw [getD_set_eq (by simpa using hi)]
theorem getD_moveTo_o {bays : List (List Pc)} {b i j : Nat} (hb : j ≠ b) (hi : j ≠ i) : (moveTo bays b i).getD j [] = bays.getD j [] := by
  unfold moveTo
  rw [getD_set_ne (Ne.symm hi), getD_set_ne (Ne.symm hb)]
theorem Fits.move {cap puts : Int} {bays : List (List Pc)} (h : Fits cap puts bays) {b : Nat} (hb : b < bays.length) : Fits cap puts (moveF cap bays b) := by
  refine ⟨by rw [moveF_length]; exact h.n1, by rw [moveF_length]; exact h.n2, h.c1, h.c2, fun j hj => ?_, h.p0⟩
  rw [moveF_length] at hj
  unfold moveF
  split
  · rename_i i hi
    obtain ⟨h1, h2, h3, _⟩ := firstRoom_some hi
    by_cases e : j = b
    · subst e
      rw [getD_moveTo_b hj h2, List.length_dropLast]
      have := h.len j hj
      omega
    · by_cases e' : j = i
      · subst e'
        rw [getD_moveTo_i h1]
        simp only [List.length_append, List.length_cons, List.length_nil]
        omega
      · rw [getD_moveTo_o e e']
        exact h.len j hj
  · exact h.len j hj
theorem Fits.moves {cap puts : Int} {bays : List (List Pc)} (h : Fits cap puts bays) {b : Nat} (hb : b < bays.length) (j : Nat) : Fits cap puts (movesF cap bays b j) := by
  induction j with
  | zero => exact h
  | succ j ih => exact ih.move (by rw [movesF_length]; exact hb)
theorem moves_len (cap : Int) (bays : List (List Pc)) (b : Nat) (hb : b < bays.length) (j : Nat) : (bays.getD b []).length ≤ ((movesF cap bays b j).getD b []).length + j := by
  induction j with
  | zero => exact Nat.le_refl _
  | succ j ih =>
    rw [movesF]
    unfold moveF
    split
    · rename_i i hi
      obtain ⟨h1, h2, h3, _⟩ := firstRoom_some hi
      rw [getD_moveTo_b (by rw [movesF_length]; exact hb) h2, List.length_dropLast]
      omega
    · omega
theorem roomTo_bound {cap puts : Int} {bays : List (List Pc)} (h : Fits cap puts bays) (b a : Nat) (ha : a ≤ bays.length) : 0 ≤ roomTo cap bays b a ∧ roomTo cap bays b a ≤ 32 * a := by
  induction a with
  | zero => simp [roomTo]
  | succ a ih =>
    have := ih (by omega)
    have h1 := h.len a (by omega)
    have h2 := h.c2
    have h3 := h.c1
    rw [roomTo]
    split <;> omega

theorem take_none {F : Nat → Prop} {y : Nat} {cap puts : Int} {bays : List (List Pc)} (it : ByteArray) (w : World) (h : YardAt F w y cap puts bays) (hf : Fits cap puts bays) (hx : (find bays it).2.2 = false) :
    Calls Try.prog 14 #[.pointer (some ⟨y, 0, none⟩), .string it] w fun e w' => e = .returned (.tuple #[.int .i64 0, .int .i64 8]) ∧ Mod (fun _ => False) w w' := by
  have Hx := hid hx
  clear hx
  go_enter Try.func14, Try.ntmps14
  go_wp2_with fail
  refine (find_c it w h hf.n2 hf.len32).mono ?_
  rw [Hx.out]
  rintro e w1 ⟨rfl, m1⟩
  go_wp2_with fail
  go_ret2
  exact ⟨rfl, m1⟩

set_option maxHeartbeats 1600000 in
theorem take_go {F : Nat → Prop} {y : Nat} {cap puts : Int} {bays : List (List Pc)} (it : ByteArray) (b ab : Nat) (w : World) (h : YardAt F w y cap puts bays) (hf : Fits cap puts bays) (hx : find bays it = ((b : Int), (ab : Int), true)) (hb : b < bays.length) (hab : ab < (bays.getD b []).length) :
    Calls Try.prog 14 #[.pointer (some ⟨y, 0, none⟩), .string it] w fun e w' =>
      (roomTo cap bays b bays.length < ab ∧ e = .returned (.tuple #[.int .i64 0, .int .i64 12]) ∧ Mod (fun _ => False) w w') ∨
      ((ab : Int) ≤ roomTo cap bays b bays.length ∧ e = .returned (.tuple #[.int .i64 ab, .int .i64 0]) ∧ YardAt (fun k => F k ∨ w.heap.size ≤ k) w' y cap puts (takeTop (movesF cap bays b ab) b) ∧ MT F w w') := by
  have Hx := hid hx
  clear hx
  have hn2 := hf.n2
  have hc2 := hf.c2
  have hc1 := hf.c1
  have hlab := hf.len32 b hb
  have HF := hid hf
  have HY := hid h
  go_enter Try.func14, Try.ntmps14
  go_wp2_with fail
  refine (find_c it w h hf.n2 hf.len32).mono ?_
  rw [Hx.out]
  simp only
  rintro e w1 ⟨rfl, m1⟩
  have h1 : YardAt F w1 y cap puts bays := by
    obtain ⟨B, c, ps, vs, h⟩ := h
    exact ⟨B, c, ps, vs, h.mod0 m1⟩
  have HY1 := hid h1
  obtain ⟨B, c, ps, vs, h1⟩ := h1
  obtain ⟨d0, d1, d2⟩ := At.three h1.hy
  clear h hf
  go_wp2_with fail
  go_loopw [9, 28] (fun r s wr => ∃ a : Nat, a ≤ bays.length ∧ s = .int .i64 a ∧ r = .int .i64 (roomTo cap bays b a) ∧ Mod (fun _ => False) w1 wr)
    (fun r s _ => bays.length - (intOf s).toNat)
  case atStart => exact ⟨0, by omega, rfl, rfl, Mod.refl _ _⟩
  case round =>
    obtain ⟨a, ha, rfl, rfl, m⟩ := hrel
    obtain ⟨hr0, hr1⟩ := roomTo_bound HF.out b a ha
    generalize hr : roomTo cap bays b a = r at hr0 hr1
    have Hr := hid hr
    clear hr
    by_cases hlt : a < bays.length
    · have h2 := h1.mod0 m
      obtain ⟨e0, e1, e2⟩ := At.three h2.hy
      obtain ⟨arr, hB, hpt⟩ := h2.hB
      have q0 := arr_cell hB (hpt a hlt)
      have q1 := At.one (h2.hp a hlt)
      have ho := h2.ho a hlt
      obtain ⟨A, cc, hv⟩ := own_val ho
      rw [hv] at q1
      have hla := HF.out.len a hlt
      generalize hL : (bays.getD a []).length = n at q1 hla
      have HL := hid hL
      clear d0 d1 d2 hpt hv hB ho hL h1
      by_cases hab : a = b
      · subst hab
        go_wp2_with fail
        go_roundw
        case rel =>
          refine ⟨a + 1, by omega, by go_num, ?_, m⟩
          rw [roomTo, Hr.out]
          simp
        case measure => simp [intOf]; omega
      · have hab' : ¬ ((a : Int) = (b : Int)) := by omega
        have hae : (((a : Int) == (b : Int)) = false) := by simp; omega
        go_wp2_with fail
        go_quiet ((go_at_call 25; exact Calls.quiet_of_same (size_c (ps a) n cc A _ q1)))
        go_wp2_with fail
        go_roundw
        case rel =>
          refine ⟨a + 1, by omega, by go_num, ?_, by exact m.drewN _⟩
          rw [roomTo, Hr.out, HL.out, if_neg hab]
        case measure => simp [intOf]; omega
    · have : a = bays.length := by omega
      subst this
      by_cases hroom : r < (ab : Int)
      · go_wp2_with fail
        go_ret2
        exact .inl ⟨by rw [Hr.out]; exact hroom, rfl, m1.trans m⟩
      · have h2 : YardAt F wr y cap puts bays := ⟨_, _, _, _, h1.mod0 m⟩
        have m2 : Mod (fun _ => False) w wr := m1.trans m
        have H2 := hid h2
        have M2 := hid m2
        clear d0 d1 d2 h1 h2 m m1 m2 HY1
        go_wp2_with fail
        obtain ⟨wo, rfl⟩ : ∃ wo : World, wo = wr := ⟨_, rfl⟩
        go_loopw [50] (fun s wr => ∃ j : Nat, j ≤ ab ∧ s = .int .i64 j ∧ YardAt (fun k => F k ∨ w.heap.size ≤ k) wr y cap puts (movesF cap bays b j) ∧ MT F w wr)
          (fun s _ => ab - (intOf s).toNat)
        case atStart =>
          refine ⟨0, by omega, rfl, ?_, MT.of0 M2.out⟩
          obtain ⟨B, c, ps, vs, h⟩ := H2.out
          exact ⟨B, c, ps, vs, h.mono (fun k _ hF => .inl hF)⟩
        case round =>
          obtain ⟨j, hj, rfl, hY, mt⟩ := hrel
          have hfj := HF.out.moves hb j
          have hlj := moves_len cap bays b hb j
          have hbj : b < (movesF cap bays b j).length := by rw [movesF_length]; exact hb
          have HYj := hid hY
          by_cases hlt : j < ab
          · clear hY
            go_wp2_with fail
            refine (move_c b _ HYj.out hfj.n2 hfj.len32 hbj (fun e => by rw [e, List.length_nil] at hlj; omega)).mono ?_
            rintro e w4 ⟨rfl, h4, mt4⟩
            have H4 := hid h4
            clear h4
            go_wp2_with fail
            go_roundw
            case rel =>
              refine ⟨j + 1, by omega, by go_num, ?_, mt.trans_new mt4⟩
              obtain ⟨B, c, ps, vs, h⟩ := H4.out
              refine ⟨B, c, ps, vs, h.mono (fun k _ hF => ?_)⟩
              rcases hF with hF | hF
              · exact hF
              · exact .inr (Nat.le_trans mt.size hF)
            case measure => simp [intOf]; omega
          · have : j = ab := by omega
            subst this
            obtain ⟨B', c', ps', vs', hY⟩ := hY
            obtain ⟨g0, g1, g2⟩ := At.three hY.hy
            obtain ⟨arr, hB, hpt⟩ := hY.hB
            have q0 := arr_cell hB (hpt b hbj)
            have hML := movesF_length cap bays b j
            rw [hML] at g0
            have hne : (movesF cap bays b j).getD b [] ≠ [] := fun e => by rw [e, List.length_nil] at hlj; omega
            obtain ⟨L', x, hL'⟩ := snoc_of hne
            have hl' := hfj.len32 b hbj
            rw [hL', List.length_append] at hl'
            have HL' := hid hL'
            have HYI := hid hY
            clear hB hpt hML hne hL' hY
            go_wp2_with fail
            refine (yard_pop b _ HYI.out hbj L' x HL'.out (by omega)).mono ?_
            rintro e w5 ⟨rfl, vs5, h5, mt5, _⟩
            have H5 := hid h5
            clear h5
            go_wp2_with fail
            go_ret2
            refine .inr ⟨by rw [Hr.out]; omega, rfl, ?_, mt.trans_new mt5⟩
            have : takeTop (movesF cap bays b j) b = (movesF cap bays b j).set b L' := by rw [takeTop, HL'.out, List.dropLast_concat]
            rw [this]
            refine ⟨_, _, _, _, H5.out.mono (fun k _ hF => ?_)⟩
            rcases hF with hF | hF
            · exact hF
            · exact .inr (Nat.le_trans mt.size hF)
end Go.Proofs.Ytknijmhhlfooaaa
