/- move: the topmost item goes to the first other bay that has room. -/
import Derived.Test.YtknijmhhlfooaaaPut
namespace Go.Proofs.Ytknijmhhlfooaaa
open Go.RowKit
set_option linter.unusedVariables false
set_option linter.unusedSimpArgs false

def hasRoom (cap : Int) (bays : List (List Pc)) (b i : Nat) : Bool := decide (i ≠ b) && decide (((bays.getD i []).length : Int) < cap)
def firstRoom (cap : Int) (bays : List (List Pc)) (b : Nat) : Option Nat := (List.range bays.length).find? (hasRoom cap bays b)
def moveTo (bays : List (List Pc)) (b i : Nat) : List (List Pc) := (bays.set b (bays.getD b []).dropLast).set i (bays.getD i [] ++ [(bays.getD b []).getLastD (.empty, 0)])
def moveF (cap : Int) (bays : List (List Pc)) (b : Nat) : List (List Pc) := match firstRoom cap bays b with
  | some i => moveTo bays b i
  | none => bays

theorem find_range_some {p : Nat → Bool} {n a : Nat} (ha : a < n) (hp : p a = true) (hno : ∀ j, j < a → p j = false) : (List.range n).find? p = some a := by
  rw [List.find?_range_eq_some]
  exact ⟨hp, List.mem_range.2 ha, fun j hj => by rw [hno j hj]; rfl⟩
theorem find_range_none {p : Nat → Bool} {n : Nat} (hno : ∀ j, j < n → p j = false) : (List.range n).find? p = none := by
  rw [List.find?_eq_none]
  intro x hx
  rw [hno x (List.mem_range.1 hx)]
  simp
theorem snoc_of {α : Type} {L : List α} (h : L ≠ []) : ∃ L' x, L = L' ++ [x] := ⟨L.dropLast, L.getLast h, (List.dropLast_concat_getLast h).symm⟩

theorem flat_snoc (L : List Pc) (x : Pc) : flat (L ++ [x]) = flat L ++ [.string x.1, .int .i64 x.2] := by rw [flat_append]; rfl
theorem getD_set_ne {bays : List (List Pc)} {b a : Nat} {L : List Pc} (h : b ≠ a) : (bays.set b L).getD a [] = bays.getD a [] := by simp [List.getD_eq_getElem?_getD, List.getElem?_set, h]
theorem getD_set_eq {bays : List (List Pc)} {b : Nat} {L : List Pc} (h : b < bays.length) : (bays.set b L).getD b [] = L := by simp [List.getD_eq_getElem?_getD, h]

/-- The pop of a bay. -/
theorem yard_pop {F : Nat → Prop} {y : Nat} {cap puts : Int} {bays : List (List Pc)} {B c : Nat} {ps : Nat → Nat} {vs : Nat → Value} (b : Nat) (w : World) (h : YIn F w y cap puts bays B c ps vs) (hb : b < bays.length) (L : List Pc) (x : Pc) (hL : bays.getD b [] = L ++ [x]) (hl : L.length ≤ 100) :
    Calls Try.prog 28 #[.pointer (some ⟨ps b, 0, none⟩)] w fun e w' => e = .returned (.agg #[.string x.1, .int .i64 x.2]) ∧
      ∃ vs', YIn (fun k => F k ∨ w.heap.size ≤ k) w' y cap puts (bays.set b L) B c ps vs' ∧ MT F w w' ∧ (∀ j, j ≠ b → vs' j = vs j) := by
  have ho := h.ho b hb
  rw [hL, flat_snoc] at ho
  obtain ⟨g, cc, hv, _, hg⟩ := ho.form (by simp)
  have hpp := h.hp b hb
  have hlen : (L ++ [x]).length = L.length + 1 := by simp
  rw [hlen] at ho hv
  rw [hv] at ho hpp
  refine (pop_c (ps b) L.length g cc (flat L) x.1 x.2 w hpp ho (flat_length L) (by omega)).mono ?_
  rintro e w' ⟨rfl, hp', ho', m⟩
  obtain ⟨h', mt⟩ := h.change hb (L := L) (v' := .slice (some ⟨g, 0, none⟩) L.length cc) (m.mono (fun k _ e => .inl e)) hp' ho' (by left; rw [hv]; rfl)
  exact ⟨rfl, _, h', mt, fun j hj => by simp [hj]⟩
/-- The push on a bay. -/
theorem yard_push {F : Nat → Prop} {y : Nat} {cap puts : Int} {bays : List (List Pc)} {B c : Nat} {ps : Nat → Nat} {vs : Nat → Value} (b : Nat) (it : ByteArray) (si : Int) (w : World) (h : YIn F w y cap puts bays B c ps vs) (hb : b < bays.length) (hl : (bays.getD b []).length ≤ 100) :
    Calls Try.prog 26 #[.pointer (some ⟨ps b, 0, none⟩), .agg #[.string it, .int .i64 si]] w fun e w' => e = .returned (.tuple #[]) ∧
      ∃ vs', YIn (fun k => F k ∨ w.heap.size ≤ k) w' y cap puts (bays.set b (bays.getD b [] ++ [(it, si)])) B c ps vs' ∧ MT F w w' := by
  have ho := h.ho b hb
  obtain ⟨A, cc, hv⟩ := own_val ho
  refine (push_c 0 (ps b) (bays.getD b []).length (vs b) (flat (bays.getD b [])) it si _ (h.hp b hb) (Nat.zero_le _) ⟨A, cc, hv⟩ ho (by omega) (Nat.zero_le _)).mono ?_
  rintro e w4 ⟨rfl, g, cg, hp4, ho4, m4, hg4⟩
  have hfl : flat (bays.getD b []) ++ [.string it, .int .i64 si] = flat (bays.getD b [] ++ [(it, si)]) := by rw [flat_append]; rfl
  rw [hfl] at ho4
  obtain ⟨h4, mt4⟩ := h.change hb (L := bays.getD b [] ++ [(it, si)]) m4 hp4 (by rw [List.length_append]; exact ho4) (by
    rcases hg4 with hg4 | hg4
    · exact .inl hg4.symm
    · exact .inr ⟨g, rfl, hg4⟩)
  exact ⟨rfl, _, h4, mt4⟩

set_option maxHeartbeats 800000 in
theorem move_c {F : Nat → Prop} {y : Nat} {cap puts : Int} {bays : List (List Pc)} (b : Nat) (w : World) (h : YardAt F w y cap puts bays) (hnb : bays.length ≤ 16) (hlen : ∀ i, i < bays.length → (bays.getD i []).length ≤ 32) (hb : b < bays.length) (hne : bays.getD b [] ≠ []) :
    Calls Try.prog 27 #[.pointer (some ⟨y, 0, none⟩), .int .i64 (b : Int)] w fun e w' => e = .returned (.tuple #[]) ∧
      YardAt (fun k => F k ∨ w.heap.size ≤ k) w' y cap puts (moveF cap bays b) ∧ MT F w w' := by
  have hY := h
  obtain ⟨B, c, ps, vs, h⟩ := h
  obtain ⟨c0, c1, c2⟩ := At.three h.hy
  obtain ⟨Lb, x, hLb⟩ := snoc_of hne
  have hl32 := hlen b hb
  rw [hLb, List.length_append] at hl32
  clear hne
  have HLb := hid hLb
  clear hLb
  have hb2 : (b : Int) < bays.length := by omega
  go_enter Try.func27, Try.ntmps27
  go_wp2_with fail
  go_loopw [11] (fun s wr => ∃ a : Nat, a ≤ bays.length ∧ s = .int .i64 a ∧ Hid (∀ j, j < a → hasRoom cap bays b j = false) ∧ Mod (fun _ => False) w wr)
    (fun s _ => bays.length - (intOf s).toNat)
  case atStart => exact ⟨0, by omega, rfl, fun j hj => by omega, Mod.refl _ _⟩
  case round =>
    obtain ⟨a, ha, rfl, hno, m⟩ := hrel
    by_cases hlt : a < bays.length
    · have hr := h.mod0 m
      obtain ⟨d0, d1, d2⟩ := At.three hr.hy
      obtain ⟨arr, hB, hpt⟩ := hr.hB
      have q0 := arr_cell hB (hpt a hlt)
      have qb := arr_cell hB (hpt b hb)
      have q1 := At.one (hr.hp a hlt)
      have ho := hr.ho a hlt
      obtain ⟨A, cc, hv⟩ := own_val ho
      rw [hv] at q1 ho
      have hla := hlen a hlt
      generalize hL : (bays.getD a []).length = n at q1 hla
      have HL := hid hL
      clear c0 c1 c2 hpt hv hB hlen ho hL h hY
      by_cases hab : a = b
      · subst hab
        go_wp2_with fail
        go_quiet (fail)
        go_wp2_with fail
        go_roundw
        case rel =>
          refine ⟨a + 1, by omega, by go_num, fun j hj => ?_, by exact m.drewN _⟩
          by_cases e : j = a
          · subst e
            simp [hasRoom]
          · exact hno.out j (by omega)
        case measure => simp [intOf]; omega
      · have hab' : ¬ ((a : Int) = (b : Int)) := by omega
        have hae : (((a : Int) == (b : Int)) = false) := by simp; omega
        by_cases hcap : (n : Int) < cap
        · go_wp2_with fail
          go_quiet ((go_at_call 25; exact Calls.quiet_of_same (size_c (ps a) n cc A _ q1)))
          go_wp2_with fail
          have hr2 : YIn F (wr.drewN nq) y cap puts bays B c ps vs := hr.mod0 ((Mod.refl _ _).drewN _)
          have m2 : Mod (fun _ => False) w (wr.drewN nq) := m.drewN _
          refine (yard_pop b _ hr2 hb Lb x HLb.out (by omega)).mono ?_
          rintro e w3 ⟨rfl, vs3, h3, mt3, hvs3⟩
          have H3 := hid h3
          clear h3 hr hr2
          go_wp2_with fail
          have h3 := H3.out
          have hba : b ≠ a := fun e => hab e.symm
          have hL3 : (bays.set b Lb).getD a [] = bays.getD a [] := getD_set_ne hba
          have hla3 : ((bays.set b Lb).getD a []).length ≤ 100 := by rw [hL3, HL.out]; omega
          refine (yard_push a x.1 x.2 _ h3 (by simpa using hlt) hla3).mono ?_
          rintro e w4 ⟨rfl, vs4, h4, mt4⟩
          rw [hL3] at h4
          have H4 := hid h4
          clear h4 h3 H3
          go_wp2_with fail
          refine bodyPost_ret (results_none rfl _ _ _) rfl ?_
          have e : firstRoom cap bays b = some a := find_range_some hlt (by have := HL.out; simp only [hasRoom, this]; simp; omega) hno.out
          have h4 := H4.out
          refine ⟨rfl, ?_, (MT.of0 m2).trans_new ((mt3.mono (fun k _ => .inl)).trans (mt4.mono (fun k _ hF => ?_)))⟩
          · simp only [moveF, e, moveTo, HLb.out, List.dropLast_concat, List.getLastD_concat]
            refine ⟨_, _, _, _, h4.mono (fun k _ hF => ?_)⟩
            rcases hF with (hF | hF) | hF
            · exact .inl hF
            · exact .inr (Nat.le_trans m2.size hF)
            · exact .inr (Nat.le_trans m2.size (Nat.le_trans mt3.size hF))
          · rcases hF with hF | hF
            · exact .inl hF
            · exact .inr (Nat.le_trans m2.size hF)
        · go_wp2_with fail
          go_quiet ((go_at_call 25; exact Calls.quiet_of_same (size_c (ps a) n cc A _ q1)))
          go_wp2_with fail
          go_roundw
          case rel =>
            refine ⟨a + 1, by omega, by go_num, fun j hj => ?_, by exact m.drewN _⟩
            by_cases e : j = a
            · subst e
              have := HL.out
              simp only [hasRoom, this]
              simp
              omega
            · exact hno.out j (by omega)
          case measure => simp [intOf]; omega
    · have : a = bays.length := by omega
      subst this
      go_wp2_with fail
      go_end0
      have e : firstRoom cap bays b = none := find_range_none hno.out
      refine ⟨rfl, ?_, MT.of0 m⟩
      simp only [moveF, e]
      exact ⟨_, _, _, _, (h.mod0 m).mono (fun k _ hF => .inl hF)⟩
end Go.Proofs.Ytknijmhhlfooaaa
