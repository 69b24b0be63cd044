/- A yard above a border; nil yards; awake; short. -/
import Derived.Test.YtknijmhhlfooaaaReads
namespace Go.Proofs.Ytknijmhhlfooaaa
open Go.RowKit
set_option linter.unusedVariables false
set_option linter.unusedSimpArgs false

/-- The blocks from a border on. -/
abbrev Up (B : Nat) : Nat → Prop := fun k => B ≤ k
theorem YardAt.up {B : Nat} {w w' : World} {y : Nat} {cap puts : Int} {bays : List (List Pc)} (h : YardAt (fun k => Up B k ∨ w.heap.size ≤ k) w' y cap puts bays) (hB : B ≤ w.heap.size) : YardAt (Up B) w' y cap puts bays := by
  obtain ⟨b, c, ps, vs, h⟩ := h
  exact ⟨b, c, ps, vs, h.mono (fun k _ hk => hk.elim id (Nat.le_trans hB))⟩
theorem YardAt.mod0 {F : Nat → Prop} {w w' : World} {y : Nat} {cap puts : Int} {bays : List (List Pc)} (h : YardAt F w y cap puts bays) (m : Mod (fun _ => False) w w') : YardAt F w' y cap puts bays := by
  obtain ⟨b, c, ps, vs, h⟩ := h
  exact ⟨b, c, ps, vs, h.mod0 m⟩
theorem YardAt.fin {F : Nat → Prop} {w : World} {y : Nat} {cap puts puts' : Int} {bays bays' : List (List Pc)} (h : YardAt F w y cap puts bays) (hp : puts = puts') (hb : bays = bays') : YardAt F w y cap puts' bays' := by subst hp; subst hb; exact h
theorem MT.below {B : Nat} {w w' : World} (h : MT (Up B) w w') (hB : B ≤ w.heap.size) : Below B w w' := Mod.toBelow h B hB (fun i hi hk => by have := hk.1; unfold Up at this; omega)

theorem put_up {B y : Nat} {cap puts : Int} {bays : List (List Pc)} (b : Nat) (it : ByteArray) (w : World) (h : YardAt (Up B) w y cap puts bays) (hB : B ≤ w.heap.size) (hf : Fits cap puts bays) (hb : b < bays.length) (hi : it.toList ≠ []) (hx : (find bays it).2.2 = false) (hl : ((bays.getD b []).length : Int) < cap) (hp : puts ≤ 1000000) :
    Calls Try.prog 12 #[.pointer (some ⟨y, 0, none⟩), .int .i64 (b : Int), .string it] w fun e w' => e = .returned (.int .i64 0) ∧
      YardAt (Up B) w' y cap (puts + 1) (bays.set b (bays.getD b [] ++ [(it, puts)])) ∧ MT (Up B) w w' :=
  (put_ok b it w h hf hb hi hx hl hp).mono (fun e w' ⟨h1, h2, h3⟩ => ⟨h1, h2.up hB, h3⟩)

theorem nil_put (b : Int) (it : ByteArray) (w : World) : Calls Try.prog 12 #[.pointer none, .int .i64 b, .string it] w fun e w' => e = .returned (.int .i64 1) ∧ w' = w := by
  go_enter Try.func12, Try.ntmps12
  go_wp2
  go_ret
  exact ⟨rfl, rfl⟩
theorem nil_take (it : ByteArray) (w : World) : Calls Try.prog 14 #[.pointer none, .string it] w fun e w' => e = .returned (.tuple #[.int .i64 0, .int .i64 1]) ∧ w' = w := by
  go_enter Try.func14, Try.ntmps14
  go_wp2
  go_ret2
  exact ⟨rfl, rfl⟩
theorem nil_find (it : ByteArray) (w : World) : Calls Try.prog 16 #[.pointer none, .string it] w fun e w' => e = .returned (.tuple #[.int .i64 0, .int .i64 0, .bool false]) ∧ w' = w := by
  go_enter Try.func16, Try.ntmps16
  go_wp2
  go_ret3
  exact ⟨rfl, rfl⟩
theorem nil_oldest (w : World) : Calls Try.prog 13 #[.pointer none] w fun e w' => e = .returned (.tuple #[.string ⟨#[]⟩, .bool false]) ∧ w' = w := by
  go_enter Try.func13, Try.ntmps13
  go_wp2
  go_ret2
  exact ⟨rfl, rfl⟩
theorem nil_len (w : World) : Calls Try.prog 15 #[.pointer none] w fun e w' => e = .returned (.int .i64 0) ∧ w' = w := by
  go_enter Try.func15, Try.ntmps15
  go_wp2
  go_ret
  exact ⟨rfl, rfl⟩
theorem nil_bay (b : Int) (w : World) : Calls Try.prog 17 #[.pointer none, .int .i64 b] w fun e w' => e = .returned (.slice none 0 0) ∧ w' = w := by
  go_enter Try.func17, Try.ntmps17
  go_wp2
  go_ret
  exact ⟨rfl, rfl⟩

def ia : ByteArray := ⟨#[97]⟩
def ib : ByteArray := ⟨#[98]⟩
def ic : ByteArray := ⟨#[99]⟩
def s0 : List (List Pc) := [[], [], []]
def s1 : List (List Pc) := [[(ia, 0)], [], []]
def s2 : List (List Pc) := [[(ia, 0), (ib, 1)], [], []]
def s3 : List (List Pc) := [[(ia, 0), (ib, 1)], [(ic, 2)], []]
def s4 : List (List Pc) := [[], [(ic, 2), (ib, 1)], []]

theorem fits_of {cap puts : Int} {bays : List (List Pc)} (n1 : 1 ≤ bays.length) (n2 : bays.length ≤ 16) (c1 : 1 ≤ cap) (c2 : cap ≤ 32) (len : ∀ l ∈ bays, (l.length : Int) ≤ cap) (p0 : 0 ≤ puts) : Fits cap puts bays :=
  ⟨n1, n2, c1, c2, fun i hi => by
    have : bays.getD i [] = bays[i] := by simp [List.getD_eq_getElem?_getD, hi]
    rw [this]
    exact len _ (List.getElem_mem hi), p0⟩

set_option maxRecDepth 100000 in
theorem awake_c (w : World) : Calls Try.prog 10 #[] w fun e w' => e = .returned (.bool true) ∧ Below w.heap.size w w' := by
  have f0 : Hid (Fits 2 0 s0) := fits_of (by decide) (by decide) (by decide) (by decide) (by decide) (by decide)
  have f1 : Hid (Fits 2 1 s1) := fits_of (by decide) (by decide) (by decide) (by decide) (by decide) (by decide)
  have f2 : Hid (Fits 2 2 s2) := fits_of (by decide) (by decide) (by decide) (by decide) (by decide) (by decide)
  have f3 : Hid (Fits 2 3 s3) := fits_of (by decide) (by decide) (by decide) (by decide) (by decide) (by decide)
  have f4 : Hid (Fits 2 3 s4) := fits_of (by decide) (by decide) (by decide) (by decide) (by decide) (by decide)
  have x0 : Hid ((find s0 ia).2.2 = false) := by show _ = _; decide
  have x1 : Hid ((find s1 ib).2.2 = false) := by show _ = _; decide
  have x2 : Hid ((find s2 ic).2.2 = false) := by show _ = _; decide
  have x3 : Hid (find s3 ia = (((0 : Nat) : Int), ((1 : Nat) : Int), true)) := by show _ = _; decide
  have x4 : Hid (find s4 ic = (1, 1, true)) := by show _ = _; decide
  have na : Hid (ia.toList ≠ []) := by show _ ≠ _; rw [ByteArray.toList_eq]; decide
  have nb : Hid (ib.toList ≠ []) := by show _ ≠ _; rw [ByteArray.toList_eq]; decide
  have nc : Hid (ic.toList ≠ []) := by show _ ≠ _; rw [ByteArray.toList_eq]; decide
  have ho : Hid (oldF 3 s4.flatten = (ib, 1)) := by show _ = _; decide
  have hb : Hid (bayF s4 1 = [(ic, 2), (ib, 1)]) := by show _ = _; decide
  go_enter Try.func10, Try.ntmps10
  go_wp2_with fail
  refine (new_good 3 2 w (by decide) (by decide) (by decide) (by decide)).mono ?_
  rintro e w1 ⟨y, rfl, h0, m0⟩
  have H0 : Hid (YardAt (Up w.heap.size) w1 y 2 0 s0) := h0
  clear h0
  go_wp2_with fail
  refine (put_up 0 ia w1 H0.out m0.size f0.out (by decide) na.out x0.out (by decide) (by decide)).mono ?_
  rintro e w2 ⟨rfl, h1, mt1⟩
  have H1 : Hid (YardAt (Up w.heap.size) w2 y 2 1 s1) := h1
  have mt : MT (Up w.heap.size) w w2 := (MT.of0 m0).trans mt1
  clear h1 mt1
  go_wp2_with fail
  refine (put_up 0 ib w2 H1.out mt.size f1.out (by decide) nb.out x1.out (by decide) (by decide)).mono ?_
  rintro e w3 ⟨rfl, h2, mt2⟩
  have H2 : Hid (YardAt (Up w.heap.size) w3 y 2 2 s2) := h2
  replace mt := mt.trans mt2
  clear h2 mt2
  go_wp2_with fail
  refine (put_up 1 ic w3 H2.out mt.size f2.out (by decide) nc.out x2.out (by decide) (by decide)).mono ?_
  rintro e w4 ⟨rfl, h3, mt3⟩
  have H3 : Hid (YardAt (Up w.heap.size) w4 y 2 3 s3) := h3
  replace mt := mt.trans mt3
  clear h3 mt3
  go_wp2_with fail
  refine (put_range 3 ⟨#[]⟩ w4 H3.out f3.out (by decide)).mono ?_
  rintro e w5 ⟨rfl, rfl⟩
  go_wp2_with fail
  refine (take_go ia 0 1 w4 H3.out f3.out x3.out (by decide) (by decide)).mono ?_
  rintro e w6 hq
  have hr : ¬ (roomTo 2 s3 0 s3.length < ((1 : Nat) : Int)) := by decide
  obtain ⟨_, rfl, h4, mt4⟩ := hq.resolve_left (fun h => hr h.1)
  clear hr hq
  have H4 : Hid (YardAt (Up w.heap.size) w6 y 2 3 s4) := h4.up mt.size
  replace mt := mt.trans mt4
  clear h4 mt4
  go_wp2_with fail
  refine (bay_c 1 w6 H4.out f4.out).mono ?_
  rw [hb.out]
  rintro e w7 ⟨v, rfl, hv, m7⟩
  obtain ⟨g, cc, rfl, _, hg⟩ := hv.form (by decide)
  have g1 : w7.cell? ⟨g, 1, none⟩ = some (.string ib) := by
    have := hv.cells (g := g) rfl 1 _ rfl
    rwa [add_plain] at this
  have H7 : Hid (YardAt (Up w.heap.size) w7 y 2 3 s4) := H4.out.mod0 m7
  replace mt := mt.trans (MT.of0 m7)
  clear hv m7 H4
  have sb : ib.toList = [98] := by rw [ByteArray.toList_eq]; rfl
  go_wp2_with fail
  refine (oldest_c w7 H7.out f4.out).mono ?_
  rw [ho.out]
  rintro e w8 ⟨rfl, m8⟩
  have H8 : Hid (YardAt (Up w.heap.size) w8 y 2 3 s4) := H7.out.mod0 m8
  replace mt := mt.trans (MT.of0 m8)
  replace g1 := m8.keep0 g1
  clear m8 H7
  go_wp2_with fail
  refine (find_c ic w8 H8.out (by decide) (fun i hi => f4.out.len32 i hi)).mono ?_
  rw [x4.out]
  rintro e w9 ⟨rfl, m9⟩
  have H9 : Hid (YardAt (Up w.heap.size) w9 y 2 3 s4) := H8.out.mod0 m9
  replace mt := mt.trans (MT.of0 m9)
  replace g1 := m9.keep0 g1
  clear m9 H8
  go_wp2_with fail
  refine (len_c w9 H9.out f4.out).mono ?_
  rintro e w10 ⟨rfl, m10⟩
  replace mt := mt.trans (MT.of0 m10)
  clear m10 H9
  go_wp2_with fail
  go_ret
  exact ⟨rfl, mt.below (Nat.le_refl _)⟩
end Go.Proofs.Ytknijmhhlfooaaa
