/- Put: its contract. -/
import Derived.Test.YtknijmhhlfooaaaNew
import Derived.StillTailTactics
namespace Go.Proofs.Ytknijmhhlfooaaa
open Go.RowKit
set_option linter.unusedVariables false
set_option linter.unusedSimpArgs false

/-- The bounds that all yards keep. -/
structure Fits (cap puts : Int) (bays : List (List Pc)) : Prop where
  n1 : 1 ≤ bays.length
  n2 : bays.length ≤ 16
  c1 : 1 ≤ cap
  c2 : cap ≤ 32
  len : ∀ i, i < bays.length → ((bays.getD i []).length : Int) ≤ cap
  p0 : 0 ≤ puts
theorem Fits.len32 {cap puts : Int} {bays : List (List Pc)} (h : Fits cap puts bays) : ∀ i, i < bays.length → (bays.getD i []).length ≤ 32 := fun i hi => by have := h.len i hi; have := h.c2; omega

theorem put_range {F : Nat → Prop} {y : Nat} {cap puts : Int} {bays : List (List Pc)} (b : Int) (it : ByteArray) (w : World) (h : YardAt F w y cap puts bays) (hf : Fits cap puts bays) (hb : b < 0 ∨ (0 ≤ b ∧ (bays.length : Int) ≤ b)) :
    Calls Try.prog 12 #[.pointer (some ⟨y, 0, none⟩), .int .i64 b, .string it] w fun e w' => e = .returned (.int .i64 9) ∧ w = w' := by
  obtain ⟨B, c, ps, vs, h⟩ := h
  obtain ⟨c0, c1, c2⟩ := At.three h.hy
  have hn := hf.n2
  rcases hb with hb | hb
  · go_enter Try.func12, Try.ntmps12
    go_wp2_with fail
    go_ret
    exact ⟨rfl, rfl⟩
  · obtain ⟨hb0, hb⟩ := hb
    have hb1 : ¬ b < 0 := by omega
    go_enter Try.func12, Try.ntmps12
    go_wp2_with fail
    go_ret
    exact ⟨rfl, rfl⟩
theorem put_name {F : Nat → Prop} {y : Nat} {cap puts : Int} {bays : List (List Pc)} (b : Nat) (it : ByteArray) (w : World) (h : YardAt F w y cap puts bays) (hf : Fits cap puts bays) (hb : b < bays.length) (hi : it.toList = []) :
    Calls Try.prog 12 #[.pointer (some ⟨y, 0, none⟩), .int .i64 (b : Int), .string it] w fun e w' => e = .returned (.int .i64 6) ∧ w = w' := by
  obtain ⟨B, c, ps, vs, h⟩ := h
  obtain ⟨c0, c1, c2⟩ := At.three h.hy
  have hn := hf.n2
  have hb0 : ¬ (b : Int) < 0 := by omega
  have hb1 : ¬ (bays.length : Int) ≤ b := by omega
  have he : it.toList.isEmpty = true := by rw [hi]; rfl
  clear hi
  go_enter Try.func12, Try.ntmps12
  go_wp2_with fail
  go_ret
  exact ⟨rfl, rfl⟩
theorem put_exists {F : Nat → Prop} {y : Nat} {cap puts : Int} {bays : List (List Pc)} (b : Nat) (it : ByteArray) (w : World) (h : YardAt F w y cap puts bays) (hf : Fits cap puts bays) (hb : b < bays.length) (hi : it.toList ≠ []) (hx : (find bays it).2.2 = true) :
    Calls Try.prog 12 #[.pointer (some ⟨y, 0, none⟩), .int .i64 (b : Int), .string it] w fun e w' => e = .returned (.int .i64 7) ∧ Mod (fun _ => False) w w' := by
  have h' := h
  obtain ⟨B, c, ps, vs, h⟩ := h
  obtain ⟨c0, c1, c2⟩ := At.three h.hy
  have hn := hf.n2
  have hb0 : ¬ (b : Int) < 0 := by omega
  have hb1 : ¬ (bays.length : Int) ≤ b := by omega
  have he : it.toList.isEmpty = false := by simpa using hi
  clear hi
  have Hx := hid hx
  clear hx
  go_enter Try.func12, Try.ntmps12
  go_wp2_with fail
  refine (find_c it w h' hf.n2 hf.len32).mono ?_
  rw [Hx.out]
  rintro e w1 ⟨rfl, m1⟩
  go_wp2_with fail
  go_ret
  exact ⟨rfl, m1⟩
theorem put_full {F : Nat → Prop} {y : Nat} {cap puts : Int} {bays : List (List Pc)} (b : Nat) (it : ByteArray) (w : World) (h : YardAt F w y cap puts bays) (hf : Fits cap puts bays) (hb : b < bays.length) (hi : it.toList ≠ []) (hx : (find bays it).2.2 = false) (hl : cap ≤ (bays.getD b []).length) :
    Calls Try.prog 12 #[.pointer (some ⟨y, 0, none⟩), .int .i64 (b : Int), .string it] w fun e w' => e = .returned (.int .i64 12) ∧ Mod (fun _ => False) w w' := by
  have h' := h
  obtain ⟨B, c, ps, vs, h⟩ := h
  obtain ⟨c0, c1, c2⟩ := At.three h.hy
  have hn := hf.n2
  have hb0 : ¬ (b : Int) < 0 := by omega
  have hb1 : ¬ (bays.length : Int) ≤ b := by omega
  have hb2 : (b : Int) < bays.length := by omega
  have he : it.toList.isEmpty = false := by simpa using hi
  clear hi
  have Hx := hid hx
  clear hx
  go_enter Try.func12, Try.ntmps12
  go_wp2_with fail
  refine (find_c it w h' hf.n2 hf.len32).mono ?_
  rw [Hx.out]
  rintro e w1 ⟨rfl, m1⟩
  have h1 := h.mod0 m1
  obtain ⟨d0, d1, d2⟩ := At.three h1.hy
  obtain ⟨arr, hB, hpt⟩ := h1.hB
  have q0 := arr_cell hB (hpt b hb)
  have q1 := At.one (h1.hp b hb)
  obtain ⟨A, cc, hv⟩ := own_val (h1.ho b hb)
  rw [hv] at q1
  generalize (bays.getD b []).length = n at q1 hl
  clear hpt hv hB c0 c1 c2
  go_wp2_with fail
  go_quiet ((go_at_call 25; exact Calls.quiet_of_same (size_c (ps b) n cc A _ q1)))
  go_wp2_with fail
  go_ret
  exact ⟨rfl, m1.drewN _⟩
theorem At.mod_put {w : World} {b : Nat} {c : Array Value} {t : TypeId} {fr : Nat × Nat} (h : At w b (.cells c t fr)) (i : Nat) (v : Value) (S : Nat → Prop) (hS : S b) : Mod S w (w.setCell ⟨b, i, none⟩ v) := (Mod.refl S w).put v (fun _ => hS)
/-- The yard's count has turned. -/
theorem YIn.count {F : Nat → Prop} {w : World} {y : Nat} {cap puts : Int} {bays : List (List Pc)} {B c : Nat} {ps : Nat → Nat} {vs : Nat → Value} (h : YIn F w y cap puts bays B c ps vs) (p' : Int) :
    YIn F (w.setCell ⟨y, 2, none⟩ (.int .i64 p')) y cap p' bays B c ps vs ∧ MT F w (w.setCell ⟨y, 2, none⟩ (.int .i64 p')) := by
  have hne : ∀ {b : Nat} {cc : Array Value} {t : TypeId} {fr : Nat × Nat}, At w b (.cells cc t fr) → t ≠ 62 → b ≠ y := fun ha ht e => by
    subst e
    have := At.inj h.hy ha
    injection this with _ e _
    exact ht e.symm
  obtain ⟨arr, hB, hpt⟩ := h.hB
  refine ⟨⟨h.hy.put 2 _, h.fy, h.fB, ⟨arr, hB.other _ _ (hne hB (by decide)), hpt⟩, h.fp, fun i hi => (h.hp i hi).other _ _ (hne (h.hp i hi) (by decide)), fun i hi => ?_, h.fv, h.dp, h.dv⟩, ?_⟩
  · refine ownsRow_setCell_far (h.ho i hi) (fun k hk => ?_) _
    obtain ⟨cur, hc⟩ := own_at (h.ho i hi) hk
    exact hne hc (by decide)
  · exact h.hy.mod_put 2 _ _ ⟨h.fy, ⟨_, _, _, h.hy, by simp⟩⟩
theorem put_ok {F : Nat → Prop} {y : Nat} {cap puts : Int} {bays : List (List Pc)} (b : Nat) (it : ByteArray) (w : World) (h : YardAt F w y cap puts bays) (hf : Fits cap puts bays) (hb : b < bays.length) (hi : it.toList ≠ []) (hx : (find bays it).2.2 = false) (hl : ((bays.getD b []).length : Int) < cap) (hp : puts ≤ 1000000) :
    Calls Try.prog 12 #[.pointer (some ⟨y, 0, none⟩), .int .i64 (b : Int), .string it] w fun e w' => e = .returned (.int .i64 0) ∧
      YardAt (fun k => F k ∨ w.heap.size ≤ k) w' y cap (puts + 1) (bays.set b (bays.getD b [] ++ [(it, puts)])) ∧ MT F w w' := by
  have h' := h
  obtain ⟨B, c, ps, vs, h⟩ := h
  obtain ⟨c0, c1, c2⟩ := At.three h.hy
  have hn := hf.n2
  have hp0 := hf.p0
  have hb0 : ¬ (b : Int) < 0 := by omega
  have hb1 : ¬ (bays.length : Int) ≤ b := by omega
  have hb2 : (b : Int) < bays.length := by omega
  have he : it.toList.isEmpty = false := by simpa using hi
  have hl32 := hf.len32 b hb
  clear hi
  have Hx := hid hx
  clear hx
  go_enter Try.func12, Try.ntmps12
  go_wp2_with fail
  refine (find_c it w h' hf.n2 hf.len32).mono ?_
  rw [Hx.out]
  rintro e w1 ⟨rfl, m1⟩
  have h1 := h.mod0 m1
  obtain ⟨d0, d1, d2⟩ := At.three h1.hy
  obtain ⟨arr, hB, hpt⟩ := h1.hB
  have q0 := arr_cell hB (hpt b hb)
  have q1 := At.one (h1.hp b hb)
  have ho := h1.ho b hb
  obtain ⟨A, cc, hv⟩ := own_val ho
  rw [hv] at q1
  generalize hL : bays.getD b [] = L at q1 hl ho hl32 hv
  have HL := hid hL
  have Hv := hid hv
  clear hpt hv hB c0 c1 c2 hL
  go_wp2_with fail
  go_quiet ((go_at_call 25; exact Calls.quiet_of_same (size_c (ps b) L.length cc A _ q1)))
  go_wp2_with fail
  obtain ⟨w2, hw2⟩ : ∃ w2 : World, w2 = w1.drewN nq := ⟨_, rfl⟩
  rw [← hw2]
  have h2 : YIn F w2 y cap puts bays B c ps vs := by rw [hw2]; exact h1.mod0 ((Mod.refl _ _).drewN _)
  have m2 : Mod (fun _ => False) w w2 := by rw [hw2]; exact m1.drewN _
  obtain ⟨e0, e1, e2⟩ := At.three h2.hy
  have r0 : w2.cell? ⟨B, b, none⟩ = some (.pointer (some ⟨ps b, 0, none⟩)) := by rw [hw2]; exact q0
  clear hw2 d0 d1 d2 q0 q1
  refine wp_region_still_tail 13 (by kernel_rfl) (by kernel_rfl) ?_
  simp only [List.take_succ_cons, List.take_zero, List.drop_succ_cons, List.drop_zero]
  change wpStill Try.prog _ (World.drew w2) (fun a' => wpList Try.prog _ _ _ a' (World.drew w2)) _ _
  repeat still_step
  refine wpStill_nil ?_
  go_wp2_with fail
  have h3 : YIn F w2.drew y cap puts bays B c ps vs := h2.mod0 (Mod.refl _ _).drew
  have m3 : Mod (fun _ => False) w w2.drew := m2.drew
  have hLb : bays.getD b [] = L := HL.out
  have ho3 := h3.ho b hb
  rw [hLb] at ho3
  refine (push_c 0 (ps b) L.length (vs b) (flat L) it puts _ (h3.hp b hb) (Nat.zero_le _) ⟨A, cc, Hv.out⟩ ho3 (by omega) (Nat.zero_le _)).mono ?_
  rintro e w4 ⟨rfl, g, cg, hp4, ho4, m4, hg4⟩
  have hfl : flat L ++ [.string it, .int .i64 puts] = flat (L ++ [(it, puts)]) := by rw [flat_append]; rfl
  rw [hfl] at ho4
  obtain ⟨h4, mt4⟩ := h3.change hb (L := L ++ [(it, puts)]) m4 hp4 (by simpa using ho4) (by
    rcases hg4 with hg4 | hg4
    · exact .inl hg4.symm
    · exact .inr ⟨g, rfl, hg4⟩)
  have H4 := hid h4
  obtain ⟨f0, f1, f2⟩ := At.three h4.hy
  have hfz := h4.hy.free 2
  have hlt4 := h4.hy.lt
  clear h4 hp4 ho4 m4 hg4 hfl ho3 ho h3 h2 h1 h h'
  go_wp2_with fail
  go_ret
  rw [HL.out]
  obtain ⟨h5, m5⟩ := H4.out.count (puts + 1)
  exact ⟨rfl, ⟨_, _, _, _, h5.mono (fun k hk hF => hF.imp id (Nat.le_trans m3.size))⟩, (MT.of0 m3).trans_new ((mt4.mono (fun k _ => .inl)).trans (m5.mono (fun k _ hF => hF.imp id (Nat.le_trans m3.size))))⟩
end Go.Proofs.Ytknijmhhlfooaaa
