/- The specification's Put: its contract. -/
import Derived.Test.YtknijmhhlfooaaaAlike
import Derived.Deep.RegionWith
namespace Go.Proofs.Ytknijmhhlfooaaa
open Go.RowKit
set_option linter.unusedVariables false
set_option linter.unusedSimpArgs false

theorem RefAt.parts {w : World} {v : Value} {cap : Int} {bays : List (List Pc)} {ag : List Pc} (h : RefAt w v cap bays ag) : ∃ Ab cb A c, v = .agg #[.int .i64 cap, .slice Ab bays.length cb, .slice A ag.length c] ∧ RowB w (.slice Ab bays.length cb) bays ∧ RowN w (.slice A ag.length c) ag := by
  obtain ⟨vb, va, rfl, hb, ha⟩ := h
  obtain ⟨A, c, rfl⟩ := ha.val
  obtain ⟨Ab, cb, rfl⟩ := hb.val
  exact ⟨_, _, _, _, rfl, hb, ha⟩

theorem RowB.own {S : Nat → Prop} {w w' : World} {v : Value} {l : List (List Pc)} {t : TypeId} (h : RowB w v l) (m : Mod S w w') (hS : ∀ k, S k → k < w.heap.size → ∃ cs fr, At w k (.cells cs t fr)) (h9 : 9 ≠ t) (h31 : 31 ≠ t) : RowB w' v l := by
  obtain ⟨vs, h1, h2, h3⟩ := h
  exact ⟨vs, h1, own_mod h2 m hS h31, fun i x hx => (h3 i x hx).own m hS h9⟩

set_option maxHeartbeats 3200000 in
theorem rput_ok {v : Value} {cap puts : Int} {bays : List (List Pc)} {ag : List Pc} (b : Nat) (it : ByteArray) (w : World) (h : RefAt w v cap bays ag) (hf : Fits cap puts bays) (hag : ag.length ≤ 512) (hb : b < bays.length) (hi : it.toList ≠ []) (hx : (find bays it).2.2 = false) (hl : ((bays.getD b []).length : Int) < cap) :
    Calls Try.prog 20 #[v, .int .i64 (b : Int), .string it] w fun e w' => ∃ v', e = .returned (.tuple #[v', .int .i64 0]) ∧ RefAt w' v' cap (bays.set b (bays.getD b [] ++ [(it, puts)])) (ag ++ [(it, puts)]) ∧ Mod (fun _ => False) w w' := by
  have HR := hid h
  obtain ⟨Ab, cb, A, c, rfl, hB, ha⟩ := h.parts
  have he : it.toList.isEmpty = false := by simpa using hi
  have HF := hid hf
  have hn := hf.n2
  have hb1 : ¬ (bays.length : Int) ≤ b := by omega
  have hb2 : (b : Int) < bays.length := by omega
  have hl32 := hf.len32 b hb
  clear hi hf
  have Hx := hid hx
  generalize hw2 : (w.alloc (.cells #[.int .i64 cap, .slice Ab bays.length cb, .slice A ag.length c] 47)).alloc (.cells #[.int .i64 0, .slice none 0 0, .slice none 0 0] 47) = w2
  have hbx : At w2 w.heap.size (.cells #[.int .i64 cap, .slice Ab bays.length cb, .slice A ag.length c] 47 (0, 0)) := by rw [← hw2]; exact (At.new _ _).alloc _
  have hbr : At w2 (w.heap.size + 1) (.cells #[.int .i64 0, .slice none 0 0, .slice none 0 0] 47 (0, 0)) := by
    rw [← hw2]
    have := At.new (w.alloc (.cells #[.int .i64 cap, .slice Ab bays.length cb, .slice A ag.length c] 47)) (.cells #[.int .i64 0, .slice none 0 0, .slice none 0 0] 47)
    simpa using this
  have m2 : Mod (fun _ => False) w w2 := by rw [← hw2]; exact ((Mod.refl _ _).alloc _).alloc _
  have Hw2 := hid hw2
  clear hw2 hx h hB ha
  go_enter Try.func20, Try.ntmps20
  go_wp2_with fail
  rw [Hw2.out]
  have HR2 := hid (HR.out.mod0 m2)
  refine (rfind_c it w2 HR2.out hn HF.out.len32).mono ?_
  rw [Hx.out]
  rintro e w3 ⟨rfl, m3⟩
  have hbx3 := hbx.mod m3 id
  have hbr3 := hbr.mod m3 id
  have HR3 := hid (HR2.out.mod0 m3)
  obtain ⟨Ab', cb', A', c', hv, hB3, ha3⟩ := HR3.out.parts
  injection hv with hv
  injection hv with hv
  simp only [List.cons.injEq, Value.slice.injEq, and_true, true_and] at hv
  obtain ⟨⟨rfl, rfl⟩, rfl, rfl⟩ := hv
  obtain ⟨g, x, rfl, hxc, hrow⟩ := hB3.at_ b hb
  generalize hL : bays.getD b [] = L at hrow hl hl32
  have HL := hid hL
  obtain ⟨A1, c1, rfl⟩ := hrow.val
  have Hrow := hid hrow
  have HB3 := hid hB3
  have Ha3 := hid ha3
  obtain ⟨d0, d1, d2⟩ := At.three hbx3
  clear hL hrow hB3 ha3
  go_wp2_with fail
  go_quiet (fail)
  go_wp2_with fail
  obtain ⟨w4, hw4⟩ : ∃ w4 : World, w4 = w3.drewN nq := ⟨_, rfl⟩
  rw [← hw4]
  have m4 : Mod (fun _ => False) w3 w4 := by rw [hw4]; exact (Mod.refl _ _).drewN _
  have m4d : Mod (fun _ => False) w4 w4.drew := (Mod.refl _ _).drew
  have hbx4 := hbx3.mod m4 id
  have hbr4 := hbr3.mod m4 id
  have HR4 := hid (HR3.out.mod0 m4)
  have Hrow4 := hid (Hrow.out.mod0 m4)
  have hxc4 := m4.keep0 hxc
  obtain ⟨e0, e1, e2⟩ := At.three hbx4
  have ef0 := hbx4.free 0
  have ef1 := hbx4.free 1
  have ef2 := hbx4.free 2
  have hbx4d := hbx4.drew
  have Hrow4d := hid (Hrow4.out.mod0 m4d)
  have HR4d := hid (HR4.out.mod0 m4d)
  clear hw4 d0 d1 d2 hxc
  go_region_with (first
    | (go_at_call 34; refine (with_c _ L it puts _ Hrow4d.out (Nat.le_trans hl32 (by decide))).mono ?_; rintro e w5 ⟨v5, rfl, h5, m5⟩; have hbx5 := At.mod hbx4d m5 id; have hb5 := At.three hbx5; obtain ⟨c50, c51, c52⟩ := hb5; have H5 := hid h5; have HR5 := hid (RefAt.mod0 HR4d.out m5))
    | (go_at_call 33; refine (changed_c b _ HR5.out H5.out hn hb).mono ?_; rintro e w6 ⟨v6, rfl, h6, m6⟩; have hbx6 := At.mod hbx5 m6 id; have hb6 := At.three hbx6; obtain ⟨c60, c61, c62⟩ := hb6; have f60 := At.free hbx6 0; have f61 := At.free hbx6 1; have f62 := At.free hbx6 2; have H6 := hid h6; obtain ⟨Ab6, cb6, A6, c6, rfl, _, _⟩ := RefAt.parts h6))
  all_goals
    have hmod : Mod (fun k => k = w.heap.size) w6 (((w6.setCell ⟨w.heap.size, 0, none⟩ (.int .i64 cap)).setCell ⟨w.heap.size, 1, none⟩ (.slice Ab6 bays.length cb6)).setCell ⟨w.heap.size, 2, none⟩ (.slice A6 ag.length c6)) :=
      Mod.put (S := fun k => k = w.heap.size) (Mod.put (S := fun k => k = w.heap.size) (Mod.put (S := fun k => k = w.heap.size) (Mod.refl _ _) _ (fun _ => rfl)) _ (fun _ => rfl)) _ (fun _ => rfl)
    have hS6 : ∀ k, k = w.heap.size → k < w6.heap.size → ∃ cs fr, At w6 k (.cells cs 47 fr) := fun k hk _ => by subst hk; exact ⟨_, _, hbx6⟩
    have hbx7 := At.put (At.put (At.put hbx6 0 (.int .i64 cap)) 1 (.slice Ab6 bays.length cb6)) 2 (.slice A6 ag.length c6)
    obtain ⟨_, _, _, _, hv6, hB6, ha6⟩ := H6.out.parts
    injection hv6 with hv6
    injection hv6 with hv6
    simp only [List.cons.injEq, Value.slice.injEq, and_true, true_and] at hv6
    obtain ⟨⟨rfl, rfl⟩, rfl, rfl⟩ := hv6
    have ha7 := RowN.own ha6 hmod hS6 (by decide)
    obtain ⟨w7, hw7⟩ : ∃ w7, w7 = (((w6.setCell ⟨w.heap.size, 0, none⟩ (.int .i64 cap)).setCell ⟨w.heap.size, 1, none⟩ (.slice Ab6 bays.length cb6)).setCell ⟨w.heap.size, 2, none⟩ (.slice A6 ag.length c6)) := ⟨_, rfl⟩
    have hbrn : w.heap.size + 1 ≠ w.heap.size := by omega
    have hbr7 := At.other (At.other (At.other (At.mod (At.mod (At.mod hbr4 m4d id) m5 id) m6 id) ⟨w.heap.size, 0, none⟩ (.int .i64 cap) hbrn) ⟨w.heap.size, 1, none⟩ (.slice Ab6 bays.length cb6) hbrn) ⟨w.heap.size, 2, none⟩ (.slice A6 ag.length c6) hbrn
    rw [← hw7] at hmod hbx7 ha7 hbr7 ⊢
    have Hmod := hid hmod
    obtain ⟨s0, s1, s2⟩ := At.three (show At w7 w.heap.size (.cells #[.int .i64 cap, .slice Ab6 bays.length cb6, .slice A6 ag.length c6] 47 (0, 0)) from hbx7)
    clear c50 c51 c52 c60 c61 c62 f60 f61 f62 e0 e1 e2 ef0 ef1 ef2 hmod hw7
    go_wp2_with fail
    refine (with_c _ ag it puts w7 ha7 (by omega)).mono ?_
    rintro e w8 ⟨v8, rfl, h8, m8⟩
    obtain ⟨A8, c8, rfl⟩ := h8.val
    have hbx8 : At w8 w.heap.size (.cells #[.int .i64 cap, .slice Ab6 bays.length cb6, .slice A6 ag.length c6] 47 (0, 0)) := At.mod hbx7 m8 id
    have hbr8 := At.mod hbr7 m8 id
    obtain ⟨t0, t1, t2⟩ := At.three hbx8
    have tf2 := hbx8.free 2
    obtain ⟨r0, r1, r2⟩ := At.three hbr8
    have rf0 := hbr8.free 0
    have rf1 := hbr8.free 1
    have rf2 := hbr8.free 2
    have H8 := hid h8
    clear h8 s0 s1 s2
    go_wp2_with fail
    have hM8 : Mod (fun k => k = w.heap.size ∨ k = w.heap.size + 1) w8 ((((w8.setCell ⟨w.heap.size, 2, none⟩ (.slice A8 (ag ++ [(it, puts)]).length c8)).setCell ⟨w.heap.size + 1, 0, none⟩ (.int .i64 cap)).setCell ⟨w.heap.size + 1, 1, none⟩ (.slice Ab6 bays.length cb6)).setCell ⟨w.heap.size + 1, 2, none⟩ (.slice A8 (ag ++ [(it, puts)]).length c8)) :=
      Mod.put (S := fun k => k = w.heap.size ∨ k = w.heap.size + 1) (Mod.put (S := fun k => k = w.heap.size ∨ k = w.heap.size + 1) (Mod.put (S := fun k => k = w.heap.size ∨ k = w.heap.size + 1) (Mod.put (S := fun k => k = w.heap.size ∨ k = w.heap.size + 1) (Mod.refl _ _) _ (fun _ => .inl rfl)) _ (fun _ => .inr rfl)) _ (fun _ => .inr rfl)) _ (fun _ => .inr rfl)
    have hS8 : ∀ k, (k = w.heap.size ∨ k = w.heap.size + 1) → k < w8.heap.size → ∃ cs fr, At w8 k (.cells cs 47 fr) := fun k hk _ => by
      rcases hk with rfl | rfl
      · exact ⟨_, _, hbx8⟩
      · exact ⟨_, _, hbr8⟩
    rw [List.length_set] at hB6
    have hB8 := RowB.own (RowB.mod0 (RowB.own hB6 Hmod.out hS6 (by decide) (by decide)) m8) hM8 hS8 (by decide) (by decide)
    have hA8 := RowN.own H8.out hM8 hS8 (by decide)
    have hlen8 : (ag ++ [(it, puts)]).length = ag.length + 1 := by simp
    rw [hlen8] at hM8 hB8 hA8
    have mw6 : Mod (fun _ => False) w w6 := ((((m2.trans m3).trans m4).trans m4d).trans m5).trans m6
    have mw7 : Mod (fun _ => False) w w7 := Mod.trans' (T := fun k => k = w.heap.size) mw6 Hmod.out (fun k hk hs => by omega)
    have mw9 := Mod.trans' (T := fun k => k = w.heap.size ∨ k = w.heap.size + 1) (mw7.trans m8) hM8 (fun k hk hs => by omega)
    refine bodyPost_ret (v := .tuple #[.agg #[.int .i64 cap, .slice Ab6 bays.length cb6, .slice A8 (ag.length + 1) c8], .int .i64 0]) (by simp [results, Try.results20, go_sem, r0, r1, r2]) rfl ⟨_, rfl, ⟨_, _, rfl, ?_, ?_⟩, ?_⟩
    · rw [HL.out]
      exact hB8
    · exact hA8
    · exact mw9
end Go.Proofs.Ytknijmhhlfooaaa
