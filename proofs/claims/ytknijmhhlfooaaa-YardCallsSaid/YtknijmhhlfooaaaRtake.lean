/- The specification's Take: its contract. -/
import Derived.Test.YtknijmhhlfooaaaRput
import Derived.Test.YtknijmhhlfooaaaPlain
import Derived.Deep.RegionHeld3
import Derived.Deep.DeepCutAuto
namespace Go.Proofs.Ytknijmhhlfooaaa
open Go.RowKit
set_option linter.unusedVariables false
set_option linter.unusedSimpArgs false

theorem roomTo_mono {cap puts : Int} {bays : List (List Pc)} (h : Fits cap puts bays) (b : Nat) : ∀ n i, i ≤ n → n ≤ bays.length → roomTo cap bays b i ≤ roomTo cap bays b n
  | 0, i, hi, _ => by obtain rfl : i = 0 := by omega
                      exact Int.le_refl _
  | n + 1, i, hi, hn => by
    by_cases e : i = n + 1
    · rw [e]; exact Int.le_refl _
    · have := roomTo_mono h b n i (by omega) (by omega)
      have := h.len n (by omega)
      rw [roomTo]
      split <;> omega
theorem roomTo_gt {cap puts : Int} {bays : List (List Pc)} (h : Fits cap puts bays) {b i : Nat} (hi : firstRoom cap bays b = some i) : 0 < roomTo cap bays b bays.length := by
  obtain ⟨h1, h2, h3, _⟩ := firstRoom_some hi
  have a := roomTo_mono h b bays.length (i + 1) (by omega) (Nat.le_refl _)
  have c := (roomTo_bound h b i (by omega)).1
  rw [roomTo, if_neg h2] at a
  omega

/-- The specification's yard in the box T (the first block behind w3). -/
structure TS (w3 wr : World) (cap : Int) (n : Nat) (bs : List (List Pc)) (ag : List Pc) (Ab : Option Addr) (cb : Nat) (Aa : Option Addr) (ca : Nat) : Prop where
  len : bs.length = n
  bT : At wr w3.heap.size (.cells #[.int .i64 cap, .slice Ab n cb, .slice Aa ag.length ca] 47 (0, 0))
  rf : RefAt wr (.agg #[.int .i64 cap, .slice Ab n cb, .slice Aa ag.length ca]) cap bs ag
  m : Mod (fun _ => False) w3 wr
theorem Mod.here {R : Nat} {a b : World} (h : Mod (fun k => k = R) a b) (i : Nat) (v : Value) : Mod (fun k => k = R) a (b.setCell ⟨R, i, none⟩ v) := h.put v (fun _ => rfl)
theorem Mod.none_of {R : Nat} {w a b : World} (h : Mod (fun _ => False) w a) (m : Mod (fun k => k = R) a b) (hR : w.heap.size ≤ R) : Mod (fun _ => False) w b := h.trans' m (fun i hi e => by omega)
theorem RefAt.own {R : Nat} {w w' : World} {v : Value} {cap : Int} {bays : List (List Pc)} {ag : List Pc} {cs : Array Value} {fr : Nat × Nat} (h : RefAt w v cap bays ag) (hR : At w R (.cells cs 47 fr)) (m : Mod (fun k => k = R) w w') : RefAt w' v cap bays ag := by
  obtain ⟨vb, va, rfl, h1, h2⟩ := h
  have hS : ∀ k, k = R → k < w.heap.size → ∃ cs fr, At w k (.cells cs 47 fr) := fun k hk _ => by subst hk; exact ⟨_, _, hR⟩
  exact ⟨vb, va, rfl, h1.own m hS (by decide) (by decide), h2.own m hS (by decide)⟩
theorem TS.mod0 {w3 wr w' : World} {cap : Int} {n : Nat} {bs : List (List Pc)} {ag : List Pc} {Ab Aa : Option Addr} {cb ca : Nat} (h : TS w3 wr cap n bs ag Ab cb Aa ca) (m : Mod (fun _ => False) wr w') : TS w3 w' cap n bs ag Ab cb Aa ca :=
  ⟨h.len, h.bT.mod m id, h.rf.mod0 m, h.m.trans m⟩
theorem TS.store {w3 wr w' : World} {cap : Int} {n : Nat} {bs bs' : List (List Pc)} {ag : List Pc} {Ab Aa Ab' Aa' : Option Addr} {cb ca cb' ca' : Nat} (h : TS w3 wr cap n bs ag Ab cb Aa ca) (m : Mod (fun _ => False) wr w') (hl : bs'.length = n)
    (hr : RefAt w' (.agg #[.int .i64 cap, .slice Ab' n cb', .slice Aa' ag.length ca']) cap bs' ag) :
    TS w3 (((w'.setCell ⟨w3.heap.size, 0, none⟩ (.int .i64 cap)).setCell ⟨w3.heap.size, 1, none⟩ (.slice Ab' n cb')).setCell ⟨w3.heap.size, 2, none⟩ (.slice Aa' ag.length ca')) cap n bs' ag Ab' cb' Aa' ca' := by
  have hb := h.bT.mod m id
  have ms : Mod (fun k => k = w3.heap.size) w' (((w'.setCell ⟨w3.heap.size, 0, none⟩ (.int .i64 cap)).setCell ⟨w3.heap.size, 1, none⟩ (.slice Ab' n cb')).setCell ⟨w3.heap.size, 2, none⟩ (.slice Aa' ag.length ca')) := (((Mod.refl _ _).here _ _).here _ _).here _ _
  exact ⟨hl, ((hb.put 0 _).put 1 _).put 2 _, hr.own hb ms, (h.m.trans m).none_of ms (Nat.le_refl _)⟩
theorem dropLast_eq {α : Type} (l : List α) (h : l ≠ []) : l.take (l.length - 1) ++ l.drop (l.length - 1 + 1) = l.dropLast := by
  have h1 : 0 < l.length := List.length_pos_iff.2 h
  rw [List.drop_eq_nil_of_le (by omega), List.append_nil, List.dropLast_eq_take]

set_option maxHeartbeats 6400000 in
theorem rtake_none {v : Value} {cap puts : Int} {bays : List (List Pc)} {ag : List Pc} (it : ByteArray) (w : World) (h : RefAt w v cap bays ag) (hf : Fits cap puts bays) (hx : (find bays it).2.2 = false) :
    Calls Try.prog 22 #[v, .string it] w fun e w' => ∃ v', e = .returned (.tuple #[v', .int .i64 0, .int .i64 8]) ∧ RefAt w' v' cap bays ag ∧ Mod (fun _ => False) w w' := by
  have HR := hid h
  obtain ⟨Ab, cb, Aa, ca, rfl, hB, ha⟩ := h.parts
  have HF := hid hf
  have hn := hf.n2
  have Hx := hid hx
  obtain ⟨w2, hw2⟩ : ∃ w2 : World, w2 = (w.alloc (.cells #[.int .i64 cap, .slice Ab bays.length cb, .slice Aa ag.length ca] 47)).alloc (.cells #[.int .i64 0, .slice none 0 0, .slice none 0 0] 47) := ⟨_, rfl⟩
  have m2 : Mod (fun _ => False) w w2 := by rw [hw2]; exact ((Mod.refl _ _).alloc _).alloc _
  have hS2 : At w2 w.heap.size (.cells #[.int .i64 cap, .slice Ab bays.length cb, .slice Aa ag.length ca] 47 (0, 0)) := by rw [hw2]; exact (At.new _ _).alloc _
  have hR2 : At w2 (w.heap.size + 1) (.cells #[.int .i64 0, .slice none 0 0, .slice none 0 0] 47 (0, 0)) := by
    rw [hw2]
    have := At.new (w.alloc (.cells #[.int .i64 cap, .slice Ab bays.length cb, .slice Aa ag.length ca] 47)) (.cells #[.int .i64 0, .slice none 0 0, .slice none 0 0] 47)
    simpa using this
  have M2 := hid m2
  have HS2 := hid hS2
  have HR2 := hid hR2
  have Hw2 := hid hw2
  obtain ⟨s0, s1, s2⟩ := At.three hS2
  clear h hf hx hB ha hw2 m2 hS2 hR2
  go_enter Try.func22, Try.ntmps22
  go_upto_region 1 with fail
  rw [← Hw2.out]
  go_wp2_with fail
  refine (rfind_c it w2 (HR.out.mod0 M2.out) hn HF.out.len32).mono ?_
  rw [Hx.out]
  rintro e w3 ⟨rfl, m3⟩
  obtain ⟨a0, a1, a2⟩ := At.three (HS2.out.mod m3 id)
  have hR3 := HR2.out.mod m3 id
  obtain ⟨r0, r1, r2⟩ := At.three hR3
  have rf0 := hR3.free 0
  have rf1 := hR3.free 1
  have rf2 := hR3.free 2
  clear s0 s1 s2
  go_wp2_with fail
  have ms : Mod (fun k => k = w.heap.size + 1) w3 (((w3.setCell ⟨w.heap.size + 1, 0, none⟩ (.int .i64 cap)).setCell ⟨w.heap.size + 1, 1, none⟩ (.slice Ab bays.length cb)).setCell ⟨w.heap.size + 1, 2, none⟩ (.slice Aa ag.length ca)) := (((Mod.refl _ _).here _ _).here _ _).here _ _
  refine bodyPost_ret (v := .tuple #[.agg #[.int .i64 cap, .slice Ab bays.length cb, .slice Aa ag.length ca], .int .i64 0, .int .i64 8]) (by simp [results, Try.results22, go_sem, r0, r1, r2]) rfl ⟨_, rfl, ?_, (M2.out.trans m3).none_of ms (by omega)⟩
  exact (HR.out.mod0 (M2.out.trans m3)).own hR3 ms
end Go.Proofs.Ytknijmhhlfooaaa
