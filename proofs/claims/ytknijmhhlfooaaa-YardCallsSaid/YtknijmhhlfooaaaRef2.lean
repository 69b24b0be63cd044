/- The specification's Find, room, with, without: their contracts. -/
import Derived.Test.YtknijmhhlfooaaaRef1
namespace Go.Proofs.Ytknijmhhlfooaaa
open Go.RowKit
set_option linter.unusedVariables false
set_option linter.unusedSimpArgs false

theorem drop_getD {bays : List (List Pc)} {a : Nat} (h : a < bays.length) : bays.drop a = bays.getD a [] :: bays.drop (a + 1) := by
  rw [List.drop_eq_getElem_cons h, getD_eq h]

set_option maxHeartbeats 800000 in
theorem rfind_c {v : Value} {cap : Int} {bays : List (List Pc)} {ag : List Pc} (it : ByteArray) (w : World) (h : RefAt w v cap bays ag) (hn : bays.length ≤ 16) (hlen : ∀ i, i < bays.length → (bays.getD i []).length ≤ 32) :
    Calls Try.prog 32 #[v, .string it] w fun e w' => e = .returned (.tuple #[.int .i64 (find bays it).1, .int .i64 (find bays it).2.1, .bool (find bays it).2.2]) ∧ Mod (fun _ => False) w w' := by
  obtain ⟨vb, va, rfl, hb, ha⟩ := h
  obtain ⟨A, c, rfl⟩ := ha.val
  obtain ⟨Ab, cb, rfl⟩ := hb.val
  have Hb := hid hb
  have hlen' := hid hlen
  have hbx := At.new w (.cells #[.int .i64 cap, .slice Ab bays.length cb, .slice A ag.length c] 47)
  clear ha hb hlen
  go_enter Try.func32, Try.ntmps32
  go_wp2_with fail
  go_loopw [7] (fun s wr => ∃ a : Nat, a ≤ bays.length ∧ s = .int .i64 a ∧ Hid (find bays it = findF it a (bays.drop a)) ∧ Mod (fun _ => False) (w.alloc (.cells #[.int .i64 cap, .slice Ab bays.length cb, .slice A ag.length c] 47)) wr)
    (fun s _ => bays.length - (intOf s).toNat)
  case atStart => exact ⟨0, by omega, rfl, rfl, Mod.refl _ _⟩
  case round =>
    obtain ⟨a, ha, rfl, hfi, m⟩ := hrel
    obtain ⟨e0, e1, e2⟩ := At.three (hbx.mod m id)
    by_cases hlt : a < bays.length
    · have Hbr := (Hb.out.mod0 ((Mod.refl _ _).alloc _)).mod0 m
      obtain ⟨g, x, rfl, hx, hrow⟩ := Hbr.at_ a hlt
      have hl32 := hlen'.out a hlt
      have hf : Hid (find bays it = findF it a (bays.getD a [] :: bays.drop (a + 1))) := by show _ = _; rw [hfi.out, drop_getD hlt]
      generalize bays.getD a [] = L at hrow hl32 hf
      have HL : Hid (bays.getD a [] = bays.getD a []) := rfl
      have hx0 := hx
      cases hfx : L.findIdx? (isIt it) with
      | some k =>
        have hat : atF it L = k := by rw [atF, hfx]
        have hkl : k < L.length := by
          rw [List.findIdx?_eq_some_iff_getElem] at hfx
          exact hfx.1
        have hres : Hid (find bays it = ((a : Int), (L.length : Int) - 1 - k, true)) := by
          show _ = _
          rw [hf.out, findF]
          have : L.findIdx? (fun x => decide (x.1 = it)) = some k := hfx
          rw [this]
        obtain ⟨A1, c1, rfl⟩ := hrow.val
        have Hrow := hid hrow
        have Hat := hid hat
        have hk0 : (0 : Int) ≤ k := by omega
        clear hfx hat hf hrow Hbr
        go_wp2_with fail
        refine (at_c _ L it wr Hrow.out (by omega)).mono ?_
        rw [Hat.out]
        rintro e w' ⟨rfl, rfl⟩
        go_wp2_with fail
        go_quiet (fail)
        go_wp2_with fail
        go_ret3
        rw [hres.out]
        exact ⟨rfl, (((Mod.refl _ _).alloc _).trans m).drewN _⟩
      | none =>
        have hat : atF it L = -1 := by rw [atF, hfx]
        have hres : Hid (find bays it = findF it (a + 1) (bays.drop (a + 1))) := by
          show _ = _
          rw [hf.out, findF]
          have : L.findIdx? (fun x => decide (x.1 = it)) = none := hfx
          rw [this]
        have Hrow := hid hrow
        have Hat := hid hat
        clear hfx hat hf hrow Hbr
        go_wp2_with fail
        refine (at_c _ L it wr Hrow.out (by omega)).mono ?_
        rw [Hat.out]
        rintro e w' ⟨rfl, rfl⟩
        go_wp2_with fail
        go_roundw
        case rel => exact ⟨a + 1, by omega, by go_num, hres, m⟩
        case measure => simp [intOf]; omega
    · have : a = bays.length := by omega
      subst this
      go_wp2_with fail
      go_ret3
      have := hfi.out
      rw [List.drop_length] at this
      rw [this]
      exact ⟨rfl, ((Mod.refl _ _).alloc _).trans m⟩

def roomF (cap : Int) (bays : List (List Pc)) (b : Nat) : Int := match firstRoom cap bays b with
  | some i => i
  | none => -1
set_option maxHeartbeats 800000 in
theorem room_c {v : Value} {cap : Int} {bays : List (List Pc)} {ag : List Pc} (b : Nat) (w : World) (h : RefAt w v cap bays ag) (hn : bays.length ≤ 16) (hlen : ∀ i, i < bays.length → (bays.getD i []).length ≤ 32) :
    Calls Try.prog 35 #[v, .int .i64 (b : Int)] w fun e w' => e = .returned (.int .i64 (roomF cap bays b)) ∧ Mod (fun _ => False) w w' := by
  obtain ⟨vb, va, rfl, hb, ha⟩ := h
  obtain ⟨A, c, rfl⟩ := ha.val
  obtain ⟨Ab, cb, rfl⟩ := hb.val
  have Hb := hid hb
  have hlen' := hid hlen
  have hbx := At.new w (.cells #[.int .i64 cap, .slice Ab bays.length cb, .slice A ag.length c] 47)
  clear ha hb hlen
  go_enter Try.func35, Try.ntmps35
  go_wp2_with fail
  go_loopw [5] (fun s wr => ∃ a : Nat, a ≤ bays.length ∧ s = .int .i64 a ∧ Hid (∀ j, j < a → hasRoom cap bays b j = false) ∧ Mod (fun _ => False) (w.alloc (.cells #[.int .i64 cap, .slice Ab bays.length cb, .slice A ag.length c] 47)) wr)
    (fun s _ => bays.length - (intOf s).toNat)
  case atStart => exact ⟨0, by omega, rfl, fun j hj => by omega, Mod.refl _ _⟩
  case round =>
    obtain ⟨a, ha, rfl, hno, m⟩ := hrel
    obtain ⟨e0, e1, e2⟩ := At.three (hbx.mod m id)
    by_cases hlt : a < bays.length
    · have Hbr := (Hb.out.mod0 ((Mod.refl _ _).alloc _)).mod0 m
      obtain ⟨g, x, rfl, hx, hrow⟩ := Hbr.at_ a hlt
      have hl32 := hlen'.out a hlt
      have hr : Hid (hasRoom cap bays b a = (decide (a ≠ b) && decide (((bays.getD a []).length : Int) < cap))) := rfl
      obtain ⟨A1, c1, rfl⟩ := hrow.val
      generalize (bays.getD a []).length = q at hx hl32 hr
      clear hrow Hbr
      by_cases hab : a = b
      · subst hab
        have hno2 : Hid (hasRoom cap bays a a = false) := by show _ = _; rw [hr.out]; simp
        go_wp2_with fail
        go_quiet (fail)
        go_wp2_with fail
        go_roundw
        case rel =>
          refine ⟨a + 1, by omega, by go_num, fun j hj => ?_, m.drewN _⟩
          by_cases e : j = a
          · subst e; exact hno2.out
          · exact hno.out j (by omega)
        case measure => simp [intOf]; omega
      · have hab' : ¬ ((a : Int) = (b : Int)) := by omega
        have hae : (((a : Int) == (b : Int)) = false) := by simp; omega
        by_cases hcap : (q : Int) < cap
        · go_wp2_with fail
          go_quiet (fail)
          go_wp2_with fail
          go_ret
          have e : firstRoom cap bays b = some a := find_range_some hlt (by rw [hr.out]; simp [hab, hcap]) hno.out
          rw [roomF, e]
          exact ⟨rfl, (((Mod.refl _ _).alloc _).trans m).drewN _⟩
        · have hno2 : Hid (hasRoom cap bays b a = false) := by show _ = _; rw [hr.out]; simp; intro _; omega
          go_wp2_with fail
          go_quiet (fail)
          go_wp2_with fail
          go_roundw
          case rel =>
            refine ⟨a + 1, by omega, by go_num, fun j hj => ?_, m.drewN _⟩
            by_cases e : j = a
            · subst e; exact hno2.out
            · exact hno.out j (by omega)
          case measure => simp [intOf]; omega
    · have : a = bays.length := by omega
      subst this
      go_wp2_with fail
      go_ret
      have e : firstRoom cap bays b = none := find_range_none hno.out
      rw [roomF, e]
      exact ⟨rfl, ((Mod.refl _ _).alloc _).trans m⟩
end Go.Proofs.Ytknijmhhlfooaaa
