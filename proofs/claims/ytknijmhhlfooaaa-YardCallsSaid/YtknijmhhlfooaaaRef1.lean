/- The specification's yard in memory; Same, Bay, Oldest, Len, at, Find. -/
import Derived.Test.YtknijmhhlfooaaaTakes
namespace Go.Proofs.Ytknijmhhlfooaaa
open Go.RowKit
set_option linter.unusedVariables false
set_option linter.unusedSimpArgs false

/-- A row of names. -/
def RowN (w : World) (v : Value) (l : List Pc) : Prop := w.ownsRow 0 9 1 v l.length (names l)
def RowB (w : World) (v : Value) (bays : List (List Pc)) : Prop := ∃ vs : List Value, vs.length = bays.length ∧ w.ownsRow 0 31 1 v bays.length vs ∧ ∀ (i : Nat) x, vs[i]? = some x → RowN w x (bays.getD i [])
def RefAt (w : World) (v : Value) (cap : Int) (bays : List (List Pc)) (ag : List Pc) : Prop := ∃ vb va, v = .agg #[.int .i64 cap, vb, va] ∧ RowB w vb bays ∧ RowN w va ag

theorem own_mtT {F : Nat → Prop} {w w' : World} {base : Nat} {v : Value} {n size : Nat} {e : TypeId} {xs : List Value} (h : w.ownsRow base e size v n xs) (m : MT F w w') (he : e ≠ 62 ∧ e ≠ 63 ∧ e ≠ 66 ∧ e ≠ 68) : w'.ownsRow base e size v n xs := by
  refine own_same h (fun g hg => ?_)
  obtain ⟨cur, hc⟩ := own_at h hg
  exact (MT.at_ hc m he).trans hc.symm
theorem RowN.mt {F : Nat → Prop} {w w' : World} {v : Value} {l : List Pc} (h : RowN w v l) (m : MT F w w') : RowN w' v l := own_mtT h m (by decide)
theorem RowB.mt {F : Nat → Prop} {w w' : World} {v : Value} {l : List (List Pc)} (h : RowB w v l) (m : MT F w w') : RowB w' v l := by
  obtain ⟨vs, h1, h2, h3⟩ := h
  exact ⟨vs, h1, own_mtT h2 m (by decide), fun i x hx => (h3 i x hx).mt m⟩
theorem RefAt.mt {F : Nat → Prop} {w w' : World} {v : Value} {cap : Int} {bays : List (List Pc)} {ag : List Pc} (h : RefAt w v cap bays ag) (m : MT F w w') : RefAt w' v cap bays ag := by
  obtain ⟨vb, va, rfl, h1, h2⟩ := h
  exact ⟨vb, va, rfl, h1.mt m, h2.mt m⟩
theorem RefAt.mod0 {w w' : World} {v : Value} {cap : Int} {bays : List (List Pc)} {ag : List Pc} (h : RefAt w v cap bays ag) (m : Mod (fun _ => False) w w') : RefAt w' v cap bays ag := h.mt (MT.of0 (F := Up 0) m)
theorem RowN.mod0 {w w' : World} {v : Value} {l : List Pc} (h : RowN w v l) (m : Mod (fun _ => False) w w') : RowN w' v l := RowN.mt h (MT.of0 (F := Up 0) m)
theorem RowB.mod0 {w w' : World} {v : Value} {l : List (List Pc)} (h : RowB w v l) (m : Mod (fun _ => False) w w') : RowB w' v l := RowB.mt h (MT.of0 (F := Up 0) m)
theorem RowN.val {w : World} {v : Value} {l : List Pc} (h : RowN w v l) : ∃ A c, v = .slice A l.length c := own_val h
theorem RowB.val {w : World} {v : Value} {l : List (List Pc)} (h : RowB w v l) : ∃ A c, v = .slice A l.length c := by
  obtain ⟨vs, _, h, _⟩ := h
  exact own_val h
theorem RowN.nil (w : World) : RowN w (.slice none 0 0) [] := World.ownsRow_nil _ _ _ _
theorem RowN.at_ {w : World} {A : Option Addr} {c : Nat} {l : List Pc} (h : RowN w (.slice A l.length c) l) (k : Nat) (hk : k < l.length) : ∃ g, A = some ⟨g, 0, none⟩ ∧ w.cell? ⟨g, k, none⟩ = some (.string (l[k]).1) := by
  obtain ⟨g, cap', hg, _, hl⟩ := World.ownsRow.form h (by omega)
  injection hg with hA _ _
  refine ⟨g, hA, ?_⟩
  subst hA
  have := World.ownsRow.cells h (g := g) rfl k (.string (l[k]).1) (by simp [names, hk])
  rwa [add_plain] at this
theorem RowB.at_ {w : World} {A : Option Addr} {c : Nat} {l : List (List Pc)} (h : RowB w (.slice A l.length c) l) (k : Nat) (hk : k < l.length) : ∃ g x, A = some ⟨g, 0, none⟩ ∧ w.cell? ⟨g, k, none⟩ = some x ∧ RowN w x (l.getD k []) := by
  obtain ⟨vs, hl, h, hx⟩ := h
  obtain ⟨g, cap', hg, _, hgl⟩ := World.ownsRow.form h (by omega)
  injection hg with hA _ _
  subst hA
  have hk' : k < vs.length := by omega
  have := World.ownsRow.cells h (g := g) rfl k (vs[k]) (by simp [hk'])
  rw [add_plain] at this
  exact ⟨g, vs[k], rfl, this, hx k _ (by simp [hk'])⟩

theorem same_c (v1 v2 : Value) (l : List Pc) (w : World) (h1 : RowN w v1 l) (h2 : RowN w v2 l) (hl : l.length ≤ 1000) :
    Calls Try.prog 29 #[v1, v2] w fun e w' => e = .returned (.bool true) ∧ Mod (fun _ => False) w w' := by
  obtain ⟨A1, c1, rfl⟩ := h1.val
  obtain ⟨A2, c2, rfl⟩ := h2.val
  go_enter Try.func29, Try.ntmps29
  go_wp2_with fail
  go_loopw [5] (fun s wr => ∃ k : Nat, k ≤ l.length ∧ s = .int .i64 k ∧ Mod (fun _ => False) w wr)
    (fun s _ => l.length - (intOf s).toNat)
  case atStart => exact ⟨0, by omega, rfl, Mod.refl _ _⟩
  case round =>
    obtain ⟨k, hk, rfl, m⟩ := hrel
    by_cases hlt : k < l.length
    · obtain ⟨g1, rfl, x1⟩ := h1.at_ k hlt
      obtain ⟨g2, rfl, x2⟩ := h2.at_ k hlt
      have y1 := m.keep0 x1
      have y2 := m.keep0 x2
      generalize (l[k]).1 = q at y1 y2
      have hk1 : (k : Int) < l.length := by omega
      clear x1 x2 h1 h2
      go_wp2_with fail
      go_quiet (fail)
      go_wp2_with fail
      go_roundw
      case rel => exact ⟨k + 1, by omega, by go_num, m.drewN _⟩
      case measure => simp [intOf]; omega
    · have : k = l.length := by omega
      subst this
      go_wp2_with fail
      go_ret
      exact ⟨rfl, m⟩

theorem rlen_c {v : Value} {cap : Int} {bays : List (List Pc)} {ag : List Pc} (w : World) (h : RefAt w v cap bays ag) :
    Calls Try.prog 31 #[v] w fun e w' => e = .returned (.int .i64 ag.length) ∧ Mod (fun _ => False) w w' := by
  obtain ⟨vb, va, rfl, hb, ha⟩ := h
  obtain ⟨A, c, rfl⟩ := ha.val
  obtain ⟨Ab, cb, rfl⟩ := hb.val
  go_enter Try.func31, Try.ntmps31
  go_wp2_with fail
  go_ret
  exact ⟨rfl, (Mod.refl _ _).alloc _⟩

theorem roldest_nil {v : Value} {cap : Int} {bays : List (List Pc)} (w : World) (h : RefAt w v cap bays []) :
    Calls Try.prog 21 #[v] w fun e w' => e = .returned (.tuple #[.string ⟨#[]⟩, .bool false]) ∧ Mod (fun _ => False) w w' := by
  obtain ⟨vb, va, rfl, hb, ha⟩ := h
  obtain ⟨A, c, rfl⟩ := ha.val
  obtain ⟨Ab, cb, rfl⟩ := hb.val
  go_enter Try.func21, Try.ntmps21
  go_wp2_with fail
  go_ret2
  exact ⟨rfl, (Mod.refl _ _).alloc _⟩
theorem roldest_cons {v : Value} {cap : Int} {bays : List (List Pc)} {x : Pc} {ag : List Pc} (w : World) (h : RefAt w v cap bays (x :: ag)) (hl : ag.length ≤ 1000) :
    Calls Try.prog 21 #[v] w fun e w' => e = .returned (.tuple #[.string x.1, .bool true]) ∧ Mod (fun _ => False) w w' := by
  obtain ⟨vb, va, rfl, hb, ha⟩ := h
  obtain ⟨A, c, rfl⟩ := ha.val
  obtain ⟨Ab, cb, rfl⟩ := hb.val
  obtain ⟨g, rfl, h0⟩ := ha.at_ 0 (by simp)
  simp only [List.getElem_cons_zero] at h0
  have hl0 : ¬ (((x :: ag).length : Nat) : Int) = 0 := by simp only [List.length_cons]; omega
  have hl1 : (0 : Int) < ((x :: ag).length : Nat) := by simp only [List.length_cons]; omega
  have h0' := At.cell0 h0 (.cells #[.int .i64 cap, .slice Ab bays.length cb, .slice (some ⟨g, 0, none⟩) (x :: ag).length c] 47)
  generalize (x :: ag).length = q at hl0 hl1 h0' ⊢
  clear ha h0 hb
  go_enter Try.func21, Try.ntmps21
  go_wp2_with fail
  go_ret2
  exact ⟨rfl, (Mod.refl _ _).alloc _⟩

theorem rbay_c {v : Value} {cap : Int} {bays : List (List Pc)} {ag : List Pc} (b : Int) (w : World) (h : RefAt w v cap bays ag) (hn : bays.length ≤ 16) :
    Calls Try.prog 30 #[v, .int .i64 b] w fun e w' => ∃ x, e = .returned x ∧ RowN w' x (bayF bays b) ∧ Mod (fun _ => False) w w' := by
  obtain ⟨vb, va, rfl, hb, ha⟩ := h
  obtain ⟨A, c, rfl⟩ := ha.val
  obtain ⟨Ab, cb, rfl⟩ := hb.val
  by_cases h1 : b < 0
  · have e : bayF bays b = [] := by rw [bayF, if_neg (by omega)]
    rw [e]
    clear e
    go_enter Try.func30, Try.ntmps30
    go_wp2_with fail
    go_ret
    exact ⟨_, rfl, RowN.nil _, (Mod.refl _ _).alloc _⟩
  · by_cases h2 : (bays.length : Int) ≤ b
    · have e : bayF bays b = [] := by rw [bayF, if_neg (by omega)]
      rw [e]
      clear e
      go_enter Try.func30, Try.ntmps30
      go_wp2_with fail
      go_ret
      exact ⟨_, rfl, RowN.nil _, (Mod.refl _ _).alloc _⟩
    · obtain ⟨a, rfl⟩ : ∃ a : Nat, b = a := ⟨b.toNat, by omega⟩
      have hlt : a < bays.length := by omega
      have e : bayF bays (a : Int) = bays.getD a [] := by rw [bayF, if_pos (by omega)]; simp
      rw [e]
      clear e
      obtain ⟨g, x, rfl, hx, hrow⟩ := hb.at_ a hlt
      have hx' := At.cell0 hx (.cells #[.int .i64 cap, .slice (some ⟨g, 0, none⟩) bays.length cb, .slice A ag.length c] 47)
      generalize bays.getD a [] = L at hrow ⊢
      have Hrow := hid hrow
      clear hb ha hx hrow
      go_enter Try.func30, Try.ntmps30
      go_wp2_with fail
      go_ret
      refine ⟨x, rfl, ?_, (Mod.refl _ _).alloc _⟩
      exact RowN.mod0 Hrow.out ((Mod.refl _ _).alloc _)

def atF (it : ByteArray) (l : List Pc) : Int := match l.findIdx? (isIt it) with
  | some k => k
  | none => -1
theorem at_c (v : Value) (l : List Pc) (it : ByteArray) (w : World) (h : RowN w v l) (hl : l.length ≤ 1000) :
    Calls Try.prog 37 #[v, .string it] w fun e w' => e = .returned (.int .i64 (atF it l)) ∧ w' = w := by
  obtain ⟨A, c, rfl⟩ := h.val
  go_enter Try.func37, Try.ntmps37
  go_wp2_with fail
  go_loopw [5] (fun s wr => ∃ k : Nat, k ≤ l.length ∧ s = .int .i64 k ∧ Hid (∀ j, j < k → ∀ x, l[j]? = some x → x.1 ≠ it) ∧ wr = w)
    (fun s _ => l.length - (intOf s).toNat)
  case atStart => exact ⟨0, by omega, rfl, fun j hj => by omega, rfl⟩
  case round =>
    obtain ⟨k, hk, rfl, hno, rfl⟩ := hrel
    by_cases hlt : k < l.length
    · obtain ⟨g, rfl, x1⟩ := h.at_ k hlt
      have hxk : Hid (l[k]? = some l[k]) := List.getElem?_eq_getElem hlt
      generalize hX : l[k] = x at x1 hxk
      have hk1 : (k : Int) < l.length := by omega
      have Hh := hid h
      clear hX h
      by_cases hx : x.1 = it
      · have t1 := seq_true hx
        have Hx := hid hx
        clear hx
        go_wp2_with fail
        go_ret
        refine ⟨?_, rfl⟩
        have : l.findIdx? (isIt it) = some k := by
          rw [List.findIdx?_eq_some_iff_getElem]
          refine ⟨hlt, ?_, fun j hj => ?_⟩
          · have := hxk.out
            rw [List.getElem?_eq_getElem hlt] at this
            rw [Option.some.inj this]
            simpa [isIt] using Hx.out
          · have := hno.out j hj _ (List.getElem?_eq_getElem (by omega))
            simpa [isIt] using this
        rw [atF, this]
        rfl
      · have t1 := seq_false hx
        have Hx := hid hx
        clear hx
        go_wp2_with fail
        go_roundw
        case rel =>
          refine ⟨k + 1, by omega, by go_num, fun j hj y hy => ?_, by first | rfl | trivial⟩
          by_cases e : j = k
          · subst e
            have := hxk.out
            rw [hy] at this
            rw [Option.some.inj this]
            exact Hx.out
          · exact hno.out j (by omega) y hy
        case measure => simp [intOf]; omega
    · have : k = l.length := by omega
      subst this
      go_wp2_with fail
      go_ret
      refine ⟨?_, rfl⟩
      have : l.findIdx? (isIt it) = none := by
        rw [List.findIdx?_eq_none_iff]
        intro x hx
        obtain ⟨i, hi, rfl⟩ := List.getElem_of_mem hx
        have := hno.out i hi _ (List.getElem?_eq_getElem hi)
        simpa [isIt] using this
      rw [atF, this]
      rfl
end Go.Proofs.Ytknijmhhlfooaaa
