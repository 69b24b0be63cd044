/- Find, as a function of the bays; its contract. -/
import Derived.Test.YtknijmhhlfooaaaYd
namespace Go.Proofs.Ytknijmhhlfooaaa
open Go.RowKit
set_option linter.unusedVariables false
set_option linter.unusedSimpArgs false

def findF (it : ByteArray) : Nat → List (List Pc) → Int × Int × Bool
  | _, [] => (0, 0, false)
  | a, l :: r => match l.findIdx? (fun x => decide (x.1 = it)) with
    | some k => ((a : Int), (l.length : Int) - 1 - k, true)
    | none => findF it (a + 1) r
def find (bays : List (List Pc)) (it : ByteArray) : Int × Int × Bool := findF it 0 bays

theorem findF_none (it : ByteArray) (bays : List (List Pc)) : ∀ a, (∀ i, i < bays.length → ∀ x ∈ bays.getD i [], x.1 ≠ it) → findF it a bays = (0, 0, false) := by
  induction bays with
  | nil => intro a _; rfl
  | cons l r ih =>
    intro a h
    have h0 := h 0 (by simp)
    have : l.findIdx? (fun x => decide (x.1 = it)) = none := by
      rw [List.findIdx?_eq_none_iff]
      intro x hx
      have := h0 x (by simpa using hx)
      simpa using this
    rw [findF, this]
    exact ih (a + 1) (fun i hi x hx => h (i + 1) (by simpa using hi) x (by simpa using hx))
theorem findF_hit (it : ByteArray) (bays : List (List Pc)) : ∀ a i k, i < bays.length → (hk : k < (bays.getD i []).length) → ((bays.getD i [])[k]'hk).1 = it → (∀ j, j < i → ∀ x ∈ bays.getD j [], x.1 ≠ it) →
    (∀ j, (hj : j < k) → ((bays.getD i [])[j]'(Nat.lt_trans hj hk)).1 ≠ it) → findF it a bays = (((a + i : Nat) : Int), ((bays.getD i []).length : Int) - 1 - k, true) := by
  induction bays with
  | nil => intro a i k hi; simp at hi
  | cons l r ih =>
    intro a i k hi hk he hb hj
    cases i with
    | zero =>
      have hk' : k < l.length := by simpa using hk
      have : l.findIdx? (fun x => decide (x.1 = it)) = some k := by
        rw [List.findIdx?_eq_some_iff_getElem]
        refine ⟨hk', by simpa using he, fun j hjk => ?_⟩
        have := hj j hjk
        simpa using this
      rw [findF, this]
      simp
    | succ i =>
      have h0 := hb 0 (by omega)
      have : l.findIdx? (fun x => decide (x.1 = it)) = none := by
        rw [List.findIdx?_eq_none_iff]
        intro x hx
        have := h0 x (by simpa using hx)
        simpa using this
      rw [findF, this]
      have := ih (a + 1) i k (by simpa using hi) (by simpa using hk) (by simpa using he) (fun j hji x hx => hb (j + 1) (by omega) x (by simpa using hx)) (fun j hjk => by have := hj j hjk; simpa using this)
      simp only
      rw [this]
      simp
      omega

theorem arr_cell {w : World} {B : Nat} {arr : Array Value} {t : TypeId} {fr : Nat × Nat} {i : Nat} {v : Value} (h : At w B (.cells arr t fr)) (hi : arr[i]? = some v) : w.cell? ⟨B, i, none⟩ = some v := (h.cell i).trans hi
theorem At.three {w : World} {b : Nat} {t : TypeId} {fr : Nat × Nat} {v0 v1 v2 : Value} (h : At w b (.cells #[v0, v1, v2] t fr)) :
    w.cell? ⟨b, 0, none⟩ = some v0 ∧ w.cell? ⟨b, 1, none⟩ = some v1 ∧ w.cell? ⟨b, 2, none⟩ = some v2 := ⟨h.cell 0, h.cell 1, h.cell 2⟩
theorem At.cell0 {w : World} {a : Addr} {v : Value} (h : w.cell? a = some v) (o : Obj) : (w.alloc o).cell? a = some v := (World.cell?_alloc_lt w o a (World.block_lt_of_cell? w a h)).trans h
/-- Item k of a row of items. -/
theorem item_cells {w : World} {A : Option Addr} {n c : Nat} {l : List Pc} (h : w.ownsRow 0 68 2 (.slice A n c) n (flat l)) (hn : n = l.length) (k : Nat) (hk : k < l.length) :
    ∃ g, A = some ⟨g, 0, none⟩ ∧ g < w.heap.size ∧ w.cell? ⟨g, k * 2, none⟩ = some (.string (l[k]'hk).1) ∧ w.cell? ⟨g, k * 2 + 1, none⟩ = some (.int .i64 (l[k]'hk).2) := by
  obtain ⟨g, cap, hv, _, hlt⟩ := h.form (by omega)
  have hA : A = some ⟨g, 0, none⟩ := by injection hv
  subst hA
  have hg := h.cells (g := g) rfl
  have f := flat_get l k hk
  have c0 := hg _ _ f.1
  have c1 := hg _ _ f.2
  rw [add_plain] at c0 c1
  exact ⟨g, rfl, hlt, c0, c1⟩

theorem toList_inj {a b : ByteArray} (h : a.toList = b.toList) : a = b := by
  rw [ByteArray.toList_eq, ByteArray.toList_eq] at h
  exact ByteArray.ext (Array.toList_inj.1 h)
theorem seq_true {a b : ByteArray} (h : a = b) : (a.toList == b.toList) = true := by simp [h]
theorem seq_false {a b : ByteArray} (h : a ≠ b) : (a.toList == b.toList) = false := by
  rw [beq_eq_false_iff_ne]
  exact fun e => h (toList_inj e)

set_option maxHeartbeats 800000 in
theorem find_c {F : Nat → Prop} {y : Nat} {cap puts : Int} {bays : List (List Pc)} (it : ByteArray) (w : World) (h : YardAt F w y cap puts bays) (hnb : bays.length ≤ 16) (hlen : ∀ i, i < bays.length → (bays.getD i []).length ≤ 32) :
    Calls Try.prog 16 #[.pointer (some ⟨y, 0, none⟩), .string it] w fun e w' => e = .returned (.tuple #[.int .i64 (find bays it).1, .int .i64 (find bays it).2.1, .bool (find bays it).2.2]) ∧ Mod (fun _ => False) w w' := by
  obtain ⟨B, c, ps, vs, h⟩ := h
  obtain ⟨c0, c1, c2⟩ := At.three h.hy
  go_enter Try.func16, Try.ntmps16
  go_wp2_with fail
  go_loopw [18] (fun s wr => ∃ a : Nat, a ≤ bays.length ∧ s = .int .i64 a ∧ Hid (∀ j, j < a → ∀ x ∈ bays.getD j [], x.1 ≠ it) ∧ Mod (fun _ => False) w wr)
    (fun s _ => bays.length - (intOf s).toNat)
  case atStart => exact ⟨0, by omega, rfl, fun j hj => by omega, Mod.refl _ _⟩
  case round =>
    obtain ⟨a, ha, rfl, hno, m⟩ := hrel
    by_cases hlt : a < bays.length
    · have hr := h.mod0 m
      obtain ⟨arr, hB, hpt⟩ := hr.hB
      have q0 := arr_cell hB (hpt a hlt)
      have q1 := At.one (hr.hp a hlt)
      have ho := hr.ho a hlt
      obtain ⟨A, cc, hv⟩ := own_val ho
      rw [hv] at q1 ho
      have hl32 := hlen a hlt
      generalize hL : bays.getD a [] = L at q1 ho hl32
      have HL := hid hL
      clear c0 c1 c2 hpt hv hB hL hlen
      go_wp2_with fail
      obtain ⟨wo, rfl⟩ : ∃ wo : World, wo = wr := ⟨_, rfl⟩
      clear q0
      go_loopw [28] (fun s wr => ∃ k : Nat, k ≤ L.length ∧ s = .int .i64 k ∧ Hid (∀ j, j < k → ∀ x, L[j]? = some x → x.1 ≠ it) ∧ Mod (fun _ => False) wo wr)
        (fun s _ => L.length - (intOf s).toNat)
      case atStart => exact ⟨0, by omega, rfl, fun j hj => by omega, Mod.refl _ _⟩
      case round =>
        obtain ⟨k, hk, rfl, hnk, mk⟩ := hrel
        by_cases hlk : k < L.length
        · obtain ⟨g, rfl, hg, d0, d1⟩ := item_cells ho rfl k hlk
          have d0' := mk.keep0 d0
          have d1' := mk.keep0 d1
          have q1' := mk.keep0 q1
          have hps := World.block_lt_of_cell? _ _ q1'
          simp only at hps
          clear d0 d1
          by_cases he : (L[k]'hlk).1 = it
          · have t1 := seq_true he
            have He := hid he
            clear he
            go_wp2_with fail
            refine (size_c (ps a) L.length cc _ _ (At.cell0 (by exact q1') _)).mono ?_
            rintro e w' ⟨rfl, rfl⟩
            go_wp2_with fail
            go_ret3
            have hk' : k < (bays.getD a []).length := by rw [HL.out]; exact hlk
            have e := findF_hit it bays 0 a k hlt hk' (by simp only [HL.out]; exact He.out) (fun j hj x hx => hno.out j hj x hx) (fun j hj => by
              have hjl : j < (bays.getD a []).length := by omega
              refine hnk.out j hj _ ?_
              rw [← HL.out]
              exact List.getElem?_eq_getElem hjl)
            rw [HL.out] at e
            refine ⟨?_, (m.trans mk).alloc _⟩
            rw [show find bays it = _ from e]
            simp
          · have t1 := seq_false he
            have He := hid he
            clear he
            go_wp2_with fail
            go_roundw
            case rel =>
              refine ⟨k + 1, by omega, by go_num, fun j hj x hx => ?_, mk.alloc _⟩
              by_cases e : j = k
              · subst e
                rw [List.getElem?_eq_getElem hlk] at hx
                cases hx
                exact He.out
              · exact hnk.out j (by omega) x hx
            case measure => simp [intOf]; omega
        · have : k = L.length := by omega
          subst this
          go_wp2_with fail
          go_roundw
          case rel =>
            refine ⟨a + 1, by omega, by go_num, fun j hj x hx => ?_, m.trans mk⟩
            by_cases e : j = a
            · subst e
              rw [HL.out] at hx
              obtain ⟨i, hi, rfl⟩ := List.getElem_of_mem hx
              exact hnk.out i hi _ (List.getElem?_eq_getElem hi)
            · exact hno.out j (by omega) x hx
          case measure => simp [intOf]; omega
    · have : a = bays.length := by omega
      subst this
      go_wp2_with fail
      go_ret3
      have e := findF_none it bays 0 (fun i hi => hno.out i hi)
      exact ⟨by rw [show find bays it = (0, 0, false) from e]; rfl, m⟩
end Go.Proofs.Ytknijmhhlfooaaa
