/- Parcels and numbers in memory, as they are read; the plain functions of Check and Sum. -/
import Derived.Test.YtdnodloinlijaaaProg
import Derived.Test.YtdnodloinlijaaaKit
import Derived.Outline
import Derived.Deep.AppendLies
import Derived.Deep.RegionLaw
import Derived.OwnWalk
import Derived.WalkSmall
import Derived.StillTailTactics
import Derived.Deep.RegionHeld3
import Derived.Deep.DrawnRows
import Derived.Deep.DeepCutAuto
import Derived.Carry
namespace Go.Proofs.Ytdnodloinlijaaa
open Go.RowKit
set_option linter.unusedVariables false
set_option linter.unusedSimpArgs false

/-- A parcel: its weight, its volume, its worth. -/
structure Pc where
  w : Int
  v : Int
  x : Int
instance : Inhabited Pc := ⟨⟨0, 0, 0⟩⟩
theorem Pc.eq {p q : Pc} (h1 : p.w = q.w) (h2 : p.v = q.v) (h3 : p.x = q.x) : p = q := by cases p; cases q; simp_all

def rng (n : Int) : Bool := decide (0 ≤ n) && decide (n ≤ 1000000000000)
def okP (p : Pc) : Bool := rng p.w && (rng p.v && rng p.x)
def checkF (l : List Pc) (W V : Int) : Int := if 16 < l.length then 4 else if rng W && rng V then (if l.all okP then 0 else 9) else 9
def plusP (a b : Pc) : Pc := ⟨a.w + b.w, a.v + b.v, a.x + b.x⟩
/-- The sum of the parcels with the indices; or the error. -/
def sumGo (l : List Pc) : Int → Pc → List Int → Pc × Int
  | _, acc, [] => (acc, 0)
  | last, acc, i :: r => if i < 0 ∨ (l.length : Int) ≤ i then (⟨0, 0, 0⟩, 9) else if i ≤ last then (⟨0, 0, 0⟩, 11) else sumGo l i (plusP acc (l.getD i.toNat default)) r
def sumF (l : List Pc) (at_ : List Int) : Pc × Int := if checkF l 0 0 ≠ 0 then (⟨0, 0, 0⟩, checkF l 0 0) else sumGo l (-1) ⟨0, 0, 0⟩ at_

theorem add_plain (g j : Nat) : (⟨g, 0, none⟩ : Addr).add j = ⟨g, j, none⟩ := by unfold Addr.add; split <;> simp_all
theorem arr_cell {w : World} {B : Nat} {arr : Array Value} {t : TypeId} {fr : Nat × Nat} {i : Nat} {v : Value} (h : At w B (.cells arr t fr)) (hi : arr[i]? = some v) : w.cell? ⟨B, i, none⟩ = some v := (h.cell i).trans hi
theorem At.new1 (w : World) (o o' : Obj) : At ((w.alloc o).alloc o') (w.heap.size + 1) o' := by
  have := At.new (w.alloc o) o'
  simpa using this
theorem At.one {w : World} {b : Nat} {t : TypeId} {fr : Nat × Nat} {v0 : Value} (h : At w b (.cells #[v0] t fr)) : w.cell? ⟨b, 0, none⟩ = some v0 := h.cell 0
theorem At.two {w : World} {b : Nat} {t : TypeId} {fr : Nat × Nat} {v0 v1 : Value} (h : At w b (.cells #[v0, v1] t fr)) :
    w.cell? ⟨b, 0, none⟩ = some v0 ∧ w.cell? ⟨b, 1, none⟩ = some v1 := ⟨h.cell 0, h.cell 1⟩
theorem At.three {w : World} {b : Nat} {t : TypeId} {fr : Nat × Nat} {v0 v1 v2 : Value} (h : At w b (.cells #[v0, v1, v2] t fr)) :
    w.cell? ⟨b, 0, none⟩ = some v0 ∧ w.cell? ⟨b, 1, none⟩ = some v1 ∧ w.cell? ⟨b, 2, none⟩ = some v2 := ⟨h.cell 0, h.cell 1, h.cell 2⟩
theorem At.five {w : World} {b : Nat} {t : TypeId} {fr : Nat × Nat} {v0 v1 v2 v3 v4 : Value} (h : At w b (.cells #[v0, v1, v2, v3, v4] t fr)) :
    w.cell? ⟨b, 0, none⟩ = some v0 ∧ w.cell? ⟨b, 1, none⟩ = some v1 ∧ w.cell? ⟨b, 2, none⟩ = some v2 ∧ w.cell? ⟨b, 3, none⟩ = some v3 ∧ w.cell? ⟨b, 4, none⟩ = some v4 := ⟨h.cell 0, h.cell 1, h.cell 2, h.cell 3, h.cell 4⟩
/-- Blocks of two element types are two. -/
theorem cells_ne {w : World} {b c : Nat} {x y : Array Value} {t u : TypeId} {f g : Nat × Nat} (h : At w b (.cells x t f)) (k : At w c (.cells y u g)) (hne : t ≠ u) : b ≠ c := fun e => by
  subst e
  have := At.inj h k
  injection this with _ q _
  exact hne q
theorem own_ne {w : World} {base : Nat} {e : TypeId} {size n : Nat} {v : Value} {xs : List Value} {p : Nat} {cs : Array Value} {t : TypeId} {fr : Nat × Nat} (h : w.ownsRow base e size v n xs) (hp : At w p (.cells cs t fr)) (hne : e ≠ t) : some p ≠ v.ownBlock := by
  rcases h.2 with ⟨rfl, _⟩ | ⟨g', cap, cur, rfl, _, hh, _⟩
  · simp [Value.ownBlock]
  · intro he
    have : p = g' := by simpa [Value.ownBlock] using he
    subst this
    have := At.inj hp hh
    injection this with _ ht _
    exact hne ht.symm
theorem own_at {w : World} {base : Nat} {e : TypeId} {size n : Nat} {v : Value} {xs : List Value} (h : w.ownsRow base e size v n xs) {g : Nat} (hg : v.ownBlock = some g) : ∃ cur, At w g (.cells cur e (0, 0)) := by
  rcases h.2 with ⟨rfl, _⟩ | ⟨g', cap, cur, rfl, _, hh, _⟩
  · simp [Value.ownBlock] at hg
  · have : g' = g := by simpa [Value.ownBlock] using hg
    subst this
    exact ⟨cur, hh⟩
theorem own_base {w : World} {base : Nat} {e : TypeId} {size n : Nat} {v : Value} {xs : List Value} (h : w.ownsRow base e size v n xs) {g : Nat} (hg : v.ownBlock = some g) : base ≤ g := by
  rcases h.2 with ⟨rfl, _⟩ | ⟨g', cap, cur, rfl, hb, hh, _⟩
  · simp [Value.ownBlock] at hg
  · have : g' = g := by simpa [Value.ownBlock] using hg
    subst this
    exact hb
theorem own_same {w w' : World} {base : Nat} {e : TypeId} {size n : Nat} {v : Value} {xs : List Value} (h : w.ownsRow base e size v n xs) (hb : ∀ g, v.ownBlock = some g → w'.heap[g]? = w.heap[g]?) : w'.ownsRow base e size v n xs := by
  obtain ⟨h1, h2⟩ := h
  refine ⟨h1, ?_⟩
  rcases h2 with h0 | ⟨g, cap, cur, rfl, hg, hh, r⟩
  · exact .inl h0
  · exact .inr ⟨g, cap, cur, rfl, hg, (hb g rfl).trans hh, r⟩
theorem own_val {w : World} {base : Nat} {e : TypeId} {size n : Nat} {v : Value} {xs : List Value} (h : w.ownsRow base e size v n xs) : ∃ A c, v = .slice A n c := by
  rcases h.2 with ⟨rfl, rfl⟩ | ⟨g, cap, cur, rfl, _⟩
  · exact ⟨none, 0, rfl⟩
  · exact ⟨_, cap, rfl⟩
theorem own_mod {w w' : World} {S : Nat → Prop} {base : Nat} {e : TypeId} {size n : Nat} {v : Value} {xs : List Value} (h : w.ownsRow base e size v n xs) (m : Mod S w w') (hS : ∀ g, v.ownBlock = some g → ¬ S g) : w'.ownsRow base e size v n xs :=
  own_same h (fun g hg => by
    obtain ⟨cur, hc⟩ := own_at h hg
    exact m.block g hc.lt (hS g hg))
theorem own_mod0 {w w' : World} {base : Nat} {e : TypeId} {size n : Nat} {v : Value} {xs : List Value} (h : w.ownsRow base e size v n xs) (m : Mod (fun _ => False) w w') : w'.ownsRow base e size v n xs := own_mod h m (fun _ _ h => h)
theorem own_lt {w : World} {base : Nat} {e : TypeId} {size n : Nat} {v : Value} {xs : List Value} (h : w.ownsRow base e size v n xs) {g : Nat} (hg : v.ownBlock = some g) : g < w.heap.size := by
  obtain ⟨cur, hc⟩ := own_at h hg
  exact hc.lt
/-- A row seen from a later base. -/
theorem own_down {w : World} {base base' : Nat} {e : TypeId} {size n : Nat} {v : Value} {xs : List Value} (h : w.ownsRow base e size v n xs) (hb : base' ≤ base) : w.ownsRow base' e size v n xs := by
  obtain ⟨h1, h2⟩ := h
  refine ⟨h1, ?_⟩
  rcases h2 with h0 | ⟨g, cap, cur, rfl, hg, r⟩
  · exact .inl h0
  · exact .inr ⟨g, cap, cur, rfl, by omega, r⟩

/-- A slice that reads as the parcels l. -/
def Ps (w : World) (A : Option Addr) (l : List Pc) : Prop :=
  0 < l.length → ∃ b off t fr arr, A = some ⟨b, off, none⟩ ∧ At w b (.cells arr t fr) ∧ ∀ (i : Nat) (p : Pc), l[i]? = some p → arr[off + i * 3]? = some (.int .i64 p.w) ∧ arr[off + i * 3 + 1]? = some (.int .i64 p.v) ∧ arr[off + i * 3 + 2]? = some (.int .i64 p.x)
/-- A slice that reads as the numbers l. -/
def Is (w : World) (A : Option Addr) (l : List Int) : Prop :=
  0 < l.length → ∃ b off t fr arr, A = some ⟨b, off, none⟩ ∧ At w b (.cells arr t fr) ∧ ∀ (i : Nat) (x : Int), l[i]? = some x → arr[off + i]? = some (.int .i64 x)

theorem Ps.mod {S : Nat → Prop} {w w' : World} {A : Option Addr} {l : List Pc} (h : Ps w A l) (m : Mod S w w') (hS : ∀ b off, A = some ⟨b, off, none⟩ → b < w.heap.size → ¬ S b) : Ps w' A l := fun hn => by
  obtain ⟨b, off, t, fr, arr, e, ha, hc⟩ := h hn
  exact ⟨b, off, t, fr, arr, e, ha.mod m (hS b off e ha.lt), hc⟩
theorem Ps.mod0 {w w' : World} {A : Option Addr} {l : List Pc} (h : Ps w A l) (m : Mod (fun _ => False) w w') : Ps w' A l := h.mod m (fun _ _ _ _ h => h)
theorem Ps.below {w w' : World} {A : Option Addr} {l : List Pc} (h : Ps w A l) (m : Below w.heap.size w w') : Ps w' A l := fun hn => by
  obtain ⟨b, off, t, fr, arr, e, ha, hc⟩ := h hn
  exact ⟨b, off, t, fr, arr, e, ha.below m ha.lt, hc⟩
theorem Ps.get {w : World} {A : Option Addr} {l : List Pc} (h : Ps w A l) {i : Nat} {p : Pc} (hi : l[i]? = some p) :
    ∃ b off, A = some ⟨b, off, none⟩ ∧ b < w.heap.size ∧ w.cell? ⟨b, off + i * 3, none⟩ = some (.int .i64 p.w) ∧ w.cell? ⟨b, off + i * 3 + 1, none⟩ = some (.int .i64 p.v) ∧ w.cell? ⟨b, off + i * 3 + 2, none⟩ = some (.int .i64 p.x) := by
  have hl := (List.getElem?_eq_some_iff.1 hi).1
  obtain ⟨b, off, t, fr, arr, e, ha, hc⟩ := h (by omega)
  obtain ⟨h0, h1, h2⟩ := hc i p hi
  exact ⟨b, off, e, ha.lt, (ha.cell _).trans h0, (ha.cell _).trans h1, (ha.cell _).trans h2⟩
theorem Is.mod {S : Nat → Prop} {w w' : World} {A : Option Addr} {l : List Int} (h : Is w A l) (m : Mod S w w') (hS : ∀ b off, A = some ⟨b, off, none⟩ → b < w.heap.size → ¬ S b) : Is w' A l := fun hn => by
  obtain ⟨b, off, t, fr, arr, e, ha, hc⟩ := h hn
  exact ⟨b, off, t, fr, arr, e, ha.mod m (hS b off e ha.lt), hc⟩
theorem Is.mod0 {w w' : World} {A : Option Addr} {l : List Int} (h : Is w A l) (m : Mod (fun _ => False) w w') : Is w' A l := h.mod m (fun _ _ _ _ h => h)
theorem Is.below {w w' : World} {A : Option Addr} {l : List Int} (h : Is w A l) (m : Below w.heap.size w w') : Is w' A l := fun hn => by
  obtain ⟨b, off, t, fr, arr, e, ha, hc⟩ := h hn
  exact ⟨b, off, t, fr, arr, e, ha.below m ha.lt, hc⟩
theorem Is.get {w : World} {A : Option Addr} {l : List Int} (h : Is w A l) {i : Nat} {x : Int} (hi : l[i]? = some x) :
    ∃ b off, A = some ⟨b, off, none⟩ ∧ b < w.heap.size ∧ w.cell? ⟨b, off + i, none⟩ = some (.int .i64 x) := by
  have hl := (List.getElem?_eq_some_iff.1 hi).1
  obtain ⟨b, off, t, fr, arr, e, ha, hc⟩ := h (by omega)
  exact ⟨b, off, e, ha.lt, (ha.cell _).trans (hc i x hi)⟩
def intV (x : Int) : Value := .int .i64 x
theorem Is.of {w : World} {b : Nat} {l : List Int} {t : TypeId} {fr : Nat × Nat} {arr : Array Value} (h : At w b (.cells arr t fr)) (ha : arr.toList = l.map intV) : Is w (some ⟨b, 0, none⟩) l := fun hn =>
  ⟨b, 0, t, fr, arr, rfl, h, fun i x hi => by
    rw [Nat.zero_add, ← Array.getElem?_toList, ha, List.getElem?_map, hi]
    rfl⟩
def flatP : List Pc → List Value
  | [] => []
  | p :: r => .int .i64 p.w :: .int .i64 p.v :: .int .i64 p.x :: flatP r
theorem flatP_len : ∀ l : List Pc, (flatP l).length = l.length * 3
  | [] => rfl
  | p :: r => by simp [flatP, flatP_len r]; omega
theorem flatP_app : ∀ (a b : List Pc), flatP (a ++ b) = flatP a ++ flatP b
  | [], b => rfl
  | p :: r, b => by simp [flatP, flatP_app r b]
theorem flatP_get : ∀ (l : List Pc) (i : Nat) (p : Pc), l[i]? = some p → (flatP l)[i * 3]? = some (.int .i64 p.w) ∧ (flatP l)[i * 3 + 1]? = some (.int .i64 p.v) ∧ (flatP l)[i * 3 + 2]? = some (.int .i64 p.x)
  | [], i, p, h => by simp at h
  | q :: r, 0, p, h => by simp at h; subst h; simp [flatP]
  | q :: r, i + 1, p, h => by
    have := flatP_get r i p (by simpa using h)
    rw [show (i + 1) * 3 = i * 3 + 1 + 1 + 1 from by omega]
    simpa [flatP] using this
theorem Ps.of {w : World} {b : Nat} {l : List Pc} {t : TypeId} {fr : Nat × Nat} {arr : Array Value} (h : At w b (.cells arr t fr)) (ha : arr.toList = flatP l) : Ps w (some ⟨b, 0, none⟩) l := fun hn =>
  ⟨b, 0, t, fr, arr, rfl, h, fun i p hi => by
    obtain ⟨h0, h1, h2⟩ := flatP_get l i p hi
    rw [Nat.zero_add]
    refine ⟨?_, ?_, ?_⟩ <;> rw [← Array.getElem?_toList, ha] <;> assumption⟩
theorem Is.nil (w : World) (A : Option Addr) : Is w A [] := fun h => by simp at h
theorem Ps.nil (w : World) (A : Option Addr) : Ps w A [] := fun h => by simp at h
/-- An own row reads. -/
theorem Is.own {w : World} {base n c : Nat} {A : Option Addr} {l : List Int} (h : w.ownsRow base 3 1 (.slice A n c) n (l.map intV)) : Is w A l := fun hn => by
  have hl := h.1
  rw [List.length_map] at hl
  obtain ⟨_, h2⟩ := h
  rcases h2 with ⟨_, h0⟩ | ⟨g, cap, cur, hv, _, hh, _, _, _, ht⟩
  · omega
  · injection hv with hA _ _
    refine ⟨g, 0, _, _, cur, hA, hh, fun i x hi => ?_⟩
    have hil := (List.getElem?_eq_some_iff.1 hi).1
    have e : (cur.toList.take (n * 1))[i]? = some (.int .i64 x) := by
      rw [ht, List.getElem?_map, hi]
      rfl
    rw [List.getElem?_take_of_lt (by omega), Array.getElem?_toList] at e
    rw [Nat.zero_add]
    exact e
theorem Ps.own {w : World} {base n c : Nat} {A : Option Addr} {l : List Pc} (h : w.ownsRow base 28 3 (.slice A n c) n (flatP l)) : Ps w A l := fun hn => by
  have hl := h.1
  rw [flatP_len] at hl
  obtain ⟨_, h2⟩ := h
  rcases h2 with ⟨_, h0⟩ | ⟨g, cap, cur, hv, _, hh, _, _, _, ht⟩
  · omega
  · injection hv with hA _ _
    refine ⟨g, 0, _, _, cur, hA, hh, fun i p hi => ?_⟩
    have hil := (List.getElem?_eq_some_iff.1 hi).1
    obtain ⟨h0, h1, h2⟩ := flatP_get l i p hi
    rw [← ht, List.getElem?_take_of_lt (by omega), Array.getElem?_toList] at h0 h1 h2
    rw [Nat.zero_add]
    exact ⟨h0, h1, h2⟩
theorem own_len {w : World} {base n : Nat} {v : Value} {l : List Int} (h : w.ownsRow base 3 1 v n (l.map intV)) : n = l.length := by
  have := h.1
  rw [List.length_map] at this
  omega
end Go.Proofs.Ytdnodloinlijaaa
