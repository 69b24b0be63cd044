/- Structs of one-cell fields, by value: each field's cell with its own reading. -/
import Derived.Test.YtdnodloinlijaaaOpen
namespace Go.Proofs.Ytdnodloinlijaaa
open Go.RowKit Go.ChangeShapes Go.WideShapes Go.Deep
set_option linter.unusedVariables false
set_option linter.unusedSimpArgs false

section
variable {H : Type} {enc : TypeId × Value → H} {P : Program} {w : World} {base : Nat} {spare : Nat → Bool} {held : Bool}

theorem open_struct {r : Reach} {b0 : Nat} {t : TypeId} {fs : Array Field} {v : Value} {d : DataW H} {p : List MemPlace} (hs : P.underlying t = some (.struct fs)) (hone : oneCellFields P fs = true) (hC : P.cellsOf t = fs.size)
    (hv : Value.okWide P w r b0 t v) (h : DataW.Trod enc P w base spare held t v d p) :
    ∃ l : List Value, v = .agg l.toArray ∧ l.length = fs.size ∧ ∀ (j : Nat) (f : Field), fs[j]? = some f → ∃ (c : Value) (y : DataW H × List MemPlace) (n : Nat), l[j]? = some c ∧ DataW.trod enc P w base spare held n f.type [c] = some y := by
  simp only [Value.okWide, hs] at hv
  obtain ⟨cs, rfl, hsz, _⟩ := hv
  rw [hC] at hsz
  obtain ⟨l⟩ := cs
  have hl : l.length = fs.size := hsz
  refine ⟨l, rfl, hl, fun j f hj => ?_⟩
  obtain ⟨fuel, hf⟩ := h
  obtain ⟨ys, n', hn', hy, hlen, hyl, hg⟩ := DataW.trod_struct hs hf
  have g0 := hg j f hj
  obtain ⟨ho0, hk0⟩ := hone_of hone j f hj
  rw [ho0, hk0] at g0
  have hjl : j < fs.size := (Array.getElem?_eq_some_iff.1 hj).1
  have hcl : (Value.agg l.toArray).cells.toList = l := by simp [Value.cells]
  rw [hcl] at g0
  have hjl' : j < l.length := by omega
  have hone' : (l.drop j).take 1 = [l[j]'hjl'] := by
    rw [List.drop_eq_getElem_cons hjl']
    rfl
  rw [hone'] at g0
  have hys : ys[j]? = some (ys[j]'(by omega)) := List.getElem?_eq_getElem (by omega)
  exact ⟨_, _, n', List.getElem?_eq_getElem hjl', g0.trans hys⟩
theorem one_int {t : TypeId} {k : IntKind} {c : Value} (ht : P.underlying t = some (.int k)) (h : ∃ (y : DataW H × List MemPlace) (n : Nat), DataW.trod enc P w base spare held n t [c] = some y) : ∃ x : Int, c = .int k x ∧ (Lit.int k x).wf = true := by
  obtain ⟨y, n, hy⟩ := h
  obtain ⟨a, e, _, hw⟩ := DataW.trod_int ht hy
  simp at e
  subst e
  exact ⟨a, rfl, hw⟩
theorem one_str {t : TypeId} {c : Value} (ht : P.underlying t = some .string) (h : ∃ (y : DataW H × List MemPlace) (n : Nat), DataW.trod enc P w base spare held n t [c] = some y) : ∃ x : ByteArray, c = .string x ∧ x.size ≤ maxLen := by
  obtain ⟨y, n, hy⟩ := h
  obtain ⟨a, e, _, hw⟩ := DataW.trod_string ht hy
  simp at e
  subst e
  exact ⟨a, rfl, by simpa using hw⟩
end
end Go.Proofs.Ytdnodloinlijaaa
