/- Arguments opened to cells: arrays of two ints, slices of structs, ints and strings in them. -/
import Derived.WalkKit
import Derived.ProofKit
import Derived.OpenShut
import Derived.Deep.Slices
import Derived.Deep.Fields
import Derived.ChangeSame
import Derived.ChangeMaps5
namespace Go.Proofs.Ytdnodloinlijaaa
open Go.RowKit Go.ChangeShapes Go.WideShapes Go.Deep
set_option linter.unusedVariables false
set_option linter.unusedSimpArgs false

section
variable {H : Type} {enc : TypeId × Value → H} {P : Program} {w : World} {base : Nat} {spare : Nat → Bool} {held : Bool}

/-- An array of two ints, by value. -/
theorem open_arr2 {r : Reach} {b0 : Nat} {t e : TypeId} {k : IntKind} {v : Value} {d : DataW H} {p : List MemPlace} (hs : P.underlying t = some (.array 2 e)) (he : P.underlying e = some (.int k)) (hC : P.cellsOf t = 2) (hE : P.cellsOf e = 1)
    (hv : Value.okWide P w r b0 t v) (h : DataW.Trod enc P w base spare held t v d p) :
    ∃ x y : Int, v = .agg #[.int k x, .int k y] ∧ (Lit.int k x).wf = true ∧ (Lit.int k y).wf = true := by
  simp only [Value.okWide, hs] at hv
  obtain ⟨cs, rfl, hsz, _⟩ := hv
  rw [hC] at hsz
  obtain ⟨l⟩ := cs
  have hl : l.length = 2 := hsz
  obtain ⟨c0, c1, rfl⟩ : ∃ c0 c1, l = [c0, c1] := by
    match l, hl with
    | [c0, c1], _ => exact ⟨c0, c1, rfl⟩
  obtain ⟨fuel, hf⟩ := h
  obtain ⟨xs, m, _, _, _, hlen, hg⟩ := DataW.trod_array hs hf
  have g0 := hg 0 (by omega)
  have g1 := hg 1 (by omega)
  rw [hE] at g0 g1
  obtain ⟨y0, y1, rfl⟩ : ∃ y0 y1, xs = [y0, y1] := by
    match xs, hlen with
    | [y0, y1], _ => exact ⟨y0, y1, rfl⟩
  have g0' : DataW.trod enc P w base spare held m e [c0] = some y0 := by simpa [Value.cells] using g0
  have g1' : DataW.trod enc P w base spare held m e [c1] = some y1 := by simpa [Value.cells] using g1
  obtain ⟨a0, e0, _, w0⟩ := DataW.trod_int he g0'
  obtain ⟨a1, e1, _, w1⟩ := DataW.trod_int he g1'
  simp at e0 e1
  subst e0 e1
  exact ⟨a0, a1, rfl, w0, w1⟩

/-- A struct of two ints, by value. -/
theorem open_pair {r : Reach} {b0 : Nat} {t : TypeId} {f0 f1 : Field} {k : IntKind} {v : Value} {d : DataW H} {p : List MemPlace} (hs : P.underlying t = some (.struct #[f0, f1])) (h0 : P.underlying f0.type = some (.int k)) (h1 : P.underlying f1.type = some (.int k)) (hone : oneCellFields P #[f0, f1] = true) (hC : P.cellsOf t = 2)
    (hv : Value.okWide P w r b0 t v) (h : DataW.Trod enc P w base spare held t v d p) :
    ∃ x y : Int, v = .agg #[.int k x, .int k y] ∧ (Lit.int k x).wf = true ∧ (Lit.int k y).wf = true := by
  simp only [Value.okWide, hs] at hv
  obtain ⟨cs, rfl, hsz, _⟩ := hv
  rw [hC] at hsz
  obtain ⟨l⟩ := cs
  have hl : l.length = 2 := hsz
  obtain ⟨c0, c1, rfl⟩ : ∃ c0 c1, l = [c0, c1] := by
    match l, hl with
    | [c0, c1], _ => exact ⟨c0, c1, rfl⟩
  obtain ⟨fuel, hf⟩ := h
  obtain ⟨ys, n', hn', hy, hlen, hyl, hg⟩ := DataW.trod_struct hs hf
  have g0 := hg 0 f0 rfl
  have g1 := hg 1 f1 rfl
  obtain ⟨ho0, hk0⟩ := hone_of hone 0 f0 rfl
  obtain ⟨ho1, hk1⟩ := hone_of hone 1 f1 rfl
  rw [ho0, hk0] at g0
  rw [ho1, hk1] at g1
  have hz : ys.length = 2 := hyl
  obtain ⟨y0, y1, rfl⟩ : ∃ y0 y1, ys = [y0, y1] := by
    match ys, hz with
    | [y0, y1], _ => exact ⟨y0, y1, rfl⟩
  have g0' : DataW.trod enc P w base spare held n' f0.type [c0] = some y0 := by simpa [Value.cells] using g0
  have g1' : DataW.trod enc P w base spare held n' f1.type [c1] = some y1 := by simpa [Value.cells] using g1
  obtain ⟨a0, e0, _, w0⟩ := DataW.trod_int h0 g0'
  obtain ⟨a1, e1, _, w1⟩ := DataW.trod_int h1 g1'
  simp at e0 e1
  subst e0 e1
  exact ⟨a0, a1, rfl, w0, w1⟩

/-- A slice of structs of one-cell fields: each cell, with its own reading. -/
theorem open_rows {t e : TypeId} {fs : Array Field} {fuel : Nat} {cs : List Value} {x : DataW H × List MemPlace} (ht : P.underlying t = some (.slice e)) (he : P.underlying e = some (.struct fs))
    (hone : oneCellFields P fs = true) (hC : P.cellsOf e = fs.size) (h : DataW.trod enc P w base spare held fuel t cs = some x) :
    (cs = [.slice none 0 0]) ∨
    ∃ (a : Addr) (len cap : Nat), cs = [.slice (some a) len cap] ∧ len ≤ cap ∧ cap ≤ maxLen ∧
      ∀ i, i < len → ∀ (j : Nat) (f : Field), fs[j]? = some f → ∃ (v : Value) (y : DataW H × List MemPlace) (n : Nat), w.cell? (a.add (i * fs.size + j)) = some v ∧ DataW.trod enc P w base spare held n f.type [v] = some y := by
  rcases open_slice ht h with h0 | ⟨a, len, cap, m, n, D, Pl, hcs, hb, hl, hm, hmm, hx, hi⟩
  · exact .inl h0.1
  · have hlm : len ≤ m := by rw [hmm]; split <;> omega
    refine .inr ⟨a, len, cap, hcs, hl, hm, fun i him => ?_⟩
    obtain ⟨cs', hc, ht'⟩ := hi i (by omega)
    rw [hC] at hc
    obtain ⟨ys, n', hn', hy, hlen, hyl, hf⟩ := DataW.trod_struct he ht'
    obtain ⟨_, hcl, hat⟩ := World.cells?_some hc
    intro j f hj
    obtain ⟨ho, hk⟩ := hone_of hone j f hj
    have hjl : j < fs.size := (Array.getElem?_eq_some_iff.1 hj).1
    have hcell := hat j hjl
    have hv : cs'[j]? = some (cs'[j]'(by omega)) := List.getElem?_eq_getElem (by omega)
    have h1 := hf j f hj
    rw [ho, hk] at h1
    have hone' : (cs'.drop j).take 1 = [cs'[j]'(by omega)] := by
      rw [List.drop_eq_getElem_cons (by omega)]
      rfl
    rw [hone'] at h1
    have hys : ys[j]? = some (ys[j]'(by omega)) := List.getElem?_eq_getElem (by omega)
    refine ⟨_, _, n', ?_, h1.trans hys⟩
    rw [← Go.Deep.add_add, hcell, hv]

theorem cell_int {p : Addr} {t : TypeId} {k : IntKind} (ht : P.underlying t = some (.int k)) (h : ∃ (v : Value) (y : DataW H × List MemPlace) (n : Nat), w.cell? p = some v ∧ DataW.trod enc P w base spare held n t [v] = some y) :
    ∃ x : Int, w.cell? p = some (.int k x) ∧ (Lit.int k x).wf = true := by
  obtain ⟨v, y, n, hc, hy⟩ := h
  obtain ⟨a, e, _, hw⟩ := DataW.trod_int ht hy
  simp at e
  subst e
  exact ⟨a, hc, hw⟩
theorem cell_str {p : Addr} {t : TypeId} (ht : P.underlying t = some .string) (h : ∃ (v : Value) (y : DataW H × List MemPlace) (n : Nat), w.cell? p = some v ∧ DataW.trod enc P w base spare held n t [v] = some y) :
    ∃ x : ByteArray, w.cell? p = some (.string x) ∧ x.size ≤ maxLen := by
  obtain ⟨v, y, n, hc, hy⟩ := h
  obtain ⟨a, e, _, hw⟩ := DataW.trod_string ht hy
  simp at e
  subst e
  exact ⟨a, hc, by simpa using hw⟩
end
theorem pick {α : Type} [Inhabited α] {n : Nat} {R : Nat → α → Prop} (h : ∀ i, i < n → ∃ x, R i x) : ∃ f : Nat → α, ∀ i, i < n → R i (f i) := by
  classical
  refine ⟨fun i => if hi : i < n then (h i hi).choose else default, fun i hi => ?_⟩
  simp only [dif_pos hi]
  exact (h i hi).choose_spec
theorem addr_plain {w : World} {a : Addr} {v : Value} (h : w.cell? a = some v) : ∃ b off, a = ⟨b, off, none⟩ := by
  obtain ⟨b, off, sp⟩ := a
  refine ⟨b, off, ?_⟩
  cases sp with
  | none => rfl
  | some x =>
    exfalso
    unfold World.cell? at h
    split at h <;> simp at h
end Go.Proofs.Ytdnodloinlijaaa
