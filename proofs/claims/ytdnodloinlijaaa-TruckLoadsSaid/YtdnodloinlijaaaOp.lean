/- The arguments opened: a truck, a list of numbers. -/
import Derived.Test.YtdnodloinlijaaaAwake
import Derived.Test.YtdnodloinlijaaaOpen2
namespace Go.Proofs.Ytdnodloinlijaaa
open Go.RowKit Go.ChangeShapes Go.WideShapes Go.Deep
set_option linter.unusedVariables false
set_option linter.unusedSimpArgs false

theorem cell_at {w : World} {b off : Nat} {v : Value} (h : w.cell? ⟨b, off, none⟩ = some v) : ∃ arr t fr, At w b (.cells arr t fr) ∧ arr[off]? = some v := by
  unfold World.cell? at h
  split at h
  · rename_i c t fr h0
    exact ⟨c, t, fr, h0, h⟩
  · simp at h
theorem range_get {α : Type} {f : Nat → α} {n i : Nat} {x : α} (h : ((List.range n).map f)[i]? = some x) : i < n ∧ x = f i := by
  have hl := (List.getElem?_eq_some_iff.1 h).1
  simp at hl
  refine ⟨hl, ?_⟩
  simp [hl] at h
  exact h.symm
theorem open_pcs {H : Type} {enc : TypeId × Value → H} {w : World} {base : Nat} {spare : Nat → Bool} {held : Bool} {fuel : Nat} {v : Value} {x : DataW H × List MemPlace}
    (hf : DataW.trod enc Try.prog w base spare held fuel 22 [v] = some x) : ∃ A l c, v = .slice A l.length c ∧ Ps w A l := by
  rcases open_rows (fs := _) Try.underlying22 Try.underlying28 (by kernel_rfl) (by kernel_rfl) hf with h0 | ⟨a, len, cap, hcs, hl, hm, hc⟩
  · simp at h0
    exact ⟨none, [], 0, h0, Ps.nil _ _⟩
  · simp at hcs
    subst hcs
    obtain ⟨fw, hw⟩ := pick (fun i hi => cell_int (k := .i64) Try.underlying3 (hc i hi 0 _ rfl))
    obtain ⟨fv, hv⟩ := pick (fun i hi => cell_int (k := .i64) Try.underlying3 (hc i hi 1 _ rfl))
    obtain ⟨fx, hx⟩ := pick (fun i hi => cell_int (k := .i64) Try.underlying3 (hc i hi 2 _ rfl))
    refine ⟨some a, (List.range len).map (fun i => ⟨fw i, fv i, fx i⟩), cap, by simp, fun hn => ?_⟩
    simp at hn
    have h0 := (hw 0 hn).1
    have e0 : a.add (0 * 3 + 0) = a := by simp [Addr.add]
    rw [show (#[_, _, _] : Array Field).size = 3 from rfl, e0] at h0
    obtain ⟨b, off, rfl⟩ := addr_plain h0
    have ea : ∀ j, (⟨b, off, none⟩ : Addr).add j = ⟨b, off + j, none⟩ := by
      intro j
      unfold Addr.add
      split <;> simp_all
    obtain ⟨arr, t, fr, ha, _⟩ := cell_at h0
    refine ⟨b, off, t, fr, arr, rfl, ha, fun i p hi => ?_⟩
    obtain ⟨hi', rfl⟩ := range_get hi
    refine ⟨?_, ?_, ?_⟩
    · have := (hw i hi').1
      rw [ea, ha.cell] at this
      exact this
    · have := (hv i hi').1
      rw [ea, ha.cell] at this
      exact this
    · have := (hx i hi').1
      rw [ea, ha.cell] at this
      exact this
theorem open_truck {H : Type} {enc : TypeId × Value → H} {w : World} {base : Nat} {spare : Nat → Bool} {held : Bool} {r : Reach} {b0 : Nat} {v : Value} {d : DataW H} {p : List MemPlace}
    (hv : Value.okWide Try.prog w r b0 24 v) (h : DataW.Trod enc Try.prog w base spare held 24 v d p) :
    ∃ (A : Option Addr) (l : List Pc) (c : Nat) (W V : Int), v = .agg #[.slice A l.length c, .int .i64 W, .int .i64 V] ∧ Ps w A l := by
  obtain ⟨l, rfl, hl, hg⟩ := open_struct Try.underlying24 (by kernel_rfl) (by kernel_rfl) hv h
  obtain ⟨c0, y0, n0, e0, t0⟩ := hg 0 _ rfl
  obtain ⟨c1, y1, n1, e1, t1⟩ := hg 1 _ rfl
  obtain ⟨c2, y2, n2, e2, t2⟩ := hg 2 _ rfl
  obtain ⟨x1, rfl, _⟩ := one_int (k := .i64) Try.underlying3 ⟨_, _, t1⟩
  obtain ⟨x2, rfl, _⟩ := one_int (k := .i64) Try.underlying3 ⟨_, _, t2⟩
  obtain ⟨A, ps, c, rfl, ho⟩ := open_pcs t0
  have hl3 : l.length = 3 := hl
  refine ⟨A, ps, c, x1, x2, ?_, ho⟩
  match l, hl3, e0, e1, e2 with
  | [a, b, c], _, e0, e1, e2 => simp at e0 e1 e2; subst e0; subst e1; subst e2; rfl
theorem open_ints {H : Type} {enc : TypeId × Value → H} {w : World} {base : Nat} {spare : Nat → Bool} {held : Bool} {fuel : Nat} {v : Value} {x : DataW H × List MemPlace}
    (hf : DataW.trod enc Try.prog w base spare held fuel 25 [v] = some x) : ∃ (A : Option Addr) (l : List Int) (c : Nat), v = .slice A l.length c ∧ Is w A l := by
  rcases open_slice Try.underlying25 hf with h0 | ⟨a, len, cap, m, n, D, Pl, hcs, hb, hl, hm, hmm, hx, hi⟩
  · have := h0.1
    simp at this
    exact ⟨none, [], 0, this, Is.nil _ _⟩
  · simp at hcs
    subst hcs
    have hlm : len ≤ m := by rw [hmm]; split <;> omega
    have hc1 : Try.prog.cellsOf 3 = 1 := by kernel_rfl
    have each : ∀ i, i < len → ∃ y : Int, w.cell? (a.add i) = some (.int .i64 y) ∧ True := fun i hil => by
      obtain ⟨cs', h1, h2⟩ := hi i (by omega)
      rw [hc1] at h1
      obtain ⟨_, hcl, hat⟩ := World.cells?_some h1
      obtain ⟨y, e, _, _⟩ := DataW.trod_int Try.underlying3 h2
      subst e
      have := hat 0 (by omega)
      rw [Nat.mul_one, Go.Deep.add_add, Nat.add_zero] at this
      exact ⟨y, by rw [this]; rfl, trivial⟩
    obtain ⟨f, hf'⟩ := pick each
    refine ⟨some a, (List.range len).map f, cap, by simp, fun hn => ?_⟩
    simp at hn
    have h0 := (hf' 0 hn).1
    have e0 : a.add 0 = a := by simp [Addr.add]
    rw [e0] at h0
    obtain ⟨b, off, rfl⟩ := addr_plain h0
    have ea : ∀ j, (⟨b, off, none⟩ : Addr).add j = ⟨b, off + j, none⟩ := by
      intro j
      unfold Addr.add
      split <;> simp_all
    obtain ⟨arr, t, fr, ha, _⟩ := cell_at h0
    refine ⟨b, off, t, fr, arr, rfl, ha, fun i p hi => ?_⟩
    obtain ⟨hi', rfl⟩ := range_get hi
    have := (hf' i hi').1
    rw [ea, ha.cell] at this
    exact this
theorem open_nums {H : Type} {enc : TypeId × Value → H} {w : World} {base : Nat} {spare : Nat → Bool} {held : Bool} {r : Reach} {b0 : Nat} {v : Value} {d : DataW H} {p : List MemPlace}
    (hv : Value.okWide Try.prog w r b0 25 v) (h : DataW.Trod enc Try.prog w base spare held 25 v d p) : ∃ (A : Option Addr) (l : List Int) (c : Nat), v = .slice A l.length c ∧ Is w A l := by
  obtain ⟨fuel, hf⟩ := h
  obtain ⟨A, n, c, rfl⟩ := okWide_slice Try.underlying25 hv
  exact open_ints hf
end Go.Proofs.Ytdnodloinlijaaa
