/- A list of steps that came in. -/
import Derived.Test.YthhiadnjndnjoaaOpen
import Derived.Test.YthhiadnjndnjoaaKit
import Derived.Test.YthhiadnjndnjoaaProg
namespace Go.Proofs.Ythhiadnjndnjoaa
open Go.RowKit Go.ChangeShapes Go.WideShapes Go.Deep
set_option linter.unusedVariables false
set_option linter.unusedSimpArgs false

/-- A slice of n steps reads as op, ar. -/
def Steps (w : World) (A : Option Addr) (n : Nat) (op ar : Nat → Int) : Prop :=
  n ≤ 9223372036854775807 ∧ (0 < n → ∃ b off, A = some ⟨b, off, none⟩ ∧ b < w.heap.size ∧ ∀ i, i < n → w.cell? ⟨b, off + i * 2, none⟩ = some (.int .i64 (op i)) ∧ w.cell? ⟨b, off + i * 2 + 1, none⟩ = some (.int .i64 (ar i)))

theorem Steps.mod {w w' : World} {A : Option Addr} {n : Nat} {op ar : Nat → Int} (h : Steps w A n op ar) (m : Below w.heap.size w w') : Steps w' A n op ar := by
  refine ⟨h.1, fun hn => ?_⟩
  obtain ⟨b, off, e, hb, hc⟩ := h.2 hn
  exact ⟨b, off, e, Nat.lt_of_lt_of_le hb m.size, fun i hi => ⟨(m.cell hb).trans (hc i hi).1, (m.cell hb).trans (hc i hi).2⟩⟩

theorem open_steps {H : Type} {enc : TypeId × Value → H} {w : World} {base : Nat} {spare : Nat → Bool} {held : Bool} {A : Option Addr} {n c : Nat} {d : DataW H} {p : List MemPlace}
    (h : DataW.Trod enc Try.prog w base spare held 39 (.slice A n c) d p) : ∃ op ar : Nat → Int, Steps w A n op ar := by
  obtain ⟨fuel, hf⟩ := h
  rcases open_rows (fs := _) Try.underlying39 Try.underlying42 (by kernel_rfl) (by kernel_rfl) hf with h0 | ⟨a, len, cap, hcs, hl, hm, hc⟩
  · simp [Value.cells] at h0
    obtain ⟨rfl, rfl, rfl⟩ := h0
    exact ⟨fun _ => 0, fun _ => 0, by omega, fun h => absurd h (by omega)⟩
  · simp [Value.cells] at hcs
    obtain ⟨rfl, rfl, rfl⟩ := hcs
    have hm' : n ≤ 9223372036854775807 := by unfold maxLen at hm; omega
    obtain ⟨op, hop⟩ := pick (fun i hi => cell_int (k := .i64) Try.underlying3 (hc i hi 0 _ rfl))
    obtain ⟨ar, har⟩ := pick (fun i hi => cell_int (k := .i64) Try.underlying3 (hc i hi 1 _ rfl))
    refine ⟨op, ar, hm', fun hn => ?_⟩
    have h0 := (hop 0 hn).1
    have e0 : a.add (0 * 2 + 0) = a := by simp [Addr.add]
    rw [show (#[_, _] : Array Field).size = 2 from rfl, e0] at h0
    obtain ⟨b, off, rfl⟩ := addr_plain h0
    have ea : ∀ j, (⟨b, off, none⟩ : Addr).add j = ⟨b, off + j, none⟩ := by
      intro j
      unfold Addr.add
      split <;> simp_all
    refine ⟨b, off, rfl, World.block_lt_of_cell? w _ h0, fun i hi => ⟨?_, ?_⟩⟩
    · have := (hop i hi).1
      rw [ea] at this
      exact this
    · have := (har i hi).1
      rw [ea] at this
      exact this
end Go.Proofs.Ythhiadnjndnjoaa
