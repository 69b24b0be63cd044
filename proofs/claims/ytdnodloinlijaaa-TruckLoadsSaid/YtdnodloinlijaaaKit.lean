/- Words on worlds: which blocks a call may have turned, and what a block holds. -/
import Derived.WalkKit
import Derived.KernelRfl
import Derived.Deep.QuietTactic
import Derived.BigQuiet
namespace Go.Proofs.Ytdnodloinlijaaa
open Go.RowKit
set_option linter.unusedVariables false
set_option linter.unusedSimpArgs false

/-- A fact kept from the walk: 'h.out' gives it back. -/
theorem hid {p : Prop} (h : p) : Hid p := h

/-- Block number b holds o. -/
def At (w : World) (b : Nat) (o : Obj) : Prop := w.heap[b]? = some o

/-- w' is w with new blocks and with writes to blocks in S alone. -/
structure Mod (S : Nat → Prop) (w w' : World) : Prop where
  os : w'.os = w.os
  tape : w'.tape = w.tape
  output : w'.output = w.output
  size : w.heap.size ≤ w'.heap.size
  block : ∀ k, k < w.heap.size → ¬ S k → w'.heap[k]? = w.heap[k]?

theorem At.lt {w : World} {b : Nat} {o : Obj} (h : At w b o) : b < w.heap.size := (Array.getElem?_eq_some_iff.1 h).1

theorem At.cell {w : World} {b : Nat} {c : Array Value} {t : TypeId} {fr : Nat × Nat} (h : At w b (.cells c t fr)) (i : Nat) : w.cell? ⟨b, i, none⟩ = c[i]? := by
  unfold At at h
  simp [World.cell?, h]

theorem At.free {w : World} {b : Nat} {c : Array Value} {t : TypeId} (h : At w b (.cells c t (0, 0))) (i : Nat) : w.frozen? ⟨b, i, none⟩ = false := by
  unfold At at h
  simp [World.frozen?, h]

theorem At.new (w : World) (o : Obj) : At (w.alloc o) w.heap.size o := heap_alloc_new w o

theorem At.alloc {w : World} {b : Nat} {o : Obj} (h : At w b o) (o' : Obj) : At (w.alloc o') b o := by
  have := h.lt
  unfold At at *
  rw [Below.heap_alloc w o' b this, h]

theorem At.drew {w : World} {b : Nat} {o : Obj} (h : At w b o) : At w.drew b o := h
theorem At.drewN {w : World} {b : Nat} {o : Obj} (h : At w b o) (n : Nat) : At (w.drewN n) b o := h

theorem At.put {w : World} {b : Nat} {c : Array Value} {t : TypeId} {fr : Nat × Nat} (h : At w b (.cells c t fr)) (i : Nat) (v : Value) :
    At (w.setCell ⟨b, i, none⟩ v) b (.cells (c.setIfInBounds i v) t fr) := by
  unfold At at *
  simp [World.setCell, Array.getElem?_modify, h]

theorem At.other {w : World} {b : Nat} {o : Obj} (h : At w b o) (a : Addr) (v : Value) (hne : b ≠ a.block) : At (w.setCell a v) b o := by
  unfold At at *
  rw [Below.heap_setCell w a v b hne, h]

theorem At.mod {S : Nat → Prop} {w w' : World} {b : Nat} {o : Obj} (h : At w b o) (m : Mod S w w') (hs : ¬ S b) : At w' b o := by
  have := h.lt
  unfold At at *
  rw [m.block b this hs, h]

theorem At.below {B : Nat} {w w' : World} {b : Nat} {o : Obj} (h : At w b o) (m : Below B w w') (hb : b < B) : At w' b o := by
  unfold At at *
  rw [m.block b hb, h]

theorem At.fin {w : World} {b : Nat} {o o' : Obj} (h : At w b o) (e : o = o') : At w b o' := e ▸ h

theorem At.inj {w : World} {b : Nat} {o o' : Obj} (h : At w b o) (h' : At w b o') : o = o' := by
  unfold At at *
  rw [h] at h'
  exact Option.some.inj h'

theorem Mod.refl (S : Nat → Prop) (w : World) : Mod S w w := ⟨rfl, rfl, rfl, Nat.le_refl _, fun _ _ _ => rfl⟩

theorem Mod.trans' {S T : Nat → Prop} {a b c : World} (h : Mod S a b) (k : Mod T b c) (hT : ∀ i, i < a.heap.size → T i → S i) : Mod S a c :=
  ⟨k.os.trans h.os, k.tape.trans h.tape, k.output.trans h.output, Nat.le_trans h.size k.size,
   fun i hi hs => (k.block i (Nat.lt_of_lt_of_le hi h.size) (fun t => hs (hT i hi t))).trans (h.block i hi hs)⟩

theorem Mod.trans {S : Nat → Prop} {a b c : World} (h : Mod S a b) (k : Mod S b c) : Mod S a c := h.trans' k (fun _ _ t => t)

theorem Mod.mono {S T : Nat → Prop} {a b : World} (h : Mod S a b) (hS : ∀ i, i < a.heap.size → S i → T i) : Mod T a b :=
  ⟨h.os, h.tape, h.output, h.size, fun i hi ht => h.block i hi (fun s => ht (hS i hi s))⟩

theorem Mod.drew {S : Nat → Prop} {a b : World} (h : Mod S a b) : Mod S a b.drew := ⟨h.os, h.tape, h.output, h.size, h.block⟩
theorem Mod.drewN {S : Nat → Prop} {a b : World} (h : Mod S a b) (n : Nat) : Mod S a (b.drewN n) := ⟨h.os, h.tape, h.output, h.size, h.block⟩

theorem Mod.alloc {S : Nat → Prop} {a b : World} (h : Mod S a b) (o : Obj) : Mod S a (b.alloc o) :=
  ⟨h.os, h.tape, h.output, Nat.le_trans h.size (by simp), fun i hi hs => (Below.heap_alloc b o i (Nat.lt_of_lt_of_le hi h.size)).trans (h.block i hi hs)⟩

theorem Mod.put {S : Nat → Prop} {a b : World} (h : Mod S a b) {p : Addr} (v : Value) (hp : p.block < a.heap.size → S p.block) : Mod S a (b.setCell p v) :=
  ⟨h.os, h.tape, h.output, by simpa [World.setCell] using h.size, fun i hi hs => by
    by_cases e : i = p.block
    · subst e; exact absurd (hp hi) hs
    · exact (Below.heap_setCell b p v i e).trans (h.block i hi hs)⟩

theorem Mod.below {S : Nat → Prop} {a b c : World} (h : Mod S a b) {B : Nat} (k : Below B b c) (hB : a.heap.size ≤ B) : Mod S a c :=
  ⟨k.os.trans h.os, k.tape.trans h.tape, k.output.trans h.output, Nat.le_trans h.size k.size, fun i hi hs => (k.block i (by omega)).trans (h.block i hi hs)⟩

theorem Mod.toBelow {S : Nat → Prop} {a b : World} (h : Mod S a b) (B : Nat) (hB : B ≤ a.heap.size) (hS : ∀ i, i < B → ¬ S i) : Below B a b :=
  ⟨h.os, h.tape, h.output, h.size, fun i hi => h.block i (by omega) (hS i hi)⟩

theorem Mod.ofBelow {a b : World} {B : Nat} (k : Below B a b) (hB : a.heap.size ≤ B) (S : Nat → Prop) : Mod S a b :=
  (Mod.refl S a).below k hB

theorem Mod.keep {S : Nat → Prop} {w w' : World} (m : Mod S w w') {p : Addr} {v : Value} (hp : ¬ S p.block) (h : w.cell? p = some v) : w'.cell? p = some v :=
  (World.cell?_of_block (w := w) (m.block p.block (World.block_lt_of_cell? w p h) hp)).trans h
theorem Mod.keep0 {w w' : World} (m : Mod (fun _ => False) w w') {p : Addr} {v : Value} (h : w.cell? p = some v) : w'.cell? p = some v := m.keep id h

theorem Below.mod {S : Nat → Prop} {B : Nat} {a b c : World} (h : Below B a b) (k : Mod S b c) (hB : B ≤ b.heap.size) (hS : ∀ i, i < B → ¬ S i) : Below B a c :=
  h.trans (k.toBelow B hB hS)

end Go.Proofs.Ytdnodloinlijaaa
