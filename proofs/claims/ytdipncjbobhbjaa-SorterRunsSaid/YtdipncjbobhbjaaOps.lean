/- The calls of a script; small. -/
import Derived.Test.YtdipncjbobhbjaaAwake
import Derived.Test.YtdipncjbobhbjaaOpen2
namespace Go.Proofs.Ytdipncjbobhbjaa
open Go.RowKit Go.Maps Go.ChangeShapes Go.WideShapes Go.Deep
set_option linter.unusedVariables false
set_option linter.unusedSimpArgs false

/-- A call: its kind, its key, its item, its bin. -/
structure Cl where
  kd : Int
  key : ByteArray
  item : ByteArray
  bin : Int
instance : Inhabited Cl := ⟨⟨0, .empty, .empty, 0⟩⟩

/-- A slice of n calls reads as f. -/
def Ops (w : World) (A : Option Addr) (n : Nat) (f : Nat → Cl) : Prop :=
  n ≤ 9223372036854775807 ∧ (0 < n → ∃ b off t fr, A = some ⟨b, off, none⟩ ∧ (∃ arr, At w b (.cells arr t fr) ∧ ∀ i, i < n → arr[off + i * 4]? = some (.int .u8 (f i).kd) ∧ arr[off + i * 4 + 1]? = some (.string (f i).key) ∧ arr[off + i * 4 + 2]? = some (.string (f i).item) ∧ arr[off + i * 4 + 3]? = some (.int .i64 (f i).bin) ∧ (f i).key.size ≤ maxLen ∧ (f i).item.size ≤ maxLen))

theorem Ops.mod {S : Nat → Prop} {w w' : World} {A : Option Addr} {n : Nat} {f : Nat → Cl} (h : Ops w A n f) (m : Mod S w w') (hS : ∀ b off, A = some ⟨b, off, none⟩ → b < w.heap.size → ¬ S b) : Ops w' A n f := by
  refine ⟨h.1, fun hn => ?_⟩
  obtain ⟨b, off, t, fr, e, arr, ha, hc⟩ := h.2 hn
  exact ⟨b, off, t, fr, e, arr, ha.mod m (hS b off e ha.lt), hc⟩
theorem Ops.below {w w' : World} {A : Option Addr} {n : Nat} {f : Nat → Cl} (h : Ops w A n f) (m : Below w.heap.size w w') : Ops w' A n f := by
  refine ⟨h.1, fun hn => ?_⟩
  obtain ⟨b, off, t, fr, e, arr, ha, hc⟩ := h.2 hn
  exact ⟨b, off, t, fr, e, arr, ha.below m ha.lt, hc⟩
theorem Ops.get {w : World} {A : Option Addr} {n : Nat} {f : Nat → Cl} (h : Ops w A n f) {i : Nat} (hi : i < n) :
    ∃ b off, A = some ⟨b, off, none⟩ ∧ b < w.heap.size ∧ w.cell? ⟨b, off + i * 4, none⟩ = some (.int .u8 (f i).kd) ∧ w.cell? ⟨b, off + i * 4 + 1, none⟩ = some (.string (f i).key) ∧ w.cell? ⟨b, off + i * 4 + 2, none⟩ = some (.string (f i).item) ∧ w.cell? ⟨b, off + i * 4 + 3, none⟩ = some (.int .i64 (f i).bin) ∧ (f i).key.size ≤ maxLen ∧ (f i).item.size ≤ maxLen := by
  obtain ⟨b, off, t, fr, e, arr, ha, hc⟩ := h.2 (by omega)
  obtain ⟨h0, h1, h2, h3, h4, h5⟩ := hc i hi
  exact ⟨b, off, e, ha.lt, (ha.cell _).trans h0, (ha.cell _).trans h1, (ha.cell _).trans h2, (ha.cell _).trans h3, h4, h5⟩

theorem cell_at {w : World} {b off : Nat} {v : Value} (h : w.cell? ⟨b, off, none⟩ = some v) : ∃ arr t fr, At w b (.cells arr t fr) ∧ arr[off]? = some v := by
  unfold World.cell? at h
  split at h
  · rename_i c t fr h0
    exact ⟨c, t, fr, h0, h⟩
  · simp at h
theorem open_rows4 {H : Type} {enc : TypeId × Value → H} {w : World} {base : Nat} {spare : Nat → Bool} {held : Bool} {fuel : Nat} {v : Value} {x : DataW H × List MemPlace}
    (hf : DataW.trod enc Try.prog w base spare held fuel 22 [v] = some x) : ∃ A n c f, v = .slice A n c ∧ Ops w A n f := by
  rcases open_rows (fs := _) Try.underlying22 Try.underlying33 (by kernel_rfl) (by kernel_rfl) hf with h0 | ⟨a, len, cap, hcs, hl, hm, hc⟩
  · simp at h0
    exact ⟨none, 0, 0, default, h0, by omega, fun h => absurd h (by omega)⟩
  · simp at hcs
    subst hcs
    have hm' : len ≤ 9223372036854775807 := by unfold maxLen at hm; omega
    obtain ⟨kd, hkd⟩ := pick (fun i hi => cell_int (k := .u8) Try.underlying5 (hc i hi 0 _ rfl))
    obtain ⟨ky, hky⟩ := pick (fun i hi => cell_str Try.underlying9 (hc i hi 1 _ rfl))
    obtain ⟨it, hit⟩ := pick (fun i hi => cell_str Try.underlying9 (hc i hi 2 _ rfl))
    obtain ⟨bn, hbn⟩ := pick (fun i hi => cell_int (k := .i64) Try.underlying3 (hc i hi 3 _ rfl))
    refine ⟨some a, len, cap, fun i => ⟨kd i, ky i, it i, bn i⟩, rfl, hm', fun hn => ?_⟩
    have h0 := (hkd 0 hn).1
    have e0 : a.add (0 * 4 + 0) = a := by simp [Addr.add]
    rw [show (#[_, _, _, _] : Array Field).size = 4 from rfl, e0] at h0
    obtain ⟨b, off, rfl⟩ := addr_plain h0
    have ea : ∀ j, (⟨b, off, none⟩ : Addr).add j = ⟨b, off + j, none⟩ := by
      intro j
      unfold Addr.add
      split <;> simp_all
    obtain ⟨arr, t, fr, ha, _⟩ := cell_at h0
    refine ⟨b, off, t, fr, rfl, arr, ha, fun i hi => ⟨?_, ?_, ?_, ?_, ?_, ?_⟩⟩
    · have := (hkd i hi).1
      rw [ea, ha.cell] at this
      exact this
    · have := (hky i hi).1
      rw [ea, ha.cell] at this
      exact this
    · have := (hit i hi).1
      rw [ea, ha.cell] at this
      exact this
    · have := (hbn i hi).1
      rw [ea, ha.cell] at this
      exact this
    · exact (hky i hi).2
    · exact (hit i hi).2

theorem open_script {H : Type} {enc : TypeId × Value → H} {w : World} {base : Nat} {spare : Nat → Bool} {held : Bool} {r : Reach} {b0 : Nat} {v : Value} {d : DataW H} {p : List MemPlace}
    (hv : Value.okWide Try.prog w r b0 24 v) (h : DataW.Trod enc Try.prog w base spare held 24 v d p) :
    ∃ (nb cap : Int) (A : Option Addr) (n c : Nat) (f : Nat → Cl), v = .agg #[.int .i64 nb, .int .i64 cap, .slice A n c] ∧ Ops w A n f := by
  obtain ⟨l, rfl, hl, hg⟩ := open_struct Try.underlying24 (by kernel_rfl) (by kernel_rfl) hv h
  obtain ⟨c0, y0, n0, e0, t0⟩ := hg 0 _ rfl
  obtain ⟨c1, y1, n1, e1, t1⟩ := hg 1 _ rfl
  obtain ⟨c2, y2, n2, e2, t2⟩ := hg 2 _ rfl
  obtain ⟨x0, rfl, _⟩ := one_int (k := .i64) Try.underlying3 ⟨_, _, t0⟩
  obtain ⟨x1, rfl, _⟩ := one_int (k := .i64) Try.underlying3 ⟨_, _, t1⟩
  obtain ⟨A, n, c, f, rfl, ho⟩ := open_rows4 t2
  have hl3 : l.length = 3 := hl
  refine ⟨x0, x1, A, n, c, f, ?_, ho⟩
  match l, hl3, e0, e1, e2 with
  | [a, b, c], _, e0, e1, e2 => simp at e0 e1 e2; subst e0; subst e1; subst e2; rfl
theorem open_call {H : Type} {enc : TypeId × Value → H} {w : World} {base : Nat} {spare : Nat → Bool} {held : Bool} {r : Reach} {b0 : Nat} {v : Value} {d : DataW H} {p : List MemPlace}
    (hv : Value.okWide Try.prog w r b0 33 v) (h : DataW.Trod enc Try.prog w base spare held 33 v d p) :
    ∃ (kd : Int) (key item : ByteArray) (bin : Int), v = .agg #[.int .u8 kd, .string key, .string item, .int .i64 bin] := by
  obtain ⟨l, rfl, hl, hg⟩ := open_struct Try.underlying33 (by kernel_rfl) (by kernel_rfl) hv h
  obtain ⟨c0, y0, n0, e0, t0⟩ := hg 0 _ rfl
  obtain ⟨c1, y1, n1, e1, t1⟩ := hg 1 _ rfl
  obtain ⟨c2, y2, n2, e2, t2⟩ := hg 2 _ rfl
  obtain ⟨c3, y3, n3, e3, t3⟩ := hg 3 _ rfl
  obtain ⟨x0, rfl, _⟩ := one_int (k := .u8) Try.underlying5 ⟨_, _, t0⟩
  obtain ⟨x1, rfl, _⟩ := one_str Try.underlying9 ⟨_, _, t1⟩
  obtain ⟨x2, rfl, _⟩ := one_str Try.underlying9 ⟨_, _, t2⟩
  obtain ⟨x3, rfl, _⟩ := one_int (k := .i64) Try.underlying3 ⟨_, _, t3⟩
  have hl4 : l.length = 4 := hl
  refine ⟨x0, x1, x2, x3, ?_⟩
  match l, hl4, e0, e1, e2, e3 with
  | [a, b, c, d], _, e0, e1, e2, e3 => simp at e0 e1 e2 e3; subst e0; subst e1; subst e2; subst e3; rfl

/-- At most 150 calls with strings of at most 100 bytes. -/
def smallF (n : Nat) (f : Nat → Cl) : Bool := decide (n ≤ 150) && (List.range n).all fun i => decide ((f i).key.size ≤ 100) && decide ((f i).item.size ≤ 100)
theorem smallF_true {n : Nat} {f : Nat → Cl} (h : smallF n f = true) : n ≤ 150 ∧ ∀ i, i < n → (f i).key.size ≤ 100 ∧ (f i).item.size ≤ 100 := by
  simp only [smallF, Bool.and_eq_true, List.all_eq_true, decide_eq_true_eq] at h
  exact ⟨h.1, fun i hi => h.2 i (List.mem_range.2 hi)⟩
theorem smallF_false {n : Nat} {f : Nat → Cl} (i : Nat) (hi : i < n) (h : 100 < (f i).key.size ∨ 100 < (f i).item.size) : smallF n f = false := by
  simp only [smallF, Bool.and_eq_false_iff, List.all_eq_false]
  refine .inr ⟨i, List.mem_range.2 hi, ?_⟩
  simp
  omega

theorem small_c (nb cap : Int) (A : Option Addr) (n c : Nat) (f : Nat → Cl) (w : World) (h : Ops w A n f) :
    Calls Try.prog 9 #[.agg #[.int .i64 nb, .int .i64 cap, .slice A n c]] w fun e w' => e = .returned (.bool (smallF n f)) ∧ Mod (fun _ => False) w w' := by
  have H := hid h
  have hn := h.1
  clear h
  by_cases h60 : (150 : Int) < n
  · have e : smallF n f = false := by
      have : ¬ n ≤ 150 := by omega
      simp [smallF, this]
    rw [e]
    clear e
    go_enter Try.func9, Try.ntmps9
    go_wp2_with fail
    go_ret
    exact ⟨rfl, (Mod.refl _ _).alloc _⟩
  · go_enter Try.func9, Try.ntmps9
    go_wp2_with fail
    go_loopw [3] (fun s wr => ∃ k : Nat, k ≤ n ∧ s = .int .i64 k ∧ Hid (∀ j, j < k → (f j).key.size ≤ 100 ∧ (f j).item.size ≤ 100) ∧ wr = w.alloc (.cells #[.int .i64 nb, .int .i64 cap, .slice A n c] 24))
      (fun s _ => n - (intOf s).toNat)
    case atStart => exact ⟨0, by omega, rfl, fun j hj => by omega, rfl⟩
    case round =>
      obtain ⟨k, hk, rfl, hs, rfl⟩ := hrel
      by_cases hlt : k < n
      · obtain ⟨b, off, rfl, hb, c0, c1, c2, c3, hm1, hm2⟩ := H.out.get hlt
        have hs1 : (f k).key.size ≤ 9223372036854775807 := by unfold maxLen at hm1; omega
        have hs2 : (f k).item.size ≤ 9223372036854775807 := by unfold maxLen at hm2; omega
        have hb1 : b < w.heap.size + 1 := by omega
        clear hm1 hm2
        by_cases h1 : (100 : Int) < (f k).key.size
        · go_wp2_with fail
          go_ret
          refine ⟨?_, (Mod.refl _ _).alloc _⟩
          rw [smallF_false k hlt (.inl (by omega))]
          rfl
        · by_cases h2 : (100 : Int) < (f k).item.size
          · go_wp2_with fail
            go_ret
            refine ⟨?_, (Mod.refl _ _).alloc _⟩
            rw [smallF_false k hlt (.inr (by omega))]
            rfl
          · go_wp2_with fail
            go_roundw
            case rel =>
              refine ⟨k + 1, by omega, by go_num, fun j hj => ?_, by first | rfl | trivial⟩
              by_cases e : j = k
              · subst e
                omega
              · exact hs.out j (by omega)
            case measure => simp [intOf]; omega
      · have : k = n := by omega
        subst this
        go_wp2_with fail
        go_ret
        refine ⟨?_, (Mod.refl _ _).alloc _⟩
        have : smallF k f = true := by
          simp only [smallF, Bool.and_eq_true, List.all_eq_true, decide_eq_true_eq]
          exact ⟨by omega, fun i hi => hs.out i (List.mem_range.1 hi)⟩
        rw [this]
        rfl
end Go.Proofs.Ytdipncjbobhbjaa
