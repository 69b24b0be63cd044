/- Put and Take as functions, in one contract each; calls that came in; short. -/
import Derived.Test.YtknijmhhlfooaaaPlain
import Derived.Test.YtknijmhhlfooaaaOpen
namespace Go.Proofs.Ytknijmhhlfooaaa
open Go.RowKit
set_option linter.unusedVariables false
set_option linter.unusedSimpArgs false

theorem YardAt.grow {F : Nat → Prop} {w w' : World} {y : Nat} {cap puts : Int} {bays : List (List Pc)} (h : YardAt F w y cap puts bays) (m : Mod (fun _ => False) w w') : YardAt (fun k => F k ∨ w.heap.size ≤ k) w' y cap puts bays := by
  obtain ⟨b, c, ps, vs, h⟩ := h
  exact ⟨b, c, ps, vs, (h.mod0 m).mono (fun k _ hk => .inl hk)⟩

theorem put_any {F : Nat → Prop} {y : Nat} {cap puts : Int} {bays : List (List Pc)} (b : Int) (it : ByteArray) (w : World) (h : YardAt F w y cap puts bays) (hf : Fits cap puts bays) (hp : puts ≤ 1000000) :
    Calls Try.prog 12 #[.pointer (some ⟨y, 0, none⟩), .int .i64 b, .string it] w fun e w' => e = .returned (.int .i64 (putF cap puts bays b it).1) ∧
      YardAt (fun k => F k ∨ w.heap.size ≤ k) w' y cap (putF cap puts bays b it).2.1 (putF cap puts bays b it).2.2 ∧ MT F w w' := by
  unfold putF
  split
  · rename_i hb
    refine (put_range b it w h hf (by omega)).mono ?_
    rintro e w' ⟨rfl, rfl⟩
    exact ⟨rfl, h.grow (Mod.refl _ _), MT.refl _ _⟩
  · rename_i hb
    obtain ⟨a, rfl⟩ : ∃ a : Nat, b = a := ⟨b.toNat, by omega⟩
    have ha : a < bays.length := by omega
    simp only [Int.toNat_natCast]
    split
    · rename_i hi
      refine (put_name a it w h hf ha hi).mono ?_
      rintro e w' ⟨rfl, rfl⟩
      exact ⟨rfl, h.grow (Mod.refl _ _), MT.refl _ _⟩
    · rename_i hi
      split
      · rename_i hx
        refine (put_exists a it w h hf ha hi hx).mono ?_
        rintro e w' ⟨rfl, m⟩
        exact ⟨rfl, h.grow m, MT.of0 m⟩
      · rename_i hx
        have hx' : (find bays it).2.2 = false := by simpa using hx
        split
        · rename_i hc
          refine (put_full a it w h hf ha hi hx' hc).mono ?_
          rintro e w' ⟨rfl, m⟩
          exact ⟨rfl, h.grow m, MT.of0 m⟩
        · rename_i hc
          exact put_ok a it w h hf ha hi hx' (by omega) hp

theorem take_any {F : Nat → Prop} {y : Nat} {cap puts : Int} {bays : List (List Pc)} (it : ByteArray) (w : World) (h : YardAt F w y cap puts bays) (hf : Fits cap puts bays) :
    Calls Try.prog 14 #[.pointer (some ⟨y, 0, none⟩), .string it] w fun e w' => e = .returned (.tuple #[.int .i64 (takeF cap bays it).1, .int .i64 (takeF cap bays it).2.1]) ∧
      YardAt (fun k => F k ∨ w.heap.size ≤ k) w' y cap puts (takeF cap bays it).2.2 ∧ MT F w w' := by
  rcases find_cases it bays 0 with ⟨h1, _⟩ | ⟨i, k, hi, hk, he, _⟩
  · have hx : (find bays it).2.2 = false := by rw [show find bays it = _ from h1]
    unfold takeF
    rw [if_pos hx]
    refine (take_none it w h hf hx).mono ?_
    rintro e w' ⟨rfl, m⟩
    exact ⟨rfl, h.grow m, MT.of0 m⟩
  · have hx : find bays it = ((i : Int), (((bays.getD i []).length - 1 - k : Nat) : Int), true) := by
      rw [show find bays it = _ from he]
      have e : ((bays.getD i []).length : Int) - 1 - k = (((bays.getD i []).length - 1 - k : Nat) : Int) := by omega
      rw [e, Nat.zero_add]
    unfold takeF
    rw [hx]
    simp only [Int.toNat_natCast]
    rw [if_neg (by simp)]
    refine (take_go it i ((bays.getD i []).length - 1 - k) w h hf hx hi (by omega)).mono ?_
    rintro e w' (⟨h1, rfl, m⟩ | ⟨h1, rfl, hY, m⟩)
    · rw [if_pos h1]
      exact ⟨rfl, h.grow m, MT.of0 m⟩
    · rw [if_neg (by omega)]
      exact ⟨rfl, hY, m⟩

/-- A slice of n calls reads as kd, by, it. -/
def Ops (w : World) (A : Option Addr) (n : Nat) (kd bay : Nat → Int) (it : Nat → ByteArray) : Prop :=
  n ≤ 9223372036854775807 ∧ (0 < n → ∃ b off, A = some ⟨b, off, none⟩ ∧ b < w.heap.size ∧ ∀ i, i < n → w.cell? ⟨b, off + i * 3, none⟩ = some (.int .i64 (kd i)) ∧ w.cell? ⟨b, off + i * 3 + 1, none⟩ = some (.int .i64 (bay i)) ∧ w.cell? ⟨b, off + i * 3 + 2, none⟩ = some (.string (it i)) ∧ (it i).size ≤ 9223372036854775807)

theorem Ops.mod {w w' : World} {A : Option Addr} {n : Nat} {kd bay : Nat → Int} {it : Nat → ByteArray} (h : Ops w A n kd bay it) (m : Below w.heap.size w w') : Ops w' A n kd bay it := by
  refine ⟨h.1, fun hn => ?_⟩
  obtain ⟨b, off, e, hb, hc⟩ := h.2 hn
  exact ⟨b, off, e, Nat.lt_of_lt_of_le hb m.size, fun i hi => ⟨(m.cell hb).trans (hc i hi).1, (m.cell hb).trans (hc i hi).2.1, (m.cell hb).trans (hc i hi).2.2.1, (hc i hi).2.2.2⟩⟩

theorem open_ops {H : Type} {enc : TypeId × Value → H} {w : World} {base : Nat} {spare : Nat → Bool} {held : Bool} {A : Option Addr} {n c : Nat} {d : DataW H} {p : List MemPlace}
    (h : DataW.Trod enc Try.prog w base spare held 24 (.slice A n c) d p) : ∃ (kd bay : Nat → Int) (it : Nat → ByteArray), Ops w A n kd bay it := by
  obtain ⟨fuel, hf⟩ := h
  rcases open_rows (fs := _) Try.underlying24 Try.underlying34 (by kernel_rfl) (by kernel_rfl) hf with h0 | ⟨a, len, cap, hcs, hl, hm, hc⟩
  · simp [Value.cells] at h0
    obtain ⟨rfl, rfl, rfl⟩ := h0
    exact ⟨fun _ => 0, fun _ => 0, fun _ => .empty, by omega, fun h => absurd h (by omega)⟩
  · simp [Value.cells] at hcs
    obtain ⟨rfl, rfl, rfl⟩ := hcs
    have hm' : n ≤ 9223372036854775807 := by unfold maxLen at hm; omega
    obtain ⟨kd, hkd⟩ := pick (fun i hi => cell_int (k := .i64) Try.underlying3 (hc i hi 0 _ rfl))
    obtain ⟨bay, hbay⟩ := pick (fun i hi => cell_int (k := .i64) Try.underlying3 (hc i hi 1 _ rfl))
    obtain ⟨it, hit⟩ := pick (fun i hi => cell_str Try.underlying9 (hc i hi 2 _ rfl))
    refine ⟨kd, bay, it, hm', fun hn => ?_⟩
    have h0 := (hkd 0 hn).1
    have e0 : a.add (0 * 3 + 0) = a := by simp [Addr.add]
    rw [show (#[_, _, _] : Array Field).size = 3 from rfl, e0] at h0
    obtain ⟨b, off, rfl⟩ := addr_plain h0
    have ea : ∀ j, (⟨b, off, none⟩ : Addr).add j = ⟨b, off + j, none⟩ := by
      intro j
      unfold Addr.add
      split <;> simp_all
    refine ⟨b, off, rfl, World.block_lt_of_cell? w _ h0, fun i hi => ⟨?_, ?_, ?_, ?_⟩⟩
    · have := (hkd i hi).1
      rw [ea] at this
      exact this
    · have := (hbay i hi).1
      rw [ea] at this
      exact this
    · have := (hit i hi).1
      rw [ea] at this
      exact this
    · have := (hit i hi).2
      unfold maxLen at this
      omega

/-- At most 60 calls with items of at most 20 bytes. -/
def shortF (n : Nat) (it : Nat → ByteArray) : Bool := decide (n ≤ 60) && (List.range n).all fun i => decide ((it i).size ≤ 20)
theorem short_c (A : Option Addr) (n c : Nat) (kd bay : Nat → Int) (it : Nat → ByteArray) (w : World) (h : Ops w A n kd bay it) :
    Calls Try.prog 9 #[.slice A n c] w fun e w' => e = .returned (.bool (shortF n it)) ∧ w = w' := by
  obtain ⟨hn, hc⟩ := h
  by_cases h60 : (60 : Int) < n
  · have e : shortF n it = false := by
      have : ¬ n ≤ 60 := by omega
      simp [shortF, this]
    rw [e]
    clear e
    go_enter Try.func9, Try.ntmps9
    go_wp2_with fail
    go_ret
    exact ⟨rfl, rfl⟩
  · go_enter Try.func9, Try.ntmps9
    go_wp2_with fail
    go_loopw [3] (fun s wr => ∃ k : Nat, k ≤ n ∧ s = .int .i64 k ∧ Hid (∀ j, j < k → (it j).size ≤ 20) ∧ w = wr)
      (fun s _ => n - (intOf s).toNat)
    case atStart => exact ⟨0, by omega, rfl, fun j hj => by omega, rfl⟩
    case round =>
      obtain ⟨k, hk, rfl, hs, rfl⟩ := hrel
      by_cases hlt : k < n
      · obtain ⟨b, off, rfl, hb, hcc⟩ := hc (by omega)
        obtain ⟨c0, c1, c2, c3⟩ := hcc k hlt
        by_cases h20 : (20 : Int) < (it k).size
        · go_wp2_with fail
          go_ret
          refine ⟨?_, rfl⟩
          have : shortF n it = false := by
            simp only [shortF, Bool.and_eq_false_iff, List.all_eq_false]
            refine .inr ⟨k, List.mem_range.2 hlt, ?_⟩
            simp
            omega
          rw [this]
          rfl
        · go_wp2_with fail
          go_roundw
          case rel =>
            refine ⟨k + 1, by omega, by go_num, fun j hj => ?_, by first | rfl | trivial⟩
            by_cases e : j = k
            · subst e
              omega
            · exact hs.out j (by omega)
          case measure => simp [intOf]; omega
      · have : k = n := by omega
        subst this
        go_wp2_with fail
        go_ret
        refine ⟨?_, rfl⟩
        have : shortF k it = true := by
          simp only [shortF, Bool.and_eq_true, List.all_eq_true, decide_eq_true_eq]
          exact ⟨by omega, fun i hi => hs.out i (List.mem_range.1 hi)⟩
        rw [this]
        rfl
theorem shortF_true {n : Nat} {it : Nat → ByteArray} (h : shortF n it = true) : n ≤ 60 ∧ ∀ i, i < n → (it i).size ≤ 20 := by
  simp only [shortF, Bool.and_eq_true, List.all_eq_true, decide_eq_true_eq] at h
  exact ⟨h.1, fun i hi => h.2 i (List.mem_range.2 hi)⟩
end Go.Proofs.Ytknijmhhlfooaaa
