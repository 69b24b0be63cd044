/- The sorter's plain law: what the methods compute on lists of bins. -/
import Derived.Test.YtdipncjbobhbjaaKit
namespace Go.Proofs.Ytdipncjbobhbjaa
open Go.RowKit
set_option linter.unusedVariables false
set_option linter.unusedSimpArgs false

abbrev Bin := ByteArray × List ByteArray
def bk (bins : List Bin) (i : Nat) : ByteArray := (bins.getD i (ByteArray.empty, [])).1
def bi (bins : List Bin) (i : Nat) : List ByteArray := (bins.getD i (ByteArray.empty, [])).2

theorem bk_set {bins : List Bin} {i j : Nat} {b : Bin} (hi : i < bins.length) : bk (bins.set i b) j = if j = i then b.1 else bk bins j := by
  unfold bk
  by_cases h : j = i
  · subst h; simp [List.getD_eq_getElem?_getD, hi]
  · simp [List.getD_eq_getElem?_getD, List.getElem?_set, Ne.symm h, h]
theorem bi_set {bins : List Bin} {i j : Nat} {b : Bin} (hi : i < bins.length) : bi (bins.set i b) j = if j = i then b.2 else bi bins j := by
  unfold bi
  by_cases h : j = i
  · subst h; simp [List.getD_eq_getElem?_getD, hi]
  · simp [List.getD_eq_getElem?_getD, List.getElem?_set, Ne.symm h, h]

/-- The first place at which p holds among the first n, or -1. -/
def first (p : Nat → Bool) : Nat → Int
  | 0 => -1
  | i + 1 => if first p i < 0 ∧ p i = true then (i : Int) else first p i
theorem first_cases (p : Nat → Bool) : ∀ n, (first p n = -1 ∧ ∀ j, j < n → p j = false) ∨ ∃ k : Nat, k < n ∧ first p n = k ∧ p k = true ∧ ∀ j, j < k → p j = false
  | 0 => .inl ⟨rfl, fun j hj => by omega⟩
  | n + 1 => by
    rcases first_cases p n with ⟨h1, h2⟩ | ⟨k, hk, h1, h2, h3⟩
    · by_cases hp : p n = true
      · exact .inr ⟨n, by omega, by simp [first, h1, hp], hp, h2⟩
      · refine .inl ⟨by simp [first, h1, hp], fun j hj => ?_⟩
        by_cases e : j = n
        · subst e; simpa using hp
        · exact h2 j (by omega)
    · exact .inr ⟨k, by omega, by simp [first, h1]; omega, h2, h3⟩

def tot (bins : List Bin) : Nat → Nat
  | 0 => 0
  | i + 1 => tot bins i + (bi bins i).length
def fitTo (cap : Int) (bins : List Bin) (key : ByteArray) (i : Nat) : Bool := decide (0 < (bi bins i).length) && (decide (bk bins i = key) && decide (((bi bins i).length : Int) < cap))
def vacant (bins : List Bin) (i : Nat) : Bool := decide ((bi bins i).length = 0)
def isFull (cap : Int) (bins : List Bin) (i : Nat) : Bool := decide (((bi bins i).length : Int) = cap)
def toOf (cap : Int) (bins : List Bin) (key : ByteArray) : Int := if first (fitTo cap bins key) bins.length < 0 then first (vacant bins) bins.length else first (fitTo cap bins key) bins.length
def fullI (cap : Int) (bins : List Bin) : Int := if first (isFull cap bins) bins.length < 0 then 0 else first (isFull cap bins) bins.length
def fullB (cap : Int) (bins : List Bin) : Bool := decide (0 ≤ first (isFull cap bins) bins.length)
theorem full_no {cap : Int} {bins : List Bin} (h : ∀ j, j < bins.length → isFull cap bins j = false) : fullI cap bins = 0 ∧ fullB cap bins = false := by
  rcases first_cases (isFull cap bins) bins.length with ⟨h1, h2⟩ | ⟨k, hk, h1, h2, h3⟩
  · simp [fullI, fullB, h1]
  · rw [h k hk] at h2; cases h2
theorem full_yes {cap : Int} {bins : List Bin} {i : Nat} (hi : i < bins.length) (hp : isFull cap bins i = true) (h : ∀ j, j < i → isFull cap bins j = false) : fullI cap bins = i ∧ fullB cap bins = true := by
  rcases first_cases (isFull cap bins) bins.length with ⟨h1, h2⟩ | ⟨k, hk, h1, h2, h3⟩
  · rw [h2 i hi] at hp; cases hp
  · obtain rfl : k = i := by
      rcases Nat.lt_trichotomy k i with q | q | q
      · rw [h k q] at h2; cases h2
      · exact q
      · rw [h3 i q] at hp; cases hp
    have : ¬ ((k : Int) < 0) := by omega
    simp [fullI, fullB, h1, this]
def hasIt (bins : List Bin) (it : ByteArray) : Prop := ∃ i, i < bins.length ∧ it ∈ bi bins i
/-- The fullest of the first n: its place and its number. -/
def big (bins : List Bin) : Nat → Nat × Nat
  | 0 => (0, 0)
  | i + 1 => if (big bins i).2 < (bi bins i).length then (i, (bi bins i).length) else big bins i

/-- The bounds that all sorters keep. -/
structure Fits (cap : Int) (bins : List Bin) : Prop where
  n1 : 1 ≤ bins.length
  n2 : bins.length ≤ 16
  c1 : 1 ≤ cap
  c2 : cap ≤ 32
  len : ∀ i, i < bins.length → ((bi bins i).length : Int) ≤ cap
theorem Fits.len32 {cap : Int} {bins : List Bin} (h : Fits cap bins) : ∀ i, i < bins.length → (bi bins i).length ≤ 32 := fun i hi => by have := h.len i hi; have := h.c2; omega
theorem Fits.tot {cap : Int} {bins : List Bin} (h : Fits cap bins) : ∀ i, i ≤ bins.length → tot bins i ≤ i * 32
  | 0, _ => by simp [Ytdipncjbobhbjaa.tot]
  | i + 1, hi => by
    have := h.tot i (by omega)
    have := h.len32 i (by omega)
    simp only [Ytdipncjbobhbjaa.tot]
    omega
theorem Fits.big {cap : Int} {bins : List Bin} (h : Fits cap bins) : ∀ i, i ≤ bins.length → (big bins i).1 ≤ 16 ∧ (big bins i).2 ≤ 32
  | 0, _ => by simp [Ytdipncjbobhbjaa.big]
  | i + 1, hi => by
    have h1 := h.big i (by omega)
    have h2 := h.len32 i (by omega)
    have := h.n2
    simp only [Ytdipncjbobhbjaa.big]
    split
    · exact ⟨by show i ≤ 16; omega, h2⟩
    · exact h1
theorem Fits.set {cap : Int} {bins : List Bin} (h : Fits cap bins) {i : Nat} (hi : i < bins.length) {b : Bin} (hb : (b.2.length : Int) ≤ cap) : Fits cap (bins.set i b) :=
  ⟨by simpa using h.n1, by simpa using h.n2, h.c1, h.c2, fun j hj => by
    rw [bi_set hi]
    split
    · exact hb
    · exact h.len j (by simpa using hj)⟩
end Go.Proofs.Ytdipncjbobhbjaa
