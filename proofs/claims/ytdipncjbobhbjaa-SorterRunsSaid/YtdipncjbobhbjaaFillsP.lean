/- SorterFills, the plain law. -/
import Derived.Test.YtdipncjbobhbjaaNews
namespace Go.Proofs.Ytdipncjbobhbjaa
open Go.RowKit
set_option linter.unusedVariables false
set_option linter.unusedSimpArgs false

def anyIt (l : List ByteArray) (it : ByteArray) : Nat → Bool
  | 0 => false
  | m + 1 => anyIt l it m || decide (l.getD m ByteArray.empty = it)
def thereF (bins : List Bin) (it : ByteArray) : Nat → Bool
  | 0 => false
  | i + 1 => thereF bins it i || anyIt (bi bins i) it (bi bins i).length
def roomAt (cap : Int) (bins : List Bin) (key : ByteArray) (i : Nat) : Bool := decide ((bi bins i).length = 0) || (decide (bk bins i = key) && decide (((bi bins i).length : Int) < cap))
def roomF (cap : Int) (bins : List Bin) (key : ByteArray) : Nat → Bool
  | 0 => false
  | i + 1 => roomF cap bins key i || roomAt cap bins key i
/-- The first i bins are emptied. -/
def clr (bins : List Bin) (i : Nat) : List Bin := (List.range bins.length).map fun j => if j < i then (ByteArray.empty, []) else (bk bins j, bi bins j)

theorem clr_len (bins : List Bin) (i : Nat) : (clr bins i).length = bins.length := by simp [clr]
theorem clr_get (bins : List Bin) (i j : Nat) (hj : j < bins.length) : (clr bins i).getD j (ByteArray.empty, []) = if j < i then (ByteArray.empty, []) else (bk bins j, bi bins j) := by
  simp [clr, List.getD_eq_getElem?_getD, List.getElem?_range, hj]
theorem bi_clr (bins : List Bin) (i j : Nat) (hj : j < bins.length) : bi (clr bins i) j = if j < i then [] else bi bins j := by
  rw [bi, clr_get bins i j hj]
  split <;> rfl
theorem bk_clr (bins : List Bin) (i j : Nat) (hj : j < bins.length) : bk (clr bins i) j = if j < i then ByteArray.empty else bk bins j := by
  rw [bk, clr_get bins i j hj]
  split <;> rfl
theorem bins_ext {a b : List Bin} (hl : a.length = b.length) (h : ∀ j, j < a.length → bk a j = bk b j ∧ bi a j = bi b j) : a = b := by
  refine List.ext_getElem hl (fun j h1 h2 => ?_)
  obtain ⟨p, q⟩ := h j h1
  have e1 : a.getD j (ByteArray.empty, []) = a[j] := by simp [List.getD_eq_getElem?_getD, h1]
  have e2 : b.getD j (ByteArray.empty, []) = b[j] := by simp [List.getD_eq_getElem?_getD, h2]
  unfold bk bi at *
  rw [e1, e2] at p q
  exact Prod.ext p q
theorem clr_zero (bins : List Bin) : clr bins 0 = bins := bins_ext (clr_len _ _) (fun j hj => by
  rw [clr_len] at hj
  rw [bk_clr _ _ _ hj, bi_clr _ _ _ hj]
  simp)
theorem clr_set {bins : List Bin} {i : Nat} (hi : i < bins.length) : (clr bins i).set i (ByteArray.empty, []) = clr bins (i + 1) := by
  have hi' : i < (clr bins i).length := by rw [clr_len]; exact hi
  refine bins_ext (by simp [clr_len]) (fun j hj => ?_)
  rw [List.length_set, clr_len] at hj
  rw [bk_set hi', bi_set hi', bk_clr _ _ _ hj, bi_clr _ _ _ hj, bk_clr _ _ _ hj, bi_clr _ _ _ hj]
  by_cases e : j = i
  · subst e
    simp
  · by_cases h : j < i
    · have : j < i + 1 := by omega
      simp [e, h, this]
    · have : ¬ j < i + 1 := by omega
      simp [e, h, this]
/-- A bin that keeps its key though it holds nothing stays as it is. -/
structure Tidy' (bins : List Bin) : Prop where
  key : ∀ i, i < bins.length → (bi bins i).length = 0 → bk bins i = ByteArray.empty
theorem clr_skip {bins : List Bin} {i : Nat} (hi : i < bins.length) (h0 : (bi bins i).length = 0) (ht : Tidy' bins) : clr bins i = clr bins (i + 1) := by
  refine bins_ext (by simp [clr_len]) (fun j hj => ?_)
  rw [clr_len] at hj
  rw [bk_clr _ _ _ hj, bi_clr _ _ _ hj, bk_clr _ _ _ hj, bi_clr _ _ _ hj]
  by_cases e : j = i
  · subst e
    simp [ht.key j hi h0, List.length_eq_zero_iff.1 h0]
  · by_cases h : j < i
    · have : j < i + 1 := by omega
      simp [h, this]
    · have : ¬ j < i + 1 := by omega
      simp [h, this]
theorem tidy_empties (n : Nat) : Tidy' (empties n) := ⟨fun i _ _ => bk_empties n i⟩
theorem putR_tidy {cap : Int} {bins : List Bin} (h : Tidy' bins) (key it : ByteArray) : Tidy' (putR cap bins key it).1 := by
  unfold putR
  split
  · exact h
  · split
    · exact h
    · split
      · exact h
      · have := toOf_lt cap bins key
        refine ⟨fun i hi h0 => ?_⟩
        have hk : (toOf cap bins key).toNat < bins.length := by omega
        simp only [List.length_set] at hi
        rw [bi_set hk] at h0
        rw [bk_set hk]
        split
        · rename_i e
          rw [if_pos e] at h0
          simp at h0
        · rename_i e
          rw [if_neg e] at h0
          exact h.key i hi h0
theorem takeR_tidy {bins : List Bin} (h : Tidy' bins) (n : Int) : Tidy' (takeR bins n).1 := by
  unfold takeR
  split
  · exact h
  · split
    · exact h
    · refine ⟨fun i hi h0 => ?_⟩
      have hk : n.toNat < bins.length := by omega
      simp only [List.length_set] at hi
      rw [bi_set hk] at h0
      rw [bk_set hk]
      split
      · rfl
      · rename_i e
        rw [if_neg e] at h0
        exact h.key i hi h0
/-- Take at place i of bins whose first i are emptied. -/
theorem takeR_clr {bins : List Bin} (ht : Tidy' bins) {i : Nat} (hi : i < bins.length) : takeR (clr bins i) (i : Int) = (clr bins (i + 1), bk bins i, bi bins i, if (bi bins i).length = 0 then 18 else 0) := by
  have h1 : ¬ ((i : Int) < 0 ∨ ((clr bins i).length : Int) ≤ i) := by rw [clr_len]; omega
  rw [takeR, if_neg h1, Int.toNat_natCast, bi_clr _ _ _ hi, bk_clr _ _ _ hi, clr_set hi]
  simp only [Nat.lt_irrefl, if_false]
  split
  · rename_i h0
    rw [clr_skip hi h0 ht, ht.key i hi h0, List.length_eq_zero_iff.1 h0]
  · rfl
theorem clr_fits {cap : Int} {bins : List Bin} (h : Fits cap bins) (i : Nat) : Fits cap (clr bins i) :=
  ⟨by rw [clr_len]; exact h.n1, by rw [clr_len]; exact h.n2, h.c1, h.c2, fun j hj => by
    rw [clr_len] at hj
    rw [bi_clr _ _ _ hj]
    have := h.c1
    split
    · simp; omega
    · exact h.len j hj⟩
theorem tot_clr (bins : List Bin) : ∀ i, i ≤ bins.length → tot (clr bins bins.length) i = 0
  | 0, _ => rfl
  | i + 1, hi => by
    simp only [tot]
    rw [tot_clr bins i (by omega), bi_clr _ _ _ (by omega), if_pos (by omega)]
    rfl
theorem anyIt_of {l : List ByteArray} {it : ByteArray} : ∀ m, m ≤ l.length → (anyIt l it m = true ↔ ∃ j, j < m ∧ l[j]? = some it)
  | 0, _ => by simp [anyIt]
  | m + 1, hm => by
    have hm' : m < l.length := by omega
    rw [anyIt, Bool.or_eq_true, anyIt_of m (by omega)]
    have e : l.getD m ByteArray.empty = l[m] := by simp [List.getD_eq_getElem?_getD, hm']
    rw [e]
    constructor
    · rintro (⟨j, h1, h2⟩ | h)
      · exact ⟨j, by omega, h2⟩
      · exact ⟨m, by omega, by simp at h; rw [List.getElem?_eq_getElem hm', h]⟩
    · rintro ⟨j, h1, h2⟩
      by_cases q : j = m
      · subst q
        right
        rw [List.getElem?_eq_getElem hm'] at h2
        simpa using h2
      · exact .inl ⟨j, by omega, h2⟩
theorem anyIt_mem {l : List ByteArray} {it : ByteArray} : anyIt l it l.length = true ↔ it ∈ l := by
  rw [anyIt_of l.length (Nat.le_refl _)]
  constructor
  · rintro ⟨j, h1, h2⟩
    exact List.mem_of_getElem? h2
  · intro h
    obtain ⟨j, h1, h2⟩ := List.mem_iff_getElem.1 h
    exact ⟨j, h1, by rw [List.getElem?_eq_getElem h1, h2]⟩
theorem thereF_of {bins : List Bin} {it : ByteArray} : ∀ i, (thereF bins it i = true ↔ ∃ j, j < i ∧ it ∈ bi bins j)
  | 0 => by simp [thereF]
  | i + 1 => by
    rw [thereF, Bool.or_eq_true, thereF_of i, anyIt_mem]
    constructor
    · rintro (⟨j, h1, h2⟩ | h)
      · exact ⟨j, by omega, h2⟩
      · exact ⟨i, by omega, h⟩
    · rintro ⟨j, h1, h2⟩
      by_cases q : j = i
      · subst q; exact .inr h2
      · exact .inl ⟨j, by omega, h2⟩
theorem roomF_no {cap : Int} {bins : List Bin} {key : ByteArray} : ∀ i, (∀ j, j < i → roomAt cap bins key j = false) → roomF cap bins key i = false
  | 0, _ => rfl
  | i + 1, h => by rw [roomF, roomF_no i (fun j hj => h j (by omega)), h i (by omega)]; rfl
theorem full_room {cap : Int} {bins : List Bin} {key : ByteArray} (h : toOf cap bins key < 0) : ∀ i, i ≤ bins.length → roomF cap bins key i = false := by
  unfold toOf at h
  rcases first_cases (fitTo cap bins key) bins.length with ⟨h1, h2⟩ | ⟨k, hk, h1, _⟩
  · rw [if_pos (by omega)] at h
    rcases first_cases (vacant bins) bins.length with ⟨h3, h4⟩ | ⟨k, hk, h3, _⟩
    · intro i hi
      refine roomF_no i (fun j hj => ?_)
      have a := h2 j (by omega)
      have b := h4 j (by omega)
      simp [vacant] at b
      have hp : 0 < (bi bins j).length := by
        rcases hx : bi bins j with _ | ⟨x, l⟩
        · exact absurd hx b
        · simp
      simp only [fitTo, hp, decide_true, Bool.true_and] at a
      have hz : ¬ (bi bins j).length = 0 := by omega
      simp only [roomAt, hz, decide_false, Bool.false_or]
      exact a
    · omega
  · rw [if_neg (by omega)] at h
    omega

/-- What Put answers, and what is found in the bins behind it. -/
theorem put_cases {cap : Int} {bins : List Bin} (hf : Fits cap bins) (key it : ByteArray) :
    ((key.size = 0 ∨ it.size = 0) ∧ putR cap bins key it = (bins, 0, 6)) ∨
    (¬ (key.size = 0 ∨ it.size = 0) ∧ ((putR cap bins key it = (bins, 0, 7) ∧ thereF bins it bins.length = true) ∨
      (putR cap bins key it = (bins, 0, 12) ∧ roomF cap bins key bins.length = false) ∨
      ∃ k : Nat, k < bins.length ∧ putR cap bins key it = (bins.set k (key, bi bins k ++ [it]), (k : Int), 0))) := by
  by_cases hn : key.size = 0 ∨ it.size = 0
  · exact .inl ⟨hn, by rw [putR, if_pos hn]⟩
  · refine .inr ⟨hn, ?_⟩
    by_cases hx : hasB bins it = true
    · refine .inl ⟨by rw [putR, if_neg hn, if_pos hx], ?_⟩
      obtain ⟨i, h1, h2⟩ := hasB_iff.1 hx
      exact (thereF_of _).2 ⟨i, h1, h2⟩
    · by_cases ht : toOf cap bins key < 0
      · exact .inr (.inl ⟨by rw [putR, if_neg hn, if_neg hx, if_pos ht], full_room ht _ (Nat.le_refl _)⟩)
      · refine .inr (.inr ⟨(toOf cap bins key).toNat, ?_, ?_⟩)
        · have := toOf_lt cap bins key; omega
        · rw [putR, if_neg hn, if_neg hx, if_neg ht]
          have : ((toOf cap bins key).toNat : Int) = toOf cap bins key := by omega
          rw [this]
theorem there_set {bins : List Bin} {k : Nat} (hk : k < bins.length) (key it : ByteArray) : thereF (bins.set k (key, bi bins k ++ [it])) it bins.length = true :=
  (thereF_of _).2 ⟨k, hk, by rw [bi_set hk]; simp⟩
theorem tot_set {bins : List Bin} {k : Nat} (hk : k < bins.length) (key it : ByteArray) : ∀ i, tot (bins.set k (key, bi bins k ++ [it])) i = tot bins i + if k < i then 1 else 0
  | 0 => by simp [tot]
  | i + 1 => by
    simp only [tot]
    rw [tot_set hk key it i, bi_set hk]
    by_cases e : i = k
    · subst e
      simp
      omega
    · by_cases h : k < i
      · have : k < i + 1 := by omega
        simp [e, h, this]
        omega
      · have : ¬ k < i + 1 := by omega
        simp [e, h, this]
end Go.Proofs.Ytdipncjbobhbjaa
