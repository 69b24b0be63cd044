/- Put and Take at any arguments, as functions of the bins. -/
import Derived.Test.YtdipncjbobhbjaaNew
namespace Go.Proofs.Ytdipncjbobhbjaa
open Go.RowKit Go.Maps
set_option linter.unusedVariables false
set_option linter.unusedSimpArgs false

def hasB (bins : List Bin) (it : ByteArray) : Bool := (List.range bins.length).any fun i => (bi bins i).any fun x => decide (x = it)
theorem hasB_iff {bins : List Bin} {it : ByteArray} : hasB bins it = true ↔ hasIt bins it := by
  unfold hasB hasIt
  simp
theorem size0 {k : ByteArray} : k.toList = [] ↔ k.size = 0 := by
  rw [ByteArray.toList_eq]
  obtain ⟨⟨l⟩⟩ := k
  cases l <;> simp [ByteArray.size]

def putR (cap : Int) (bins : List Bin) (key it : ByteArray) : List Bin × Int × Int :=
  if key.size = 0 ∨ it.size = 0 then (bins, 0, 6)
  else if hasB bins it = true then (bins, 0, 7)
  else if toOf cap bins key < 0 then (bins, 0, 12)
  else (bins.set (toOf cap bins key).toNat (key, bi bins (toOf cap bins key).toNat ++ [it]), toOf cap bins key, 0)
def takeR (bins : List Bin) (n : Int) : List Bin × ByteArray × List ByteArray × Int :=
  if n < 0 ∨ (bins.length : Int) ≤ n then (bins, ByteArray.empty, [], 9)
  else if (bi bins n.toNat).length = 0 then (bins, ByteArray.empty, [], 18)
  else (bins.set n.toNat (ByteArray.empty, []), bk bins n.toNat, bi bins n.toNat, 0)

theorem toOf_lt (cap : Int) (bins : List Bin) (key : ByteArray) : toOf cap bins key < (bins.length : Int) := by
  unfold toOf
  split
  · exact (first_bound _ _).2.1
  · exact (first_bound _ _).2.1
theorem toOf_room {cap : Int} {bins : List Bin} {key : ByteArray} (hc : 1 ≤ cap) (h : ¬ toOf cap bins key < 0) : (((bi bins (toOf cap bins key).toNat).length : Int) < cap) ∧ ((bi bins (toOf cap bins key).toNat).length = 0 ∨ bk bins (toOf cap bins key).toNat = key) := by
  unfold toOf at h ⊢
  split
  · rename_i h0
    rw [if_pos h0] at h
    rcases first_cases (vacant bins) bins.length with ⟨h1, _⟩ | ⟨k, hk, h1, h2, _⟩
    · omega
    · rw [h1]
      simp [vacant] at h2
      simp [h2]
      omega
  · rename_i h0
    rcases first_cases (fitTo cap bins key) bins.length with ⟨h1, _⟩ | ⟨k, hk, h1, h2, _⟩
    · omega
    · rw [h1]
      simp [fitTo] at h2
      exact ⟨by simpa using h2.2.2, .inr (by simpa using h2.2.1)⟩
theorem putR_len (cap : Int) (bins : List Bin) (key it : ByteArray) : (putR cap bins key it).1.length = bins.length := by
  unfold putR
  split
  · rfl
  · split
    · rfl
    · split
      · rfl
      · simp
theorem takeR_len (bins : List Bin) (n : Int) : (takeR bins n).1.length = bins.length := by
  unfold takeR
  split
  · rfl
  · split
    · rfl
    · simp
theorem putR_fits {cap : Int} {bins : List Bin} (h : Fits cap bins) (key it : ByteArray) : Fits cap (putR cap bins key it).1 := by
  unfold putR
  split
  · exact h
  · split
    · exact h
    · split
      · exact h
      · rename_i h1
        have := (toOf_room h.c1 h1).1
        have := toOf_lt cap bins key
        refine h.set (by omega) ?_
        simp
        omega
theorem takeR_fits {cap : Int} {bins : List Bin} (h : Fits cap bins) (n : Int) : Fits cap (takeR bins n).1 := by
  unfold takeR
  split
  · exact h
  · split
    · exact h
    · have := h.c1
      exact h.set (by omega) (by simp; omega)

theorem put_any {B : Nat} {s : Nat} {cap : Int} {bins : List Bin} (key it : ByteArray) (w : World) (h : SorterAt B w s cap bins) (hf : Fits cap bins) (hB : B ≤ w.heap.size) (hit : it.size ≤ maxLen) :
    Calls Try.prog 12 #[.pointer (some ⟨s, 0, none⟩), .string key, .string it] w fun e w' => e = .returned (.tuple #[.int .i64 (putR cap bins key it).2.1, .int .i64 (putR cap bins key it).2.2]) ∧ SorterAt B w' s cap (putR cap bins key it).1 ∧ MT B w w' := by
  by_cases hn : key.size = 0 ∨ it.size = 0
  · have e : putR cap bins key it = (bins, 0, 6) := by rw [putR, if_pos hn]
    rw [e]
    refine (put_name key it w h ?_).mono ?_
    · by_cases hk : key.size = 0
      · exact .inl (size0.2 hk)
      · exact .inr ⟨fun q => hk (size0.1 q), size0.2 (hn.resolve_left hk)⟩
    · rintro e w' ⟨rfl, rfl⟩
      exact ⟨rfl, h, MT.refl _ _⟩
  · have hk : key.toList ≠ [] := fun q => hn (.inl (size0.1 q))
    have hi : it.toList ≠ [] := fun q => hn (.inr (size0.1 q))
    obtain ⟨R, c, vs, ms, hs⟩ := h
    have h : SorterAt B w s cap bins := ⟨R, c, vs, ms, hs⟩
    refine (put_c key it w hs hf hB hk hi hit).mono ?_
    intro e w' hp
    by_cases hx : hasB bins it = true
    · have e' : putR cap bins key it = (bins, 0, 7) := by rw [putR, if_neg hn, if_pos hx]
      rw [e']
      obtain ⟨h1, h2⟩ := hp.exists_ (hasB_iff.1 hx)
      exact ⟨h1, h.mod0 h2, MT.of0 h2⟩
    · have hx' : ¬ hasIt bins it := fun q => hx (hasB_iff.2 q)
      by_cases ht : toOf cap bins key < 0
      · have e' : putR cap bins key it = (bins, 0, 12) := by rw [putR, if_neg hn, if_neg hx, if_pos ht]
        rw [e']
        obtain ⟨h1, h2⟩ := hp.full hx' ht
        exact ⟨h1, h.mod0 h2, MT.of0 h2⟩
      · have e' : putR cap bins key it = (bins.set (toOf cap bins key).toNat (key, bi bins (toOf cap bins key).toNat ++ [it]), toOf cap bins key, 0) := by rw [putR, if_neg hn, if_neg hx, if_neg ht]
        rw [e']
        have q : toOf cap bins key = ((toOf cap bins key).toNat : Int) := by omega
        obtain ⟨h1, h2, h3, _⟩ := hp.ok hx' _ q
        exact ⟨by rw [h1, ← q], h2, h3⟩
theorem take_any {B : Nat} {s : Nat} {cap : Int} {bins : List Bin} (n : Int) (w : World) (h : SorterAt B w s cap bins) (hf : Fits cap bins) :
    Calls Try.prog 13 #[.pointer (some ⟨s, 0, none⟩), .int .i64 n] w fun e w' => ∃ A c, e = .returned (.tuple #[.string (takeR bins n).2.1, .slice A (takeR bins n).2.2.1.length c, .int .i64 (takeR bins n).2.2.2]) ∧
      w'.ownsRow B 9 1 (.slice A (takeR bins n).2.2.1.length c) (takeR bins n).2.2.1.length ((takeR bins n).2.2.1.map .string) ∧ SorterAt B w' s cap (takeR bins n).1 ∧ MT B w w' := by
  by_cases hn : n < 0 ∨ (bins.length : Int) ≤ n
  · have e : takeR bins n = (bins, ByteArray.empty, [], 9) := by rw [takeR, if_pos hn]
    rw [e]
    refine (take_range n w h (by omega)).mono ?_
    rintro e w' ⟨rfl, rfl⟩
    exact ⟨none, 0, rfl, World.ownsRow_nil _ _ _ _, h, MT.refl _ _⟩
  · obtain ⟨k, rfl⟩ := Int.eq_ofNat_of_zero_le (show 0 ≤ n by omega)
    have hk : k < bins.length := by omega
    by_cases he : (bi bins k).length = 0
    · have e : takeR bins (k : Int) = (bins, ByteArray.empty, [], 18) := by rw [takeR, if_neg hn, Int.toNat_natCast, if_pos he]
      rw [e]
      refine (take_empty k w h hk (List.length_eq_zero_iff.1 he)).mono ?_
      rintro e w' ⟨rfl, rfl⟩
      exact ⟨none, 0, rfl, World.ownsRow_nil _ _ _ _, h, MT.refl _ _⟩
    · have e : takeR bins (k : Int) = (bins.set k (ByteArray.empty, []), bk bins k, bi bins k, 0) := by rw [takeR, if_neg hn, Int.toNat_natCast, if_neg he]
      rw [e]
      refine (take_ok k w h hf hk (fun q => he (by rw [q]; rfl))).mono ?_
      rintro e w' ⟨A, c, rfl, h1, ⟨R, c', vs, ms, h2, _⟩, h3⟩
      exact ⟨A, c, rfl, h1, ⟨R, c', vs, ms, h2⟩, h3⟩
end Go.Proofs.Ytdipncjbobhbjaa
