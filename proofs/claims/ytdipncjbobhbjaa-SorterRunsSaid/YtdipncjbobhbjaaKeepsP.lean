/- SorterKeeps, the plain law. -/
import Derived.Test.YtdipncjbobhbjaaMost
namespace Go.Proofs.Ytdipncjbobhbjaa
open Go.RowKit
set_option linter.unusedVariables false
set_option linter.unusedSimpArgs false

/-- An item that was put, its key and its bin. -/
structure Pt where
  key : ByteArray
  item : ByteArray
  bin : Int

def isIn (b : Int) (x : Pt) : Bool := decide (x.bin = b)
def notIn (b : Int) (x : Pt) : Bool := !isIn b x

structure Inv (bins : List Bin) (ins : List Pt) : Prop where
  items : ∀ b : Nat, b < bins.length → (ins.filter (isIn (b : Int))).map Pt.item = bi bins b
  keys : ∀ x ∈ ins, ∃ b : Nat, b < bins.length ∧ x.bin = (b : Int) ∧ x.key = bk bins b
  tot : tot bins bins.length = ins.length

theorem Inv.empties (n : Nat) : Inv (empties n) [] := ⟨fun b _ => by rw [bi_empties]; rfl, fun x hx => by simp at hx, tot_empties n _⟩

theorem Inv.put {cap : Int} {bins : List Bin} {ins : List Pt} (h : Inv bins ins) (hf : Fits cap bins) (key it : ByteArray) :
    ((putR cap bins key it).2.2 = 0 ∧ Inv (putR cap bins key it).1 (ins ++ [⟨key, it, (putR cap bins key it).2.1⟩])) ∨ ((putR cap bins key it).2.2 ≠ 0 ∧ (putR cap bins key it).1 = bins) := by
  by_cases hn : key.size = 0 ∨ it.size = 0
  · rw [putR, if_pos hn]; exact .inr ⟨by simp, rfl⟩
  · by_cases hx : hasB bins it = true
    · rw [putR, if_neg hn, if_pos hx]; exact .inr ⟨by simp, rfl⟩
    · by_cases ht : toOf cap bins key < 0
      · rw [putR, if_neg hn, if_neg hx, if_pos ht]; exact .inr ⟨by simp, rfl⟩
      · rw [putR, if_neg hn, if_neg hx, if_neg ht]
        refine .inl ⟨rfl, ?_⟩
        obtain ⟨hr1, hr2⟩ := toOf_room hf.c1 ht
        have hlt := toOf_lt cap bins key
        obtain ⟨k, hk⟩ := Int.eq_ofNat_of_zero_le (show 0 ≤ toOf cap bins key by omega)
        rw [hk] at hr1 hr2 hlt ⊢
        simp only [Int.toNat_natCast] at hr1 hr2 ⊢
        have hkl : k < bins.length := by omega
        refine ⟨fun b hb => ?_, fun x hx => ?_, ?_⟩
        · rw [List.length_set] at hb
          rw [List.filter_append, List.map_append, h.items b hb, bi_set hkl]
          by_cases e : b = k
          · subst e
            simp [isIn]
          · have e' : ¬ (k : Int) = (b : Int) := by omega
            simp [isIn, e, e']
        · simp only [List.mem_append, List.mem_singleton] at hx
          simp only [List.length_set]
          rcases hx with hx | rfl
          · obtain ⟨b, b1, b2, b3⟩ := h.keys x hx
            refine ⟨b, b1, b2, ?_⟩
            rw [bk_set hkl]
            split
            · rename_i e
              subst e
              have hmem : x.item ∈ bi bins b := by
                rw [← h.items b b1]
                exact List.mem_map.2 ⟨x, List.mem_filter.2 ⟨hx, by simp [isIn, b2]⟩, rfl⟩
              rcases hr2 with q | q
              · rw [List.length_eq_zero_iff.1 q] at hmem
                simp at hmem
              · rw [b3, q]
            · exact b3
          · exact ⟨k, hkl, rfl, by rw [bk_set hkl, if_pos rfl]⟩
        · simp only [List.length_set, List.length_append, List.length_singleton]
          rw [tot_set hkl, if_pos hkl, h.tot]

/-- What Take answers, against what was put. -/
structure TakeIs (bins : List Bin) (ins : List Pt) (b : Int) (bins' : List Bin) (kk : ByteArray) (l : List ByteArray) (er : Int) : Prop where
  items : l = (ins.filter (isIn b)).map Pt.item
  keys : ∀ x ∈ ins, x.bin = b → x.key = kk ∧ er = 0
  inv : Inv bins' (ins.filter (notIn b))
  clear : ∀ j : Nat, bi bins j = [] → bi bins' j = []
  done : ∀ j : Nat, b = (j : Int) → j < bins.length → bi bins' j = []

theorem filter_none {ins : List Pt} {b : Int} (h : (ins.filter (isIn b)).map Pt.item = []) : ∀ x ∈ ins, x.bin ≠ b := fun x hx e => by
  have : x ∈ ins.filter (isIn b) := List.mem_filter.2 ⟨hx, by simp [isIn, e]⟩
  have h' := List.map_eq_nil_iff.1 h
  rw [h'] at this
  simp at this
theorem filter_all {ins : List Pt} {b : Int} (h : ∀ x ∈ ins, x.bin ≠ b) : ins.filter (notIn b) = ins := by
  rw [List.filter_eq_self]
  intro x hx
  simp [notIn, isIn, h x hx]
theorem filter_nil' {ins : List Pt} {b : Int} (h : ∀ x ∈ ins, x.bin ≠ b) : ins.filter (isIn b) = [] := by
  rw [List.filter_eq_nil_iff]
  intro x hx
  simp [isIn, h x hx]
theorem filter_both (ins : List Pt) (b : Int) : (ins.filter (isIn b)).length + (ins.filter (notIn b)).length = ins.length := by
  induction ins with
  | nil => rfl
  | cons x r ih =>
    by_cases e : x.bin = b
    · simp [isIn, notIn, e] at ih ⊢
      omega
    · simp [isIn, notIn, e] at ih ⊢
      omega

theorem Inv.take {bins : List Bin} {ins : List Pt} (h : Inv bins ins) (b : Int) : TakeIs bins ins b (takeR bins b).1 (takeR bins b).2.1 (takeR bins b).2.2.1 (takeR bins b).2.2.2 := by
  have nothing : (∀ x ∈ ins, x.bin ≠ b) → (∀ j : Nat, b = (j : Int) → j < bins.length → bi bins j = []) → ∀ er, TakeIs bins ins b bins ByteArray.empty [] er := fun hno hd er =>
    ⟨by rw [filter_nil' hno]; rfl, fun x hx e => absurd e (hno x hx), by rw [filter_all hno]; exact h, fun j hj => hj, hd⟩
  by_cases hn : b < 0 ∨ (bins.length : Int) ≤ b
  · rw [takeR, if_pos hn]
    refine nothing (fun x hx e => ?_) (fun j e hj => by omega) _
    obtain ⟨k, k1, k2, _⟩ := h.keys x hx
    omega
  · obtain ⟨k, rfl⟩ := Int.eq_ofNat_of_zero_le (show 0 ≤ b by omega)
    have hk : k < bins.length := by omega
    by_cases h0 : (bi bins k).length = 0
    · rw [takeR, if_neg hn, Int.toNat_natCast, if_pos h0]
      have e0 := List.length_eq_zero_iff.1 h0
      refine nothing (filter_none (by rw [h.items k hk, e0])) (fun j e hj => ?_) _
      obtain rfl : k = j := by omega
      exact e0
    · rw [takeR, if_neg hn, Int.toNat_natCast, if_neg h0]
      refine ⟨(h.items k hk).symm, fun x hx e => ⟨?_, rfl⟩, ⟨fun j hj => ?_, fun x hx => ?_, ?_⟩, fun j hj => ?_, fun j e hj => ?_⟩
      · obtain ⟨j, j1, j2, j3⟩ := h.keys x hx
        obtain rfl : j = k := by omega
        exact j3
      · simp only [List.length_set] at hj
        simp only
        rw [bi_set hk]
        by_cases e : j = k
        · subst e
          simp only [if_true]
          rw [List.filter_filter, List.map_eq_nil_iff, List.filter_eq_nil_iff]
          intro x _
          simp [isIn, notIn]
        · simp only [if_neg e]
          rw [List.filter_filter, ← h.items j hj]
          congr 1
          refine List.filter_congr (fun x _ => ?_)
          have e' : ¬ (j : Int) = (k : Int) := by omega
          by_cases q : x.bin = (j : Int)
          · simp [isIn, notIn, q, e']
          · simp [isIn, notIn, q]
      · obtain ⟨hx1, hx2⟩ := List.mem_filter.1 hx
        obtain ⟨j, j1, j2, j3⟩ := h.keys x hx1
        simp only [List.length_set]
        refine ⟨j, j1, j2, ?_⟩
        rw [bk_set hk]
        split
        · rename_i e
          subst e
          simp [notIn, isIn, j2] at hx2
        · exact j3
      · have a := tot_take hk ByteArray.empty bins.length
        rw [if_pos hk] at a
        have c := filter_both ins (k : Int)
        have d : (bi bins k).length = (ins.filter (isIn (k : Int))).length := by rw [← h.items k hk, List.length_map]
        have t := h.tot
        simp only [List.length_set]
        omega
      · simp only
        rw [bi_set hk]
        split
        · rfl
        · exact hj
      · obtain rfl : k = j := by omega
        simp only
        rw [bi_set hk, if_pos rfl]

/-- The place of item number k among those of its bin. -/
theorem nth_in (ins : List Pt) (b : Int) : ∀ k (hk : k < ins.length), (ins[k]'hk).bin = b → ((ins.filter (isIn b)).map Pt.item)[((ins.take k).filter (isIn b)).length]? = some (ins[k]'hk).item := by
  induction ins with
  | nil => intro k hk; simp at hk
  | cons x r ih =>
    intro k hk hb
    cases k with
    | zero =>
      have hb' : x.bin = b := by simpa using hb
      simp [isIn, hb']
    | succ k =>
      have := ih k (by simpa using hk) (by simpa using hb)
      by_cases e : x.bin = b
      · simp [isIn, e] at this ⊢
        exact this
      · simp [isIn, e] at this ⊢
        exact this
theorem take_snoc_filter (ins : List Pt) (p : Pt → Bool) (k : Nat) (hk : k < ins.length) : (ins.take (k + 1)).filter p = (ins.take k).filter p ++ (if p (ins[k]'hk) then [ins[k]'hk] else []) := by
  rw [List.take_succ_eq_append_getElem hk, List.filter_append]
  congr 1
  by_cases h : p (ins[k]'hk) = true
  · simp [h]
  · simp [h]
end Go.Proofs.Ytdipncjbobhbjaa
