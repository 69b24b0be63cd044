/- The plain law of the search: it is the first best one of all loads. -/
import Derived.Test.YtdnodloinlijaaaBest
namespace Go.Proofs.Ytdnodloinlijaaa
open Go.RowKit
set_option linter.unusedVariables false
set_option linter.unusedSimpArgs false

/-- The loads that go on with parcels from an index on, in the order of the search. -/
def cont : List Pc → Nat → Int → Int → List (List Int × Int)
  | [], _, _, _ => []
  | p :: r, i, l0, l1 => (if l0 < p.w ∨ l1 < p.v then [] else ([(i : Int)], p.x) :: (cont r (i + 1) (l0 - p.w) (l1 - p.v)).map (fun q => ((i : Int) :: q.1, p.x + q.2))) ++ cont r (i + 1) l0 l1
def updQ (ld : List Int) (wt : Int) (st : List Int × Int) (q : List Int × Int) : List Int × Int := upd (ld ++ q.1) (wt + q.2) st
theorem cont_cons (p : Pc) (r : List Pc) (i : Nat) (l0 l1 : Int) : cont (p :: r) i l0 l1 = (if l0 < p.w ∨ l1 < p.v then [] else ([(i : Int)], p.x) :: (cont r (i + 1) (l0 - p.w) (l1 - p.v)).map (fun q => ((i : Int) :: q.1, p.x + q.2))) ++ cont r (i + 1) l0 l1 := rfl

theorem cont_le : ∀ (l : List Pc) (i : Nat) (l0 l1 : Int), l.all okP = true → ∀ q ∈ cont l i l0 l1, q.2 ≤ sumX l
  | [], i, l0, l1, _, q, hq => by simp [cont] at hq
  | p :: r, i, l0, l1, h, q, hq => by
    simp only [List.all_cons, Bool.and_eq_true] at h
    obtain ⟨_, _, hx0, _⟩ := okP_t h.1
    have hs := (sumX_bound r h.2).1
    rw [cont_cons, List.mem_append] at hq
    simp only [sumX]
    rcases hq with hq | hq
    · split at hq
      · simp at hq
      · rw [List.mem_cons] at hq
        rcases hq with rfl | hq
        · simp only; omega
        · obtain ⟨q', hq', rfl⟩ := List.mem_map.1 hq
          have := cont_le r (i + 1) _ _ h.2 q' hq'
          simp only; omega
    · have := cont_le r (i + 1) _ _ h.2 q hq
      omega
theorem fold_same (ld : List Int) (wt : Int) : ∀ (L : List (List Int × Int)) (st : List Int × Int), (∀ q ∈ L, wt + q.2 ≤ st.2) → L.foldl (updQ ld wt) st = st
  | [], st, _ => rfl
  | q :: L, st, h => by
    have e : updQ ld wt st q = st := by
      have := h q (by simp)
      unfold updQ upd
      rw [if_neg (by omega)]
    rw [List.foldl_cons, e]
    exact fold_same ld wt L st (fun q hq => h q (List.mem_cons_of_mem _ hq))
theorem srch_fold : ∀ (l : List Pc) (i : Nat) (wt l0 l1 : Int) (ld : List Int) (st : List Int × Int), l.all okP = true → srch l i wt l0 l1 ld st = (cont l i l0 l1).foldl (updQ ld wt) st
  | [], i, wt, l0, l1, ld, st, _ => rfl
  | p :: r, i, wt, l0, l1, ld, st, h => by
    have h2 := h
    simp only [List.all_cons, Bool.and_eq_true] at h2
    rw [srch_cons]
    by_cases hg : st.2 < wt + sumX (p :: r)
    · rw [if_pos hg, cont_cons]
      by_cases hw : l0 < p.w ∨ l1 < p.v
      · rw [if_pos hw, if_pos hw, List.nil_append]
        exact srch_fold r _ _ _ _ _ _ h2.2
      · rw [if_neg hw, if_neg hw, List.foldl_append, List.foldl_cons, List.foldl_map, srch_fold r (i + 1) wt l0 l1 ld _ h2.2, srch_fold r (i + 1) (wt + p.x) _ _ _ _ h2.2]
        congr 2
        funext s q
        simp [updQ, List.append_assoc, Int.add_assoc]
    · rw [if_neg hg]
      refine (fold_same ld wt _ st (fun q hq => ?_)).symm
      have := cont_le (p :: r) i l0 l1 h q hq
      omega
/-- An index of what goes on is in range. -/
theorem cont_head : ∀ (l : List Pc) (i : Nat) (l0 l1 : Int) (q : List Int × Int), q ∈ cont l i l0 l1 → ∃ (j : Nat) (S : List Int), q.1 = (j : Int) :: S ∧ i ≤ j ∧ j < i + l.length
  | [], i, l0, l1, q, hq => by simp [cont] at hq
  | p :: r, i, l0, l1, q, hq => by
    rw [cont_cons, List.mem_append] at hq
    rcases hq with hq | hq
    · split at hq
      · simp at hq
      · rw [List.mem_cons] at hq
        rcases hq with rfl | hq
        · exact ⟨i, [], rfl, Nat.le_refl _, by simp⟩
        · obtain ⟨q', hq', rfl⟩ := List.mem_map.1 hq
          exact ⟨i, q'.1, rfl, Nat.le_refl _, by simp⟩
    · obtain ⟨j, S, e, h1, h2⟩ := cont_head r (i + 1) l0 l1 q hq
      exact ⟨j, S, e, by omega, by simp only [List.length_cons]; omega⟩
theorem fold_mem (ld : List Int) (wt : Int) : ∀ (L : List (List Int × Int)) (st : List Int × Int), L.foldl (updQ ld wt) st = st ∨ ∃ q ∈ L, L.foldl (updQ ld wt) st = (ld ++ q.1, wt + q.2)
  | [], st => .inl rfl
  | q :: L, st => by
    rw [List.foldl_cons]
    rcases fold_mem ld wt L (updQ ld wt st q) with h | ⟨q', hq', h⟩
    · rw [h]
      unfold updQ upd
      split
      · exact .inr ⟨q, by simp, rfl⟩
      · exact .inl rfl
    · exact .inr ⟨q', List.mem_cons_of_mem _ hq', h⟩
theorem best_fold {l : List Pc} (W V : Int) (h : l.all okP = true) : bestF l W V = ((cont l 0 W V).foldl (updQ [] 0) ([], 0)).1 := by rw [bestF, srch_fold l 0 0 W V [] ([], 0) h]
theorem best_head {l : List Pc} {W V : Int} (h : l.all okP = true) (hne : bestF l W V ≠ []) : ∃ (j : Nat) (S : List Int), bestF l W V = (j : Int) :: S ∧ j < l.length := by
  rw [best_fold W V h] at hne ⊢
  rcases fold_mem [] 0 (cont l 0 W V) ([], 0) with e | ⟨q, hq, e⟩
  · rw [e] at hne
    exact absurd rfl hne
  · obtain ⟨j, S, h1, h2, h3⟩ := cont_head _ _ _ _ _ hq
    exact ⟨j, S, by rw [e]; simpa using h1, by omega⟩

/-- Parcels with their first indices, parted by a load. -/
def split : Nat → List (Pc × Int) → List Int → List Int × List (Pc × Int)
  | _, [], _ => ([], [])
  | i, q :: r, ld => if ld.head? = some (i : Int) then (q.2 :: (split (i + 1) r ld.tail).1, (split (i + 1) r ld.tail).2) else ((split (i + 1) r ld).1, q :: (split (i + 1) r ld).2)
theorem split_cons (i : Nat) (q : Pc × Int) (r : List (Pc × Int)) (ld : List Int) : split i (q :: r) ld = if ld.head? = some (i : Int) then (q.2 :: (split (i + 1) r ld.tail).1, (split (i + 1) r ld.tail).2) else ((split (i + 1) r ld).1, q :: (split (i + 1) r ld).2) := rfl
theorem split_le : ∀ (L : List (Pc × Int)) (i : Nat) (ld : List Int), (split i L ld).2.length ≤ L.length
  | [], i, ld => by simp [split]
  | q :: r, i, ld => by
    rw [split_cons]
    split
    · have := split_le r (i + 1) ld.tail
      simp only [List.length_cons]; omega
    · have := split_le r (i + 1) ld
      simp only [List.length_cons]; omega
theorem split_lt : ∀ (L : List (Pc × Int)) (i j : Nat) (S : List Int), i ≤ j → j < i + L.length → (split i L ((j : Int) :: S)).2.length < L.length
  | [], i, j, S, h1, h2 => by simp at h2; omega
  | q :: r, i, j, S, h1, h2 => by
    rw [split_cons]
    by_cases e : j = i
    · subst e
      rw [if_pos (show ((j : Int) :: S).head? = some (j : Int) from rfl)]
      have := split_le r (j + 1) S
      simp only [List.length_cons, List.tail_cons]; omega
    · rw [if_neg (by simp; omega)]
      have := split_lt r (i + 1) j S (by omega) (by simp only [List.length_cons] at h2; omega)
      simp only [List.length_cons]; omega
theorem split_sub : ∀ (L : List (Pc × Int)) (i : Nat) (ld : List Int) (q : Pc × Int), q ∈ (split i L ld).2 → q ∈ L
  | [], i, ld, q, h => by simp [split] at h
  | p :: r, i, ld, q, h => by
    rw [split_cons] at h
    split at h
    · exact List.mem_cons_of_mem _ (split_sub r _ _ q h)
    · rw [List.mem_cons] at h ⊢
      exact h.imp_right (split_sub r _ _ q)
def firsts (L : List (Pc × Int)) : List Pc := L.map (·.1)
def seconds (L : List (Pc × Int)) : List Int := L.map (·.2)
def tripsF (W V : Int) : Nat → List (Pc × Int) → List (List Int)
  | 0, _ => []
  | n + 1, L => if bestF (firsts L) W V = [] then [] else (split 0 L (bestF (firsts L) W V)).1 :: tripsF W V n (split 0 L (bestF (firsts L) W V)).2
theorem tripsF_succ (W V : Int) (n : Nat) (L : List (Pc × Int)) : tripsF W V (n + 1) L = if bestF (firsts L) W V = [] then [] else (split 0 L (bestF (firsts L) W V)).1 :: tripsF W V n (split 0 L (bestF (firsts L) W V)).2 := rfl
def withIdx (l : List Pc) : List (Pc × Int) := l.zipIdx.map (fun q => (q.1, (q.2 : Int)))
def idxs (n : Nat) : List Int := (List.range n).map (fun i : Nat => (i : Int))
theorem firsts_withIdx (l : List Pc) : firsts (withIdx l) = l := by
  unfold firsts withIdx
  rw [List.map_map]
  apply List.ext_getElem?
  intro i
  simp
  cases l[i]? <;> rfl
theorem seconds_withIdx (l : List Pc) : seconds (withIdx l) = idxs l.length := by
  unfold seconds withIdx idxs
  rw [List.map_map]
  apply List.ext_getElem?
  intro i
  by_cases h : i < l.length
  · simp [h]
  · simp [h]
theorem withIdx_len (l : List Pc) : (withIdx l).length = l.length := by simp [withIdx]
def tripsR (l : List Pc) (W V : Int) : List (List Int) := if checkF l W V = 0 then tripsF W V (l.length + 1) (withIdx l) else []
theorem firsts_all {L L' : List (Pc × Int)} (h : (firsts L).all okP = true) (hs : ∀ q ∈ L', q ∈ L) : (firsts L').all okP = true := by
  rw [List.all_eq_true] at h ⊢
  intro p hp
  obtain ⟨q, hq, rfl⟩ := List.mem_map.1 hp
  exact h _ (List.mem_map.2 ⟨q, hs q hq, rfl⟩)
theorem checkF_of {l : List Pc} {W V : Int} (h16 : l.length ≤ 16) (hW : 0 ≤ W ∧ W ≤ 1000000000000) (hV : 0 ≤ V ∧ V ≤ 1000000000000) (hok : l.all okP = true) : checkF l W V = 0 := by
  unfold checkF rng
  rw [if_neg (by omega), if_pos (by simp [hW, hV]), if_pos hok]
end Go.Proofs.Ytdnodloinlijaaa
