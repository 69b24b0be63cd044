/- The plain law: the specification's best is the search of what is left. -/
import Derived.Test.YtdnodloinlijaaaPlain3
import Derived.Test.YtdnodloinlijaaaRBest2
namespace Go.Proofs.Ytdnodloinlijaaa
open Go.RowKit
set_option linter.unusedVariables false
set_option linter.unusedSimpArgs false

/-- What is left, with first indices. -/
def Lr (left : List Bool) : List Pc → Nat → List (Pc × Int)
  | [], _ => []
  | p :: r, i => if left.getD i false = true then (p, (i : Int)) :: Lr left r (i + 1) else Lr left r (i + 1)
theorem Lr_cons (left : List Bool) (p : Pc) (r : List Pc) (i : Nat) : Lr left (p :: r) i = if left.getD i false = true then (p, (i : Int)) :: Lr left r (i + 1) else Lr left r (i + 1) := rfl
theorem loadGo_sub (left : List Bool) : ∀ (r : List Pc) (i bits : Nat) (acc x : List Int × Pc), loadGo left r i bits acc = some x → ∃ M, List.Sublist M (Lr left r i) ∧ x = (acc.1 ++ M.map (·.2), plusP acc.2 (sumM M))
  | [], i, bits, acc, x, h => by
    simp [loadGo] at h
    subst h
    exact ⟨[], List.Sublist.slnil, by simp [sumM, plusP_zero]⟩
  | p :: r, i, bits, acc, x, h => by
    rw [loadGo_cons] at h
    rw [Lr_cons]
    split at h
    · obtain ⟨M, a, b⟩ := loadGo_sub left r (i + 1) bits acc x h
      refine ⟨M, ?_, b⟩
      split
      · exact a.cons _
      · exact a
    · split at h
      · rename_i hl
        obtain ⟨M, a, b⟩ := loadGo_sub left r (i + 1) bits _ x h
        rw [if_pos hl]
        refine ⟨(p, (i : Int)) :: M, a.cons_cons _, ?_⟩
        rw [b, sumM, List.map_cons, plusP_assoc, List.append_assoc]
        rfl
      · cases h
theorem bit_of {b i c : Nat} (hc : c < 2 ^ i) : (b * 2 ^ i + c) / 2 ^ i % 2 = b % 2 := by
  have hp : 0 < 2 ^ i := Nat.pow_pos (by decide)
  rw [Nat.mul_comm, Nat.mul_add_div hp, Nat.div_eq_of_lt hc, Nat.add_zero]
theorem loadGo_ex (left : List Bool) : ∀ (r : List Pc) (i : Nat) (M : List (Pc × Int)), List.Sublist M (Lr left r i) → ∃ b, b < 2 ^ r.length ∧ ∀ c, c < 2 ^ i → ∀ acc, loadGo left r i (b * 2 ^ i + c) acc = some (acc.1 ++ M.map (·.2), plusP acc.2 (sumM M))
  | [], i, M, h => by
    have := List.sublist_nil.1 h
    subst this
    exact ⟨0, by simp, fun c _ acc => by simp [loadGo, sumM, plusP_zero]⟩
  | p :: r, i, M, h => by
    have hskip : ∀ M, List.Sublist M (Lr left r (i + 1)) → ∃ b, b < 2 ^ (p :: r).length ∧ ∀ c, c < 2 ^ i → ∀ acc, loadGo left (p :: r) i (b * 2 ^ i + c) acc = some (acc.1 ++ M.map (·.2), plusP acc.2 (sumM M)) := by
      intro M hM
      obtain ⟨b, h1, h2⟩ := loadGo_ex left r (i + 1) M hM
      refine ⟨2 * b, by rw [List.length_cons, Nat.pow_succ]; omega, fun c hc acc => ?_⟩
      rw [loadGo_cons, bit_of hc, if_pos (by omega)]
      have e : 2 * b * 2 ^ i + c = b * 2 ^ (i + 1) + c := by rw [Nat.pow_succ, Nat.mul_comm 2 b, Nat.mul_assoc, Nat.mul_comm (2 ^ i) 2]
      rw [e]
      exact h2 c (by rw [Nat.pow_succ]; omega) acc
    rw [Lr_cons] at h
    split at h
    · rename_i hl
      cases h with
      | cons _ hM => exact hskip M hM
      | cons_cons _ hM =>
        rename_i M'
        obtain ⟨b, h1, h2⟩ := loadGo_ex left r (i + 1) M' hM
        refine ⟨2 * b + 1, by rw [List.length_cons, Nat.pow_succ]; omega, fun c hc acc => ?_⟩
        rw [loadGo_cons, bit_of hc, if_neg (by omega), if_pos hl]
        have e : (2 * b + 1) * 2 ^ i + c = b * 2 ^ (i + 1) + (2 ^ i + c) := by rw [Nat.pow_succ, Nat.add_mul, Nat.mul_comm 2 b, Nat.mul_assoc, Nat.mul_comm (2 ^ i) 2, Nat.one_mul, Nat.add_assoc]
        rw [e, h2 (2 ^ i + c) (by rw [Nat.pow_succ]; omega)]
        simp only [List.map_cons, sumM, List.append_assoc, plusP_assoc, List.singleton_append]
    · exact hskip M h
theorem loadF_sub {l : List Pc} {left : List Bool} {bits : Nat} {x : List Int × Pc} (h : loadF l left bits = some x) : ∃ M, List.Sublist M (Lr left l 0) ∧ x = (M.map (·.2), sumM M) := by
  obtain ⟨M, a, b⟩ := loadGo_sub left l 0 bits _ x h
  exact ⟨M, a, by rw [b, zero_plusP, List.nil_append]⟩
theorem loadF_ex {l : List Pc} {left : List Bool} {M : List (Pc × Int)} (h : List.Sublist M (Lr left l 0)) : ∃ b, b < 2 ^ l.length ∧ loadF l left b = some (M.map (·.2), sumM M) := by
  obtain ⟨b, h1, h2⟩ := loadGo_ex left l 0 M h
  have := h2 0 (by decide) ([], zeroP)
  rw [Nat.pow_zero, Nat.mul_one, Nat.add_zero, zero_plusP, List.nil_append] at this
  exact ⟨b, h1, this⟩
theorem bef_trans : ∀ a b c : List Int, bef a b = true → bef b c = true → bef a c = true
  | _, [], _, h, _ => by simp [bef] at h
  | _, _ :: _, [], _, h => by simp [bef] at h
  | [], _ :: _, _ :: _, _, _ => rfl
  | a :: s, b :: t, c :: u, h, k => by
    rw [bef] at h k ⊢
    by_cases e : a = b
    · subst e
      rw [if_pos rfl] at h
      by_cases f : a = c
      · rw [if_pos f] at k ⊢
        exact bef_trans s t u h k
      · rw [if_neg f] at k ⊢
        exact k
    · rw [if_neg e] at h
      simp at h
      by_cases f : b = c
      · subst f
        rw [if_neg e]
        simp
        exact h
      · rw [if_neg f] at k
        simp at k
        rw [if_neg (by omega)]
        simp
        omega
/-- A choice is better than another one. -/
def gt (q st : List Int × Pc) : Prop := st.2.x < q.2.x ∨ (q.2.x = st.2.x ∧ bef q.1 st.1 = true)
theorem gt_trans {a b c : List Int × Pc} (h : gt a b) (k : gt b c) : gt a c := by
  rcases h with h | ⟨h1, h2⟩
  · rcases k with k | ⟨k1, _⟩
    · exact .inl (by omega)
    · exact .inl (by omega)
  · rcases k with k | ⟨k1, k2⟩
    · exact .inl (by omega)
    · exact .inr ⟨by omega, bef_trans _ _ _ h2 k2⟩
theorem gt_neg {q s r : List Int × Pc} (h : gt q r) (k : ¬ gt q s) : gt s r := by
  by_cases h1 : gt s q
  · exact gt_trans h1 h
  · have e1 : q.2.x = s.2.x := by
      by_cases a : s.2.x < q.2.x
      · exact absurd (.inl a) k
      · by_cases b : q.2.x < s.2.x
        · exact absurd (.inl b) h1
        · omega
    have e2 : q.1 = s.1 := by
      refine bef_total _ _ ?_ ?_
      · rw [Bool.eq_false_iff]
        exact fun e => k (.inr ⟨e1, e⟩)
      · rw [Bool.eq_false_iff]
        exact fun e => h1 (.inr ⟨e1.symm, e⟩)
    rcases h with h | ⟨h3, h4⟩
    · exact .inl (by omega)
    · exact .inr ⟨by omega, by rw [← e2]; exact h4⟩
theorem gt_self (q : List Int × Pc) : ¬ gt q q := by
  rintro (h | ⟨_, h⟩)
  · omega
  · rw [bef_irrefl] at h
    cases h
def feas (W V : Int) (q : List Int × Pc) : Prop := q.2.w ≤ W ∧ q.2.v ≤ V
theorem bestB_spec (l : List Pc) (left : List Bool) (W V : Int) : ∀ (m k : Nat) (st : List Int × Pc),
    (bestB l left W V m k st = st ∨ ∃ k', k ≤ k' ∧ k' < k + m ∧ loadF l left k' = some (bestB l left W V m k st) ∧ feas W V (bestB l left W V m k st)) ∧ ¬ gt st (bestB l left W V m k st) ∧
      ∀ k' q, k ≤ k' → k' < k + m → loadF l left k' = some q → feas W V q → ¬ gt q (bestB l left W V m k st)
  | 0, k, st => ⟨.inl rfl, gt_self st, fun k' q h1 h2 => by omega⟩
  | m + 1, k, st => by
    rw [bestB_succ]
    obtain ⟨i1, i2, i3⟩ := bestB_spec l left W V m (k + 1) (betterB W V st (loadF l left k))
    have hst : betterB W V st (loadF l left k) = st ∨ (loadF l left k = some (betterB W V st (loadF l left k)) ∧ feas W V (betterB W V st (loadF l left k)) ∧ gt (betterB W V st (loadF l left k)) st) := by
      cases h : loadF l left k with
      | none => exact .inl rfl
      | some q =>
        simp only [betterB]
        by_cases h1 : W < q.2.w ∨ V < q.2.v
        · rw [if_pos h1]; exact .inl rfl
        · rw [if_neg h1]
          by_cases h2 : st.2.x < q.2.x ∨ (q.2.x = st.2.x ∧ bef q.1 st.1 = true)
          · rw [if_pos h2]; exact .inr ⟨rfl, ⟨by omega, by omega⟩, h2⟩
          · rw [if_neg h2]; exact .inl rfl
    have hk : ∀ q, loadF l left k = some q → feas W V q → ¬ gt q (betterB W V st (loadF l left k)) := by
      intro q h hf
      rw [h]
      simp only [betterB]
      obtain ⟨f1, f2⟩ := hf
      rw [if_neg (by omega)]
      by_cases h2 : st.2.x < q.2.x ∨ (q.2.x = st.2.x ∧ bef q.1 st.1 = true)
      · rw [if_pos h2]; exact gt_self q
      · rw [if_neg h2]; exact h2
    generalize betterB W V st (loadF l left k) = st1 at i1 i2 i3 hst hk ⊢
    generalize bestB l left W V m (k + 1) st1 = res at i1 i2 i3 ⊢
    refine ⟨?_, ?_, fun k' q h1 h2 h3 h4 h5 => ?_⟩
    · rcases i1 with rfl | ⟨k', h1, h2, h3, h4⟩
      · rcases hst with rfl | ⟨h1, h2, _⟩
        · exact .inl rfl
        · exact .inr ⟨k, Nat.le_refl _, by omega, h1, h2⟩
      · exact .inr ⟨k', by omega, by omega, h3, h4⟩
    · rcases hst with rfl | ⟨_, _, h3⟩
      · exact i2
      · exact fun e => i2 (gt_trans h3 e)
    · by_cases e : k' = k
      · subst e
        exact i2 (gt_neg h5 (hk q h3 h4))
      · exact i3 k' q (by omega) (by omega) h3 h4 h5
/-- THE LAW: the specification's best of what is left is the trip of the search. -/
theorem rbest_law (l : List Pc) (left : List Bool) (W V : Int) (hW : 0 ≤ W) (hV : 0 ≤ V) (hok : (firsts (Lr left l 0)).all okP = true) (hI : Incr (Lr left l 0)) :
    rbestF l left W V = (split 0 (Lr left l 0) (bestF (firsts (Lr left l 0)) W V)).1 := by
  obtain ⟨s, b1, b2, b3, b4⟩ := best_spec (firsts (Lr left l 0)) W V hok hW hV
  obtain ⟨⟨M, m1, m2, m3⟩, _⟩ := split_sm0 b1
  obtain ⟨i1, i2, i3⟩ := bestB_spec l left W V (2 ^ l.length) 0 ([], zeroP)
  unfold rbestF
  generalize hres : bestB l left W V (2 ^ l.length) 0 ([], zeroP) = res at i1 i2 i3
  have hM' : ∃ M', List.Sublist M' (Lr left l 0) ∧ res = (M'.map (·.2), sumM M') ∧ feas W V res := by
    rcases i1 with rfl | ⟨k', _, _, h3, h4⟩
    · exact ⟨[], List.nil_sublist _, rfl, ⟨hW, hV⟩⟩
    · obtain ⟨M', a, b⟩ := loadF_sub h3
      exact ⟨M', a, b, h4⟩
  obtain ⟨M', n1, n2, n3⟩ := hM'
  obtain ⟨kb, k1, k2⟩ := loadF_ex m1
  have hnot := i3 kb _ (Nat.zero_le _) (by omega) k2 ⟨by rw [m3]; exact b2, by rw [m3]; exact b3⟩
  obtain ⟨ld, d1, d2⟩ := sub_sm0 n1
  subst n2
  obtain ⟨h1, h2⟩ := b4 ld (sumM M') d1 n3.1 n3.2
  rw [m2, m3] at hnot
  have hx : (sumM M').x = s.x := by
    by_cases e : (sumM M').x < s.x
    · exact absurd (.inl e) hnot
    · omega
  show M'.map (·.2) = _
  rw [← d2]
  rcases h2 hx with e | e
  · rw [e]
  · exfalso
    refine hnot (.inr ⟨hx.symm, ?_⟩)
    show bef _ (M'.map (·.2)) = true
    rw [← d2, split_bef hI b1 d1]
    exact e
end Go.Proofs.Ytdnodloinlijaaa
