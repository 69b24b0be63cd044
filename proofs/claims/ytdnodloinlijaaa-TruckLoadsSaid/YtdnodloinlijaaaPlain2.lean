/- The plain law of the best load. -/
import Derived.Test.YtdnodloinlijaaaPlain
namespace Go.Proofs.Ytdnodloinlijaaa
open Go.RowKit
set_option linter.unusedVariables false
set_option linter.unusedSimpArgs false

def zeroP : Pc := ⟨0, 0, 0⟩
theorem plusP_zero (a : Pc) : plusP a zeroP = a := Pc.eq (by simp [plusP, zeroP]) (by simp [plusP, zeroP]) (by simp [plusP, zeroP])
theorem zero_plusP (a : Pc) : plusP zeroP a = a := Pc.eq (by simp [plusP, zeroP]) (by simp [plusP, zeroP]) (by simp [plusP, zeroP])
theorem plusP_assoc (a b c : Pc) : plusP (plusP a b) c = plusP a (plusP b c) := Pc.eq (by simp [plusP]; omega) (by simp [plusP]; omega) (by simp [plusP]; omega)
/-- The sum of a load; none if it is not one. -/
def sm (l : List Pc) : Int → List Int → Option Pc
  | _, [] => some zeroP
  | last, j :: r => if j < 0 ∨ (l.length : Int) ≤ j then none else if j ≤ last then none else (sm l j r).map (plusP (l.getD j.toNat default))
theorem sm_cons (l : List Pc) (last j : Int) (r : List Int) : sm l last (j :: r) = if j < 0 ∨ (l.length : Int) ≤ j then none else if j ≤ last then none else (sm l j r).map (plusP (l.getD j.toNat default)) := rfl
theorem sumGo_some (l : List Pc) : ∀ (S : List Int) (last : Int) (acc s : Pc), sm l last S = some s → sumGo l last acc S = (plusP acc s, 0)
  | [], last, acc, s, h => by
    simp [sm] at h
    subst h
    rw [sumGo_nil, plusP_zero]
  | j :: r, last, acc, s, h => by
    rw [sm_cons] at h
    rw [sumGo_cons]
    split at h
    · cases h
    rename_i h1
    split at h
    · cases h
    rename_i h2
    rw [if_neg h1, if_neg h2]
    obtain ⟨s', hs, rfl⟩ := Option.map_eq_some_iff.1 h
    rw [sumGo_some l r j _ s' hs, plusP_assoc]
theorem sumGo_none (l : List Pc) : ∀ (S : List Int) (last : Int) (acc : Pc), sm l last S = none → (sumGo l last acc S).2 ≠ 0
  | [], last, acc, h => by simp [sm] at h
  | j :: r, last, acc, h => by
    rw [sm_cons] at h
    rw [sumGo_cons]
    by_cases h1 : j < 0 ∨ (l.length : Int) ≤ j
    · rw [if_pos h1]; decide
    · rw [if_neg h1] at h ⊢
      by_cases h2 : j ≤ last
      · rw [if_pos h2]; decide
      · rw [if_neg h2] at h ⊢
        exact sumGo_none l r j _ (Option.map_eq_none_iff.1 h)
theorem getD_at {l : List Pc} {i : Nat} {p : Pc} (h : l[i]? = some p) : l.getD i default = p := by simp [List.getD, h]
theorem sm_pos (l : List Pc) (h : l.all okP = true) : ∀ (S : List Int) (last : Int) (s : Pc), sm l last S = some s → 0 ≤ s.w ∧ 0 ≤ s.v ∧ 0 ≤ s.x
  | [], last, s, hs => by
    simp [sm] at hs
    subst hs
    simp [zeroP]
  | j :: r, last, s, hs => by
    rw [sm_cons] at hs
    split at hs
    · cases hs
    rename_i h1
    split at hs
    · cases hs
    obtain ⟨s', hs', rfl⟩ := Option.map_eq_some_iff.1 hs
    obtain ⟨a, b, c⟩ := sm_pos l h r j s' hs'
    obtain ⟨p, hp⟩ := getE (show j.toNat < l.length by omega)
    rw [getD_at hp]
    obtain ⟨⟨h2, _⟩, ⟨h3, _⟩, ⟨h4, _⟩⟩ := okP_t (all_get h hp)
    simp only [plusP]
    omega
theorem sm_last {l : List Pc} {S : List Int} {last last' : Int} {s : Pc} (h : sm l last S = some s) (hl : last' ≤ last) : sm l last' S = some s := by
  cases S with
  | nil => exact h
  | cons j r =>
    rw [sm_cons] at h ⊢
    split at h
    · cases h
    rename_i h1
    split at h
    · cases h
    rename_i h2
    rw [if_neg h1, if_neg (by omega)]
    exact h
/-- The loads of the search are the loads that can be carried. -/
theorem mem_cont (l : List Pc) (hok : l.all okP = true) : ∀ (m i : Nat), l.length - i = m → i ≤ l.length → ∀ (l0 l1 : Int) (S : List Int) (x : Int),
    (S, x) ∈ cont (l.drop i) i l0 l1 ↔ S ≠ [] ∧ ∃ s, sm l ((i : Int) - 1) S = some s ∧ s.w ≤ l0 ∧ s.v ≤ l1 ∧ s.x = x := by
  intro m
  induction m with
  | zero =>
    intro i h1 h2 l0 l1 S x
    have : i = l.length := by omega
    subst this
    rw [List.drop_length]
    constructor
    · intro h; simp [cont] at h
    · rintro ⟨hne, s, hs, _⟩
      cases S with
      | nil => exact absurd rfl hne
      | cons j r =>
        rw [sm_cons] at hs
        split at hs
        · cases hs
        · rw [if_pos (by omega)] at hs
          cases hs
  | succ m ih =>
    intro i h1 h2 l0 l1 S x
    obtain ⟨p, hp⟩ := getE (show i < l.length by omega)
    have IH := ih (i + 1) (by omega) (by omega)
    rw [show (((i + 1 : Nat) : Int) - 1) = (i : Int) from by omega] at IH
    rw [drop_at hp, cont_cons, List.mem_append]
    obtain ⟨⟨hw0, _⟩, ⟨hv0, _⟩, _⟩ := okP_t (all_get hok hp)
    have hpd := getD_at hp
    cases S with
    | nil =>
      refine ⟨fun h => ?_, fun h => absurd rfl h.1⟩
      rcases h with h | h
      · split at h
        · simp at h
        · rw [List.mem_cons] at h
          rcases h with h | h
          · cases h
          · obtain ⟨q, _, e⟩ := List.mem_map.1 h
            cases e
      · obtain ⟨j, S', e, _⟩ := cont_head _ _ _ _ _ h
        cases e
    | cons j r =>
      by_cases hji : j = (i : Int)
      · subst hji
        have hnot : (((i : Int) :: r, x) ∈ cont (l.drop (i + 1)) (i + 1) l0 l1) ↔ False := by
          refine ⟨fun h => ?_, fun h => h.elim⟩
          obtain ⟨j, S', e, h3, _⟩ := cont_head _ _ _ _ _ h
          simp only at e
          injection e with e1 _
          omega
        rw [hnot, or_false, show sm l ((i : Int) - 1) ((i : Int) :: r) = (sm l (i : Int) r).map (plusP p) from by rw [sm_cons, if_neg (by omega), if_neg (by omega), Int.toNat_natCast, hpd]]
        by_cases hov : l0 < p.w ∨ l1 < p.v
        · rw [if_pos hov]
          refine ⟨fun h => by simp at h, fun ⟨_, s, hs, h3, h4, _⟩ => ?_⟩
          obtain ⟨s', hs', rfl⟩ := Option.map_eq_some_iff.1 hs
          obtain ⟨a, b, _⟩ := sm_pos l hok _ _ _ hs'
          simp only [plusP] at h3 h4
          omega
        · rw [if_neg hov, List.mem_cons]
          constructor
          · rintro (h | h)
            · injection h with e1 e2
              injection e1 with _ e1
              subst e1 e2
              exact ⟨by simp, _, rfl, by simp [plusP, zeroP]; omega, by simp [plusP, zeroP]; omega, by simp [plusP, zeroP]⟩
            · obtain ⟨q, hq, e⟩ := List.mem_map.1 h
              injection e with e1 e2
              injection e1 with _ e1
              obtain ⟨_, s', hs', h3, h4, h5⟩ := (IH (l0 - p.w) (l1 - p.v) q.1 q.2).1 hq
              rw [e1] at hs'
              refine ⟨by simp, plusP p s', by rw [hs']; rfl, ?_, ?_, ?_⟩ <;> simp only [plusP] <;> omega
          · rintro ⟨_, s, hs, h3, h4, h5⟩
            obtain ⟨s', hs', rfl⟩ := Option.map_eq_some_iff.1 hs
            simp only [plusP] at h3 h4 h5
            by_cases hr : r = []
            · subst hr
              simp [sm] at hs'
              subst hs'
              left
              simp only [zeroP] at h5
              rw [← h5]
              simp
            · right
              refine List.mem_map.2 ⟨(r, s'.x), (IH (l0 - p.w) (l1 - p.v) r s'.x).2 ⟨hr, s', hs', by omega, by omega, rfl⟩, ?_⟩
              rw [h5]
      · have hfirst : ((j :: r, x) ∈ (if l0 < p.w ∨ l1 < p.v then [] else ([(i : Int)], p.x) :: (cont (l.drop (i + 1)) (i + 1) (l0 - p.w) (l1 - p.v)).map (fun q => ((i : Int) :: q.1, p.x + q.2)))) ↔ False := by
          refine ⟨fun h => ?_, fun h => h.elim⟩
          split at h
          · simp at h
          · rw [List.mem_cons] at h
            rcases h with h | h
            · injection h with e1 _
              injection e1 with e1 _
              exact hji e1
            · obtain ⟨q, _, e⟩ := List.mem_map.1 h
              injection e with e1 _
              injection e1 with e1 _
              exact hji e1.symm
        rw [hfirst, false_or, IH l0 l1 (j :: r) x]
        by_cases hlt : j < (i : Int)
        · rw [sm_cons, sm_cons, if_pos (show j ≤ (i : Int) by omega), if_pos (show j ≤ (i : Int) - 1 by omega)]
        · rw [sm_cons, sm_cons, if_neg (show ¬ j ≤ (i : Int) by omega), if_neg (show ¬ j ≤ (i : Int) - 1 by omega)]

/-- A list of indices comes before another one. -/
def bef : List Int → List Int → Bool
  | _, [] => false
  | [], _ :: _ => true
  | a :: s, b :: t => if a = b then bef s t else decide (a < b)
theorem bef_asymm : ∀ a b : List Int, bef a b = true → bef b a = false
  | _, [], h => by simp [bef] at h
  | [], _ :: _, _ => by simp [bef]
  | a :: s, b :: t, h => by
    unfold bef at h ⊢
    by_cases e : a = b
    · rw [if_pos e] at h
      rw [if_pos e.symm]
      exact bef_asymm s t h
    · rw [if_neg e] at h
      rw [if_neg (fun q => e q.symm)]
      simp at h ⊢
      omega
theorem bef_irrefl : ∀ a : List Int, bef a a = false
  | [] => rfl
  | a :: s => by
    unfold bef
    rw [if_pos rfl]
    exact bef_irrefl s
theorem bef_total : ∀ a b : List Int, bef a b = false → bef b a = false → a = b
  | [], [], _, _ => rfl
  | [], _ :: _, h, _ => by simp [bef] at h
  | _ :: _, [], _, h => by simp [bef] at h
  | a :: s, b :: t, h, k => by
    unfold bef at h k
    by_cases e : a = b
    · rw [if_pos e] at h
      rw [if_pos e.symm] at k
      rw [e, bef_total s t h k]
    · rw [if_neg e] at h
      rw [if_neg (fun q => e q.symm)] at k
      simp at h k
      omega
theorem cont_sorted : ∀ (l : List Pc) (i : Nat) (l0 l1 : Int), (cont l i l0 l1).Pairwise (fun a b => bef a.1 b.1 = true)
  | [], i, l0, l1 => List.Pairwise.nil
  | p :: r, i, l0, l1 => by
    rw [cont_cons, List.pairwise_append]
    refine ⟨?_, cont_sorted r (i + 1) l0 l1, fun a ha b hb => ?_⟩
    · split
      · exact List.Pairwise.nil
      · rw [List.pairwise_cons, List.pairwise_map]
        refine ⟨fun b hb => ?_, (cont_sorted r (i + 1) _ _).imp (fun {a b} h => ?_)⟩
        · obtain ⟨q, hq, rfl⟩ := List.mem_map.1 hb
          obtain ⟨j, S, e, _⟩ := cont_head _ _ _ _ _ hq
          simp [bef, e]
        · simp only [bef, if_true]
          exact h
    · obtain ⟨j, S, e, h1, _⟩ := cont_head _ _ _ _ _ hb
      have : ∃ T, a.1 = (i : Int) :: T := by
        split at ha
        · simp at ha
        · rw [List.mem_cons] at ha
          rcases ha with rfl | ha
          · exact ⟨[], rfl⟩
          · obtain ⟨q, _, rfl⟩ := List.mem_map.1 ha
            exact ⟨q.1, rfl⟩
      obtain ⟨T, hT⟩ := this
      rw [hT, e]
      unfold bef
      rw [if_neg (by omega)]
      simp
      omega
theorem updQ0 (st q : List Int × Int) : updQ [] 0 st q = if st.2 < q.2 then q else st := by
  unfold updQ upd
  rw [List.nil_append, Int.zero_add]
theorem fold_first : ∀ (L : List (List Int × Int)) (st : List Int × Int), L.Pairwise (fun a b => bef a.1 b.1 = true) →
    (L.foldl (updQ [] 0) st = st ∧ ∀ q ∈ L, q.2 ≤ st.2) ∨ (L.foldl (updQ [] 0) st ∈ L ∧ st.2 < (L.foldl (updQ [] 0) st).2 ∧ ∀ p ∈ L, p.2 ≤ (L.foldl (updQ [] 0) st).2 ∧ (p.2 = (L.foldl (updQ [] 0) st).2 → p = L.foldl (updQ [] 0) st ∨ bef (L.foldl (updQ [] 0) st).1 p.1 = true))
  | [], st, _ => .inl ⟨rfl, fun q hq => by simp at hq⟩
  | q :: L, st, h => by
    rw [List.pairwise_cons] at h
    rw [List.foldl_cons, updQ0]
    have ih := fold_first L (if st.2 < q.2 then q else st) h.2
    generalize L.foldl (updQ [] 0) (if st.2 < q.2 then q else st) = res at ih
    by_cases hlt : st.2 < q.2
    · rw [if_pos hlt] at ih
      right
      rcases ih with ⟨rfl, h2⟩ | ⟨h1, h2, h3⟩
      · refine ⟨List.mem_cons_self .., hlt, fun p hp => ?_⟩
        rw [List.mem_cons] at hp
        rcases hp with rfl | hp
        · exact ⟨Int.le_refl _, fun _ => .inl rfl⟩
        · exact ⟨h2 p hp, fun _ => .inr (h.1 p hp)⟩
      · refine ⟨List.mem_cons_of_mem _ h1, by omega, fun p hp => ?_⟩
        rw [List.mem_cons] at hp
        rcases hp with rfl | hp
        · exact ⟨by omega, fun e => by omega⟩
        · exact h3 p hp
    · rw [if_neg hlt] at ih
      rcases ih with ⟨rfl, h2⟩ | ⟨h1, h2, h3⟩
      · left
        refine ⟨rfl, fun p hp => ?_⟩
        rw [List.mem_cons] at hp
        rcases hp with rfl | hp
        · omega
        · exact h2 p hp
      · right
        refine ⟨List.mem_cons_of_mem _ h1, h2, fun p hp => ?_⟩
        rw [List.mem_cons] at hp
        rcases hp with rfl | hp
        · exact ⟨by omega, fun e => by omega⟩
        · exact h3 p hp
/-- THE LAW OF THE BEST LOAD. -/
theorem best_spec (l : List Pc) (W V : Int) (hok : l.all okP = true) (hW : 0 ≤ W) (hV : 0 ≤ V) :
    ∃ s, sm l (-1) (bestF l W V) = some s ∧ s.w ≤ W ∧ s.v ≤ V ∧ ∀ S t, sm l (-1) S = some t → t.w ≤ W → t.v ≤ V → t.x ≤ s.x ∧ (t.x = s.x → S = bestF l W V ∨ bef (bestF l W V) S = true) := by
  have hm := mem_cont l hok l.length 0 (by omega) (Nat.zero_le _) W V
  rw [List.drop_zero, show (((0 : Nat) : Int) - 1) = -1 from rfl] at hm
  rw [best_fold W V hok]
  have hf := fold_first (cont l 0 W V) ([], 0) (cont_sorted l 0 W V)
  generalize (cont l 0 W V).foldl (updQ [] 0) ([], 0) = res at hf
  rcases hf with ⟨rfl, h2⟩ | ⟨h1, h2, h3⟩
  · refine ⟨zeroP, rfl, hW, hV, fun S t hS h4 h5 => ?_⟩
    by_cases hne : S = []
    · subst hne
      simp [sm] at hS
      subst hS
      exact ⟨Int.le_refl _, fun _ => .inl rfl⟩
    · have := h2 _ ((hm S t.x).2 ⟨hne, t, hS, h4, h5, rfl⟩)
      refine ⟨this, fun _ => .inr ?_⟩
      cases S with
      | nil => exact absurd rfl hne
      | cons a b => rfl
  · obtain ⟨R, x⟩ := res
    obtain ⟨hne, s, hs, h4, h5, h6⟩ := (hm R x).1 h1
    simp only at h2 h3 h6 ⊢
    refine ⟨s, hs, h4, h5, fun S t hS h7 h8 => ?_⟩
    by_cases hn : S = []
    · subst hn
      simp [sm] at hS
      subst hS
      simp only [zeroP]
      exact ⟨by omega, fun e => by omega⟩
    · obtain ⟨h9, h10⟩ := h3 _ ((hm S t.x).2 ⟨hn, t, hS, h7, h8, rfl⟩)
      simp only at h9 h10
      refine ⟨by omega, fun e => ?_⟩
      rcases h10 (by omega) with q | q
      · injection q with q _
        exact .inl q
      · exact .inr q
theorem sumF_some {l : List Pc} {S : List Int} {s : Pc} (hc : checkF l 0 0 = 0) (h : sm l (-1) S = some s) : sumF l S = (s, 0) := by
  rw [sumF, if_neg (by simp [hc]), sumGo_some l S (-1) ⟨0, 0, 0⟩ s h]
  rw [show (⟨0, 0, 0⟩ : Pc) = zeroP from rfl, zero_plusP]
theorem sumF_err {l : List Pc} {S : List Int} (hc : checkF l 0 0 = 0) (h : sm l (-1) S = none) : (sumF l S).2 ≠ 0 := by
  rw [sumF, if_neg (by simp [hc])]
  exact sumGo_none l S (-1) _ h
theorem check00 {l : List Pc} {W V : Int} (h : checkF l W V = 0) : checkF l 0 0 = 0 := by
  obtain ⟨h16, _, _, hok⟩ := checkF_ok h
  exact checkF_of h16 ⟨by decide, by decide⟩ ⟨by decide, by decide⟩ hok
theorem best_law {l : List Pc} {W V : Int} (h : checkF l W V = 0) : ∃ s, sumF l (bestR l W V) = (s, 0) ∧ s.w ≤ W ∧ s.v ≤ V ∧
    ∀ S t, sumF l S = (t, 0) → t.w ≤ W → t.v ≤ V → t.x ≤ s.x ∧ (t.x = s.x → bef S (bestR l W V) = false) := by
  obtain ⟨h16, hW, hV, hok⟩ := checkF_ok h
  obtain ⟨s, h1, h2, h3, h4⟩ := best_spec l W V hok hW.1 hV.1
  have hb : bestR l W V = bestF l W V := by rw [bestR, if_pos h]
  rw [hb]
  refine ⟨s, sumF_some (check00 h) h1, h2, h3, fun S t hS h5 h6 => ?_⟩
  cases hm : sm l (-1) S with
  | none =>
    have := sumF_err (check00 h) hm
    rw [hS] at this
    exact absurd rfl this
  | some t' =>
    have e := sumF_some (check00 h) hm
    rw [hS] at e
    injection e with e _
    subst e
    obtain ⟨h7, h8⟩ := h4 S t hm h5 h6
    refine ⟨h7, fun e => ?_⟩
    rcases h8 e with q | q
    · rw [q]; exact bef_irrefl _
    · exact bef_asymm _ _ q
end Go.Proofs.Ytdnodloinlijaaa
