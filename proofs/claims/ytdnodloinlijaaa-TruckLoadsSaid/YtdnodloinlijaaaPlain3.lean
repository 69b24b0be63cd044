/- The plain law: loads are sublists; the search of what is left. -/
import Derived.Test.YtdnodloinlijaaaPlain2
namespace Go.Proofs.Ytdnodloinlijaaa
open Go.RowKit
set_option linter.unusedVariables false
set_option linter.unusedSimpArgs false

def sumM : List (Pc × Int) → Pc
  | [] => zeroP
  | q :: r => plusP q.1 (sumM r)
def Incr (L : List (Pc × Int)) : Prop := L.Pairwise (fun a b => a.2 < b.2)
theorem split_nil : ∀ (L : List (Pc × Int)) (i : Nat), (split i L []).1 = []
  | [], i => rfl
  | q :: r, i => by
    rw [split_cons, if_neg (by simp)]
    exact split_nil r (i + 1)
theorem sm_head {l : List Pc} {last : Int} {ld : List Int} {s : Pc} (h : sm l last ld = some s) : ld.head? ≠ some last := by
  cases ld with
  | nil => simp
  | cons j r =>
    intro e
    obtain rfl : j = last := Option.some.inj e
    rw [sm_cons] at h
    split at h
    · cases h
    · rw [if_pos (Int.le_refl _)] at h
      cases h
theorem firsts_getD {L0 : List (Pc × Int)} {i : Nat} {q : Pc × Int} (h : L0[i]? = some q) : (firsts L0).getD i default = q.1 := getD_at (by simp [firsts, h])
theorem flen (L : List (Pc × Int)) : (firsts L).length = L.length := by simp [firsts]
/-- What is valid in a tail: nothing, or its head first, or later. -/
theorem sm_cases {L0 : List (Pc × Int)} {i : Nat} {q : Pc × Int} (hq : L0[i]? = some q) {ld : List Int} {s : Pc} (h : sm (firsts L0) ((i : Int) - 1) ld = some s) :
    (∃ r s', ld = (i : Int) :: r ∧ sm (firsts L0) (i : Int) r = some s' ∧ s = plusP q.1 s') ∨ (ld.head? ≠ some (i : Int) ∧ sm (firsts L0) (i : Int) ld = some s) := by
  cases ld with
  | nil => exact .inr ⟨by simp, h⟩
  | cons j r =>
    by_cases e : j = (i : Int)
    · subst e
      left
      rw [sm_cons] at h
      split at h
      · cases h
      · rw [if_neg (by omega), Int.toNat_natCast, firsts_getD hq] at h
        obtain ⟨s', h1, h2⟩ := Option.map_eq_some_iff.1 h
        exact ⟨r, s', rfl, h1, h2.symm⟩
    · right
      refine ⟨fun e' => e (Option.some.inj e'), ?_⟩
      rw [sm_cons] at h ⊢
      split at h
      · cases h
      rename_i h1
      rw [if_neg h1]
      split at h
      · cases h
      rename_i h2
      rw [if_neg (by omega)]
      exact h
theorem sm_end {L0 : List (Pc × Int)} {ld : List Int} {s : Pc} (h : sm (firsts L0) ((L0.length : Int) - 1) ld = some s) : ld = [] := by
  cases ld with
  | nil => rfl
  | cons j r =>
    rw [sm_cons, flen] at h
    split at h
    · cases h
    · rw [if_pos (by omega)] at h
      cases h
theorem split_sm (L0 : List (Pc × Int)) : ∀ (m i : Nat), L0.length - i = m → i ≤ L0.length → ∀ (ld : List Int) (s : Pc), sm (firsts L0) ((i : Int) - 1) ld = some s →
    (∃ M, List.Sublist M (L0.drop i) ∧ M.map (·.2) = (split i (L0.drop i) ld).1 ∧ sumM M = s) ∧ (split i (L0.drop i) ld).1 = ld.map (fun j => (seconds L0).getD j.toNat 0) := by
  intro m
  induction m with
  | zero =>
    intro i h1 h2 ld s h
    have : i = L0.length := by omega
    subst this
    have := sm_end h
    subst this
    simp [sm] at h
    subst h
    rw [List.drop_length]
    exact ⟨⟨[], List.Sublist.slnil, rfl, rfl⟩, rfl⟩
  | succ m ih =>
    intro i h1 h2 ld s h
    obtain ⟨q, hq⟩ : ∃ q, L0[i]? = some q := ⟨_, List.getElem?_eq_getElem (by omega)⟩
    have hd : L0.drop i = q :: L0.drop (i + 1) := by
      obtain ⟨hk, e⟩ := List.getElem?_eq_some_iff.1 hq
      rw [List.drop_eq_getElem_cons hk, e]
    have IH := ih (i + 1) (by omega) (by omega)
    rw [show (((i + 1 : Nat) : Int) - 1) = (i : Int) from by omega] at IH
    rcases sm_cases hq h with ⟨r, s', rfl, h3, rfl⟩ | ⟨h3, h4⟩
    · obtain ⟨⟨M, a, b, c⟩, e⟩ := IH r s' h3
      rw [hd, split_cons, if_pos (show ((i : Int) :: r).head? = some (i : Int) from rfl)]
      refine ⟨⟨q :: M, a.cons_cons q, ?_, by rw [sumM, c]⟩, ?_⟩
      · rw [List.map_cons, b]; rfl
      · show q.2 :: (split (i + 1) (L0.drop (i + 1)) r).1 = _
        rw [e, List.map_cons]
        congr 1
        simp [seconds, List.getD, hq]
    · obtain ⟨⟨M, a, b, c⟩, e⟩ := IH ld s h4
      rw [hd, split_cons, if_neg h3]
      exact ⟨⟨M, a.cons q, b, c⟩, e⟩
theorem sub_sm (L0 : List (Pc × Int)) : ∀ (m i : Nat), L0.length - i = m → i ≤ L0.length → ∀ M, List.Sublist M (L0.drop i) → ∃ ld, sm (firsts L0) ((i : Int) - 1) ld = some (sumM M) ∧ (split i (L0.drop i) ld).1 = M.map (·.2) := by
  intro m
  induction m with
  | zero =>
    intro i h1 h2 M hM
    have : i = L0.length := by omega
    subst this
    rw [List.drop_length] at hM ⊢
    have := List.sublist_nil.1 hM
    subst this
    exact ⟨[], rfl, rfl⟩
  | succ m ih =>
    intro i h1 h2 M hM
    obtain ⟨q, hq⟩ : ∃ q, L0[i]? = some q := ⟨_, List.getElem?_eq_getElem (by omega)⟩
    have hd : L0.drop i = q :: L0.drop (i + 1) := by
      obtain ⟨hk, e⟩ := List.getElem?_eq_some_iff.1 hq
      rw [List.drop_eq_getElem_cons hk, e]
    have IH := ih (i + 1) (by omega) (by omega)
    rw [show (((i + 1 : Nat) : Int) - 1) = (i : Int) from by omega] at IH
    rw [hd] at hM ⊢
    cases hM with
    | cons _ hM =>
      obtain ⟨ld, a, b⟩ := IH M hM
      refine ⟨ld, sm_last a (by omega), ?_⟩
      rw [split_cons, if_neg (sm_head a)]
      exact b
    | cons_cons _ hM =>
      rename_i M'
      obtain ⟨ld, a, b⟩ := IH M' hM
      refine ⟨(i : Int) :: ld, ?_, ?_⟩
      · rw [sm_cons, if_neg (by rw [flen]; omega), if_neg (by omega), Int.toNat_natCast, firsts_getD hq, a]
        rfl
      · rw [split_cons, if_pos (show ((i : Int) :: ld).head? = some (i : Int) from rfl), List.map_cons]
        show q.2 :: (split (i + 1) (L0.drop (i + 1)) ld).1 = _
        rw [b]
theorem split_sm0 {L : List (Pc × Int)} {ld : List Int} {s : Pc} (h : sm (firsts L) (-1) ld = some s) :
    (∃ M, List.Sublist M L ∧ M.map (·.2) = (split 0 L ld).1 ∧ sumM M = s) ∧ (split 0 L ld).1 = ld.map (fun j => (seconds L).getD j.toNat 0) := by
  have := split_sm L L.length 0 (by omega) (Nat.zero_le _) ld s h
  rwa [List.drop_zero] at this
theorem sub_sm0 {L M : List (Pc × Int)} (h : List.Sublist M L) : ∃ ld, sm (firsts L) (-1) ld = some (sumM M) ∧ (split 0 L ld).1 = M.map (·.2) := by
  have := sub_sm L L.length 0 (by omega) (Nat.zero_le _) M (by rwa [List.drop_zero])
  rwa [List.drop_zero] at this
theorem sm_range (l : List Pc) : ∀ (S : List Int) (last : Int) (s : Pc), sm l last S = some s → ∀ j ∈ S, 0 ≤ j ∧ j < l.length
  | [], last, s, h, j, hj => by simp at hj
  | a :: r, last, s, h, j, hj => by
    rw [sm_cons] at h
    split at h
    · cases h
    rename_i h1
    split at h
    · cases h
    obtain ⟨s', h2, _⟩ := Option.map_eq_some_iff.1 h
    rw [List.mem_cons] at hj
    rcases hj with rfl | hj
    · omega
    · exact sm_range l r a s' h2 j hj
theorem bef_map {f : Int → Int} {P : Int → Prop} (hf : ∀ a b, P a → P b → a < b → f a < f b) : ∀ s t : List Int, (∀ a ∈ s, P a) → (∀ b ∈ t, P b) → bef (s.map f) (t.map f) = bef s t
  | [], [], _, _ => rfl
  | [], _ :: _, _, _ => rfl
  | _ :: _, [], _, _ => rfl
  | a :: s, b :: t, hs, ht => by
    have pa := hs a (by simp)
    have pb := ht b (by simp)
    rw [List.map_cons, List.map_cons, bef, bef]
    by_cases e : a = b
    · subst e
      rw [if_pos rfl, if_pos rfl]
      exact bef_map hf s t (fun x hx => hs x (List.mem_cons_of_mem _ hx)) (fun x hx => ht x (List.mem_cons_of_mem _ hx))
    · have h1 := hf a b pa pb
      have h2 := hf b a pb pa
      by_cases hlt : a < b
      · have := h1 hlt
        rw [if_neg e, if_neg (by omega), decide_eq_true hlt, decide_eq_true this]
      · have := h2 (by omega)
        rw [if_neg e, if_neg (by omega), decide_eq_false hlt, decide_eq_false (by omega)]
theorem incr_get {L : List (Pc × Int)} (h : Incr L) {a b : Int} (ha : 0 ≤ a ∧ a < L.length) (hb : 0 ≤ b ∧ b < L.length) (hab : a < b) : (seconds L).getD a.toNat 0 < (seconds L).getD b.toNat 0 := by
  have hal : a.toNat < L.length := by omega
  have hbl : b.toNat < L.length := by omega
  have := List.pairwise_iff_getElem.1 h a.toNat b.toNat hal hbl (by omega)
  simpa [seconds, List.getD, hal, hbl] using this
/-- The order of loads is that of the first indices. -/
theorem split_bef {L : List (Pc × Int)} (hL : Incr L) {a b : List Int} {s t : Pc} (ha : sm (firsts L) (-1) a = some s) (hb : sm (firsts L) (-1) b = some t) : bef (split 0 L a).1 (split 0 L b).1 = bef a b := by
  rw [(split_sm0 ha).2, (split_sm0 hb).2]
  refine bef_map (P := fun j => 0 ≤ j ∧ j < L.length) (fun x y hx hy => incr_get hL hx hy) a b (fun j hj => ?_) (fun j hj => ?_)
  · have := sm_range _ _ _ _ ha j hj
    rwa [flen] at this
  · have := sm_range _ _ _ _ hb j hj
    rwa [flen] at this
theorem split_mem : ∀ (L : List (Pc × Int)) (i : Nat) (ld : List Int) (x : Int), x ∈ (split i L ld).1 → ∃ q ∈ L, q.2 = x
  | [], i, ld, x, h => by simp [split] at h
  | q :: r, i, ld, x, h => by
    rw [split_cons] at h
    split at h
    · rw [List.mem_cons] at h
      rcases h with rfl | h
      · exact ⟨q, by simp, rfl⟩
      · obtain ⟨p, hp, e⟩ := split_mem r _ _ x h
        exact ⟨p, List.mem_cons_of_mem _ hp, e⟩
    · obtain ⟨p, hp, e⟩ := split_mem r _ _ x h
      exact ⟨p, List.mem_cons_of_mem _ hp, e⟩
/-- What is left is what is in no trip. -/
theorem split_rest : ∀ (L : List (Pc × Int)) (i : Nat) (ld : List Int), Incr L → (split i L ld).2 = L.filter (fun q => decide (q.2 ∉ (split i L ld).1))
  | [], i, ld, _ => rfl
  | q :: r, i, ld, h => by
    rw [Incr, List.pairwise_cons] at h
    rw [split_cons]
    split
    · show (split (i + 1) r ld.tail).2 = List.filter (fun p => decide (p.2 ∉ q.2 :: (split (i + 1) r ld.tail).1)) (q :: r)
      rw [List.filter_cons_of_neg (by simp), split_rest r (i + 1) ld.tail h.2]
      apply List.filter_congr
      intro p hp
      have := h.1 p hp
      have hne : ¬ p.2 = q.2 := by omega
      simp only [List.mem_cons, hne, false_or]
    · show q :: (split (i + 1) r ld).2 = List.filter (fun p => decide (p.2 ∉ (split (i + 1) r ld).1)) (q :: r)
      rw [List.filter_cons_of_pos, ← split_rest r (i + 1) ld h.2]
      rw [decide_eq_true_iff]
      intro hm
      obtain ⟨p, hp, e⟩ := split_mem r _ _ _ hm
      have := h.1 p hp
      omega
theorem incr_sub {L M : List (Pc × Int)} (h : Incr L) (hs : List.Sublist M L) : Incr M := h.sublist hs
theorem withIdx_incr (l : List Pc) : Incr (withIdx l) := by
  unfold Incr
  rw [List.pairwise_iff_getElem]
  intro i j hi hj hij
  simp [withIdx]
  omega
theorem idxs_getD {n : Nat} {j : Int} (h : 0 ≤ j ∧ j < n) : (idxs n).getD j.toNat 0 = j := by
  have : j.toNat < n := by omega
  simp [idxs, List.getD, this]
  omega
theorem map_self {f : Int → Int} : ∀ (S : List Int), (∀ j ∈ S, f j = j) → S.map f = S
  | [], _ => rfl
  | a :: s, h => by rw [List.map_cons, h a (by simp), map_self s (fun j hj => h j (List.mem_cons_of_mem _ hj))]
/-- The trip of all parcels is the load. -/
theorem split_all {l : List Pc} {S : List Int} {s : Pc} (h : sm l (-1) S = some s) : (split 0 (withIdx l) S).1 = S := by
  have h' := h
  rw [← firsts_withIdx l] at h'
  rw [(split_sm0 h').2, seconds_withIdx]
  exact map_self S (fun j hj => idxs_getD (sm_range _ _ _ _ h j hj))
/-- A sublist of all parcels is a load. -/
theorem sub_load {l : List Pc} {M : List (Pc × Int)} (h : List.Sublist M (withIdx l)) : sm l (-1) (M.map (·.2)) = some (sumM M) := by
  obtain ⟨ld, h1, h2⟩ := sub_sm0 h
  rw [firsts_withIdx] at h1
  rw [split_all h1] at h2
  rw [← h2]
  exact h1
theorem tripsF_more (W V : Int) : ∀ (n : Nat) (L : List (Pc × Int)), (firsts L).all okP = true → L.length ≤ n → tripsF W V (n + 1) L = tripsF W V n L
  | 0, L, _, h => by
    have : L = [] := List.eq_nil_of_length_eq_zero (by omega)
    subst this
    rw [tripsF_succ, if_pos]
    · rfl
    · rw [best_fold W V (by rfl)]
      rfl
  | n + 1, L, hok, h => by
    rw [tripsF_succ W V (n + 1) L, tripsF_succ W V n L]
    by_cases e : bestF (firsts L) W V = []
    · rw [if_pos e, if_pos e]
    · rw [if_neg e, if_neg e]
      congr 1
      obtain ⟨j, S, e2, hj⟩ := best_head hok e
      have hlt : (split 0 L (bestF (firsts L) W V)).2.length < L.length := by
        rw [e2]
        exact split_lt L 0 j S (Nat.zero_le _) (by rw [flen] at hj; omega)
      exact tripsF_more W V n _ (firsts_all hok (split_sub L 0 _)) (by omega)
end Go.Proofs.Ytdnodloinlijaaa
