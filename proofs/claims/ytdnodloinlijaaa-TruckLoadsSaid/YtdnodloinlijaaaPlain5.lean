/- The plain law of the trips: what TruckLoads asks. -/
import Derived.Test.YtdnodloinlijaaaTripsW
namespace Go.Proofs.Ytdnodloinlijaaa
open Go.RowKit
set_option linter.unusedVariables false
set_option linter.unusedSimpArgs false

def Good (l : List Pc) (W V : Int) : List (List Int) → List (Pc × Int) → Option Int → Prop
  | [], L, _ => ∀ q ∈ L, ¬ (q.1.w ≤ W ∧ q.1.v ≤ V ∧ 0 < q.1.x)
  | t :: T, L, bd => t ≠ [] ∧ (∃ s, sumF l t = (s, 0) ∧ s.w ≤ W ∧ s.v ≤ V ∧ (∀ b, bd = some b → s.x ≤ b) ∧ Good l W V T (L.filter (fun q => decide (q.2 ∉ t))) (some s.x)) ∧ (∀ x ∈ t, ∃ q ∈ L, q.2 = x) ∧ t.Pairwise (· < ·)
theorem Good_nil (l : List Pc) (W V : Int) (L : List (Pc × Int)) (bd : Option Int) : Good l W V [] L bd = ∀ q ∈ L, ¬ (q.1.w ≤ W ∧ q.1.v ≤ V ∧ 0 < q.1.x) := rfl
theorem Good_cons (l : List Pc) (W V : Int) (t : List Int) (T : List (List Int)) (L : List (Pc × Int)) (bd : Option Int) : Good l W V (t :: T) L bd = (t ≠ [] ∧ (∃ s, sumF l t = (s, 0) ∧ s.w ≤ W ∧ s.v ≤ V ∧ (∀ b, bd = some b → s.x ≤ b) ∧ Good l W V T (L.filter (fun q => decide (q.2 ∉ t))) (some s.x)) ∧ (∀ x ∈ t, ∃ q ∈ L, q.2 = x) ∧ t.Pairwise (· < ·)) := rfl
theorem good_trips (l : List Pc) (W V : Int) (hc : checkF l W V = 0) : ∀ (m : Nat) (L : List (Pc × Int)) (bd : Option Int), List.Sublist L (withIdx l) → L.length < m →
    (∀ b, bd = some b → ∀ M, List.Sublist M L → (sumM M).w ≤ W → (sumM M).v ≤ V → (sumM M).x ≤ b) → Good l W V (tripsF W V m L) L bd
  | 0, L, bd, _, h, _ => by omega
  | m + 1, L, bd, hs, hlt, hbd => by
    obtain ⟨h16, hW, hV, hok⟩ := checkF_ok hc
    have hokL : (firsts L).all okP = true := firsts_all (by rw [firsts_withIdx]; exact hok) (fun q hq => hs.subset hq)
    have hI : Incr L := incr_sub (withIdx_incr l) hs
    obtain ⟨s, b1, b2, b3, b4⟩ := best_spec (firsts L) W V hokL hW.1 hV.1
    obtain ⟨⟨M, m1, m2, m3⟩, m4⟩ := split_sm0 b1
    have hopt : ∀ M', List.Sublist M' L → (sumM M').w ≤ W → (sumM M').v ≤ V → (sumM M').x ≤ s.x := fun M' h1 h2 h3 => by
      obtain ⟨ld, d1, _⟩ := sub_sm0 h1
      exact (b4 ld _ d1 h2 h3).1
    rw [tripsF_succ]
    by_cases e : bestF (firsts L) W V = []
    · rw [if_pos e, Good_nil]
      intro q hq ⟨h1, h2, h3⟩
      rw [e] at b1
      simp [sm] at b1
      subst b1
      have hq1 : sumM [q] = q.1 := plusP_zero _
      have := hopt [q] (List.singleton_sublist.2 hq) (by rw [hq1]; exact h1) (by rw [hq1]; exact h2)
      rw [hq1] at this
      simp only [zeroP] at this
      omega
    · rw [if_neg e, Good_cons]
      have hrest := split_rest L 0 (bestF (firsts L) W V) hI
      have hlt2 : (split 0 L (bestF (firsts L) W V)).2.length < L.length := by
        obtain ⟨j, S, e2, hj⟩ := best_head hokL e
        rw [e2]
        exact split_lt L 0 j S (Nat.zero_le _) (by rw [flen] at hj; omega)
      have hsub2 : List.Sublist (split 0 L (bestF (firsts L) W V)).2 L := by
        rw [hrest]
        exact List.filter_sublist
      have hne : (split 0 L (bestF (firsts L) W V)).1 ≠ [] := by
        rw [m4]
        exact fun q => e (List.map_eq_nil_iff.1 q)
      have ih := good_trips l W V hc m (split 0 L (bestF (firsts L) W V)).2 (some s.x) (hsub2.trans hs) (by omega) (fun b hb M' h1 h2 h3 => by
        obtain rfl := Option.some.inj hb
        exact hopt M' (h1.trans hsub2) h2 h3)
      rw [← hrest]
      refine ⟨hne, ⟨s, ?_, b2, b3, fun b hb => ?_, ih⟩, fun x hx => split_mem L 0 _ x hx, ?_⟩
      · rw [← m2]
        have := sumF_some (check00 hc) (sub_load (m1.trans hs))
        rw [m3] at this
        exact this
      · rw [← m3]
        exact hbd b hb M m1 (by rw [m3]; exact b2) (by rw [m3]; exact b3)
      · rw [← m2, List.pairwise_map]
        exact hI.sublist m1
theorem good_all (l : List Pc) (W V : Int) (hc : checkF l W V = 0) : Good l W V (tripsR l W V) (withIdx l) none := by
  rw [tripsR, if_pos hc]
  exact good_trips l W V hc _ _ none (List.Sublist.refl _) (by rw [withIdx_len]; omega) (fun b hb => by cases hb)
/-- The flags tell what is no more left. -/
def Flags (n : Nat) (uf : List Bool) (L : List (Pc × Int)) : Prop := ∀ j, j < n → (uf.getD j true = false ↔ ∃ q ∈ L, q.2 = (j : Int))
theorem flags_start (l : List Pc) : Flags l.length (List.replicate l.length false) (withIdx l) := fun j hj => by
  refine ⟨fun _ => ?_, fun _ => by simp [List.getD, hj]⟩
  obtain ⟨p, hp⟩ := getE hj
  refine ⟨(p, (j : Int)), ?_, rfl⟩
  unfold withIdx
  exact List.mem_map.2 ⟨(p, j), by rw [List.mem_iff_getElem?]; exact ⟨j, by simp [hp]⟩, rfl⟩
theorem flags_next {n : Nat} {uf uf' : List Bool} {L : List (Pc × Int)} {t : List Int} (h : Flags n uf L) (h' : ∀ j, j < n → uf'.getD j true = (decide ((j : Int) ∈ t) || uf.getD j true)) : Flags n uf' (L.filter (fun q => decide (q.2 ∉ t))) := fun j hj => by
  rw [h' j hj, Bool.or_eq_false_iff, decide_eq_false_iff_not, h j hj]
  constructor
  · rintro ⟨h1, q, hq, e⟩
    exact ⟨q, List.mem_filter.2 ⟨hq, by rw [e]; simpa using h1⟩, e⟩
  · rintro ⟨q, hq, e⟩
    obtain ⟨h1, h2⟩ := List.mem_filter.1 hq
    rw [e] at h2
    exact ⟨by simpa using h2, q, h1, e⟩
theorem setT_getD {uf : List Bool} {n j : Nat} (hn : n < uf.length) : (uf.set n true).getD j true = if n = j then true else uf.getD j true := by
  simp only [List.getD_eq_getElem?_getD, List.getElem?_set]
  by_cases e : n = j
  · subst e
    simp [hn]
  · simp [e]
theorem take_not {t : List Int} (h : t.Pairwise (· < ·)) {i : Nat} {y : Int} (hy : t[i]? = some y) : y ∉ t.take i := by
  intro hm
  obtain ⟨j, hj⟩ := List.mem_iff_getElem?.1 hm
  have hjl := (List.getElem?_eq_some_iff.1 hj).1
  rw [List.length_take] at hjl
  rw [List.getElem?_take_of_lt (by omega)] at hj
  obtain ⟨h1, e1⟩ := List.getElem?_eq_some_iff.1 hy
  obtain ⟨h2, e2⟩ := List.getElem?_eq_some_iff.1 hj
  have := List.pairwise_iff_getElem.1 h j i h2 h1 (by omega)
  omega
theorem take_succ_mem {t : List Int} {i : Nat} {y : Int} (hy : t[i]? = some y) (x : Int) : x ∈ t.take (i + 1) ↔ x = y ∨ x ∈ t.take i := by
  rw [List.take_add_one, hy]
  simp [or_comm]
theorem in_load {l : List Pc} {L : List (Pc × Int)} (hs : List.Sublist L (withIdx l)) {q : Pc × Int} (hq : q ∈ L) : ∃ j : Nat, q.2 = (j : Int) ∧ l[j]? = some q.1 := by
  have := hs.subset hq
  unfold withIdx at this
  obtain ⟨z, hz, rfl⟩ := List.mem_map.1 this
  exact ⟨z.2, rfl, by
    obtain ⟨k, hk⟩ := List.mem_iff_getElem?.1 hz
    simp at hk
    obtain ⟨p, hp, e⟩ := hk
    rw [← e]
    exact hp⟩
end Go.Proofs.Ytdnodloinlijaaa
