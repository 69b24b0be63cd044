/- The plain law of moves and takes: what lies where. -/
import Derived.Test.YtknijmhhlfooaaaAwake
namespace Go.Proofs.Ytknijmhhlfooaaa
open Go.RowKit
set_option linter.unusedVariables false
set_option linter.unusedSimpArgs false

theorem flat_set (bays : List (List Pc)) (i : Nat) (hi : i < bays.length) (L : List Pc) : ((bays.set i L).flatten ++ bays.getD i []).Perm (bays.flatten ++ L) := by
  induction bays generalizing i with
  | nil => simp at hi
  | cons a r ih =>
    cases i with
    | zero =>
      simp only [List.set_cons_zero, List.flatten_cons, List.getD_cons_zero]
      have h1 : (L ++ r.flatten ++ a).Perm (a ++ (L ++ r.flatten)) := List.perm_append_comm
      refine h1.trans ?_
      rw [List.append_assoc]
      exact (List.perm_append_left_iff a).2 List.perm_append_comm
    | succ i =>
      simp only [List.set_cons_succ, List.flatten_cons, List.getD_cons_succ, List.append_assoc]
      exact (List.perm_append_left_iff a).2 (ih i (by simpa using hi))
theorem flat_drop {bays : List (List Pc)} {b : Nat} (hb : b < bays.length) {D : List Pc} {x : Pc} (h : bays.getD b [] = D ++ [x]) : ((bays.set b D).flatten ++ [x]).Perm bays.flatten := by
  have h1 := flat_set bays b hb D
  rw [h] at h1
  have h2 : ((bays.set b D).flatten ++ [x] ++ D).Perm (bays.flatten ++ D) := by
    refine List.Perm.trans ?_ h1
    rw [List.append_assoc]
    exact (List.perm_append_left_iff _).2 List.perm_append_comm
  exact (List.perm_append_right_iff D).1 h2
theorem flat_add {bays : List (List Pc)} {b : Nat} (hb : b < bays.length) (x : Pc) : (bays.set b (bays.getD b [] ++ [x])).flatten.Perm (bays.flatten ++ [x]) := by
  have h1 := flat_set bays b hb (bays.getD b [] ++ [x])
  have h2 : (bays.flatten ++ (bays.getD b [] ++ [x])).Perm ((bays.flatten ++ [x]) ++ bays.getD b []) := by
    rw [List.append_assoc]
    exact (List.perm_append_left_iff _).2 List.perm_append_comm
  exact (List.perm_append_right_iff _).1 (h1.trans h2)

theorem roomTo_pos {cap : Int} {bays : List (List Pc)} {b : Nat} (a : Nat) (ha : a ≤ bays.length) (h : 0 < roomTo cap bays b a) : ∃ i, i < a ∧ hasRoom cap bays b i = true := by
  induction a with
  | zero => simp [roomTo] at h
  | succ a ih =>
    rw [roomTo] at h
    by_cases hr : hasRoom cap bays b a = true
    · exact ⟨a, by omega, hr⟩
    · have : (if a = b then (0 : Int) else cap - ((bays.getD a []).length : Int)) ≤ 0 := by
        simp only [hasRoom, Bool.and_eq_true, decide_eq_true_eq] at hr
        split
        · omega
        · rename_i hab
          have : ¬ ((bays.getD a []).length : Int) < cap := fun h => hr ⟨hab, h⟩
          omega
      obtain ⟨i, h1, h2⟩ := ih (by omega) (by omega)
      exact ⟨i, by omega, h2⟩
theorem firstRoom_of_pos {cap : Int} {bays : List (List Pc)} {b : Nat} (h : 0 < roomTo cap bays b bays.length) : ∃ i, firstRoom cap bays b = some i := by
  obtain ⟨i, h1, h2⟩ := roomTo_pos _ (Nat.le_refl _) h
  unfold firstRoom
  rw [← Option.isSome_iff_exists, List.find?_isSome]
  exact ⟨i, List.mem_range.2 h1, h2⟩

theorem roomTo_move {cap : Int} {bays : List (List Pc)} {b i : Nat} (hb : b < bays.length) (hi : i < bays.length) (hib : i ≠ b) (a : Nat) (ha : a ≤ bays.length) :
    roomTo cap (moveTo bays b i) b a = roomTo cap bays b a - (if i < a then 1 else 0) := by
  induction a with
  | zero => simp [roomTo]
  | succ a ih =>
    rw [roomTo, roomTo, ih (by omega)]
    by_cases hab : a = b
    · subst hab
      simp only [if_true]
      by_cases h1 : i < a
      · rw [if_pos h1, if_pos (by omega)]; omega
      · rw [if_neg h1, if_neg (by omega)]; omega
    · simp only [if_neg hab]
      by_cases hai : a = i
      · subst hai
        rw [getD_moveTo_i hi, List.length_append, if_neg (by omega), if_pos (by omega)]
        simp only [List.length_cons, List.length_nil]
        omega
      · rw [getD_moveTo_o hab hai]
        by_cases h1 : i < a
        · rw [if_pos h1, if_pos (by omega)]; omega
        · rw [if_neg h1, if_neg (by omega)]; omega

structure Moved (cap : Int) (bays : List (List Pc)) (b j : Nat) (nb : List (List Pc)) : Prop where
  len : nb.length = bays.length
  at_b : nb.getD b [] = (bays.getD b []).take ((bays.getD b []).length - j)
  perm : nb.flatten.Perm bays.flatten
  room : roomTo cap nb b bays.length = roomTo cap bays b bays.length - j
  pre : ∀ i, i ≠ b → bays.getD i [] <+: nb.getD i []

theorem moves_spec {cap : Int} {bays : List (List Pc)} {b : Nat} (hb : b < bays.length) (j : Nat) (hj : j ≤ (bays.getD b []).length) (hr : (j : Int) ≤ roomTo cap bays b bays.length) : Moved cap bays b j (movesF cap bays b j) := by
  induction j with
  | zero => exact ⟨rfl, by simp [movesF], List.Perm.refl _, by simp [movesF], fun i _ => List.prefix_rfl⟩
  | succ j ih =>
    have M := ih (by omega) (by omega)
    rw [movesF]
    generalize movesF cap bays b j = nb at M ⊢
    have hl := M.len
    have hroom := M.room
    obtain ⟨i, hi⟩ := firstRoom_of_pos (cap := cap) (bays := nb) (b := b) (by rw [hl]; omega)
    obtain ⟨h1, h2, h3, _⟩ := firstRoom_some hi
    have hbn : b < nb.length := by omega
    have hne : nb.getD b [] ≠ [] := fun e => by
      have := M.at_b
      rw [e] at this
      have := congrArg List.length this
      rw [List.length_take, List.length_nil] at this
      omega
    obtain ⟨D, x, hD⟩ := snoc_of hne
    have he : moveF cap nb b = moveTo nb b i := by unfold moveF; rw [hi]
    rw [he]
    have hlast : (nb.getD b []).getLastD (.empty, 0) = x := by rw [hD, List.getLastD_concat]
    have hdl : (nb.getD b []).dropLast = D := by rw [hD, List.dropLast_concat]
    refine ⟨by simp [moveTo, hl], ?_, ?_, ?_, ?_⟩
    · rw [getD_moveTo_b hbn h2, M.at_b, List.dropLast_eq_take, List.take_take, List.length_take]
      congr 1
      omega
    · refine List.Perm.trans ?_ M.perm
      refine List.Perm.trans ?_ (flat_drop hbn hD)
      unfold moveTo
      rw [hlast, hdl]
      have e1 : (nb.set b D).getD i [] = nb.getD i [] := getD_set_ne (Ne.symm h2)
      have := flat_add (bays := nb.set b D) (b := i) (by simpa using h1) x
      rw [e1] at this
      exact this
    · have := roomTo_move (cap := cap) hbn h1 h2 bays.length (by omega)
      rw [this, hroom, if_pos (by omega)]
      omega
    · intro q hq
      refine (M.pre q hq).trans ?_
      by_cases hqi : q = i
      · subst hqi
        rw [getD_moveTo_i h1]
        exact List.prefix_append _ _
      · rw [getD_moveTo_o hq hqi]
        exact List.prefix_rfl

/-- Where an item lies first. -/
theorem find_cases (it : ByteArray) (bays : List (List Pc)) (a : Nat) : ((findF it a bays) = (0, 0, false) ∧ ∀ x ∈ bays.flatten, x.1 ≠ it) ∨
    ∃ i k, i < bays.length ∧ k < (bays.getD i []).length ∧ findF it a bays = (((a + i : Nat) : Int), ((bays.getD i []).length : Int) - 1 - k, true) ∧ (∃ x, (bays.getD i [])[k]? = some x ∧ x.1 = it) ∧
      (∀ j, j < i → ∀ x ∈ bays.getD j [], x.1 ≠ it) ∧ ∀ j, j < k → ∀ x, (bays.getD i [])[j]? = some x → x.1 ≠ it := by
  induction bays generalizing a with
  | nil => exact .inl ⟨rfl, by simp⟩
  | cons l r ih =>
    rw [findF]
    cases hf : l.findIdx? (fun x => decide (x.1 = it)) with
    | some k =>
      rw [List.findIdx?_eq_some_iff_getElem] at hf
      obtain ⟨hk, he, hlt⟩ := hf
      refine .inr ⟨0, k, by simp, by simpa using hk, by simp, ⟨l[k], by simp [hk], by simpa using he⟩, fun j hj => by omega, fun j hj x hx => ?_⟩
      simp only [List.getD_cons_zero] at hx
      obtain ⟨hjl, rfl⟩ := List.getElem?_eq_some_iff.1 hx
      have := hlt j hj
      simpa using this
    | none =>
      rw [List.findIdx?_eq_none_iff] at hf
      have hl : ∀ x ∈ l, x.1 ≠ it := fun x hx => by have := hf x hx; simpa using this
      rcases ih (a + 1) with ⟨h1, h2⟩ | ⟨i, k, hi, hk, he, hx, hj, hjk⟩
      · refine .inl ⟨h1, fun x hx => ?_⟩
        rw [List.flatten_cons, List.mem_append] at hx
        rcases hx with hx | hx
        · exact hl x hx
        · exact h2 x hx
      · refine .inr ⟨i + 1, k, by simpa using hi, by simpa using hk, ?_, by simpa using hx, fun j hji x hxj => ?_, by simpa using hjk⟩
        · rw [he]
          simp
          omega
        · cases j with
          | zero => exact hl x (by simpa using hxj)
          | succ j => exact hj j (by omega) x (by simpa using hxj)

theorem getD_mem {bays : List (List Pc)} {i k : Nat} {x : Pc} (hi : i < bays.length) (hk : (bays.getD i [])[k]? = some x) : x ∈ bays.flatten := by
  have : bays.getD i [] = bays[i] := by simp [List.getD_eq_getElem?_getD, hi]
  rw [this] at hk
  exact List.mem_flatten.2 ⟨bays[i], List.getElem_mem hi, List.mem_of_getElem? hk⟩
theorem getD_of_mem {bays : List (List Pc)} {x : Pc} (h : x ∈ bays.flatten) : ∃ i, i < bays.length ∧ x ∈ bays.getD i [] := by
  obtain ⟨l, hl, hx⟩ := List.mem_flatten.1 h
  obtain ⟨i, hi, rfl⟩ := List.getElem_of_mem hl
  exact ⟨i, hi, by simpa [List.getD_eq_getElem?_getD, hi] using hx⟩

/-- Put, as a function. -/
def putF (cap puts : Int) (bays : List (List Pc)) (b : Int) (it : ByteArray) : Int × Int × List (List Pc) :=
  if b < 0 ∨ (bays.length : Int) ≤ b then (9, puts, bays)
  else if it.toList = [] then (6, puts, bays)
  else if (find bays it).2.2 = true then (7, puts, bays)
  else if cap ≤ ((bays.getD b.toNat []).length : Int) then (12, puts, bays)
  else (0, puts + 1, bays.set b.toNat (bays.getD b.toNat [] ++ [(it, puts)]))
/-- Take, as a function. -/
def takeF (cap : Int) (bays : List (List Pc)) (it : ByteArray) : Int × Int × List (List Pc) :=
  if (find bays it).2.2 = false then (0, 8, bays)
  else if roomTo cap bays (find bays it).1.toNat bays.length < (find bays it).2.1 then (0, 12, bays)
  else ((find bays it).2.1, 0, takeTop (movesF cap bays (find bays it).1.toNat (find bays it).2.1.toNat) (find bays it).1.toNat)

/-- What lies in a yard: ag is the items in the order in which they were put. -/
structure Ages (puts : Int) (bays : List (List Pc)) (ag : List Pc) : Prop where
  perm : bays.flatten.Perm ag
  sorted : ag.Pairwise (fun x y => x.2 < y.2)
  lt : ∀ x ∈ ag, x.2 < puts
  names : ag.Pairwise (fun x y => x.1 ≠ y.1)
  full : ∀ x ∈ ag, x.1.toList ≠ []

theorem Ages.empty (n : Nat) : Ages 0 (List.replicate n []) [] := ⟨by simp, .nil, by simp, .nil, by simp⟩

theorem Fits.set {cap puts p' : Int} {bays : List (List Pc)} (h : Fits cap puts bays) {b : Nat} (L : List Pc) (hL : (L.length : Int) ≤ cap) (hp : 0 ≤ p') : Fits cap p' (bays.set b L) := by
  refine ⟨by simpa using h.n1, by simpa using h.n2, h.c1, h.c2, fun i hi => ?_, hp⟩
  have hi' : i < bays.length := by simpa using hi
  by_cases e : b = i
  · subst e
    rw [getD_set_eq hi']
    exact hL
  · rw [getD_set_ne e]
    exact h.len i hi'

/-- Put keeps the order; a put item is the youngest. -/
theorem put_ages {cap puts : Int} {bays : List (List Pc)} {ag : List Pc} (b : Int) (it : ByteArray) (hf : Fits cap puts bays) (h : Ages puts bays ag) :
    Fits cap (putF cap puts bays b it).2.1 (putF cap puts bays b it).2.2 ∧ (putF cap puts bays b it).2.2.length = bays.length ∧
    ((putF cap puts bays b it).1 = 0 ∧ (putF cap puts bays b it).2.1 = puts + 1 ∧ Ages (putF cap puts bays b it).2.1 (putF cap puts bays b it).2.2 (ag ++ [(it, puts)]) ∨
      (putF cap puts bays b it).1 ≠ 0 ∧ (putF cap puts bays b it).2.1 = puts ∧ (putF cap puts bays b it).2.2 = bays) := by
  unfold putF
  split
  · exact ⟨hf, rfl, .inr ⟨by simp, rfl, rfl⟩⟩
  · rename_i hb
    split
    · exact ⟨hf, rfl, .inr ⟨by simp, rfl, rfl⟩⟩
    · rename_i hi
      split
      · exact ⟨hf, rfl, .inr ⟨by simp, rfl, rfl⟩⟩
      · rename_i hx
        split
        · exact ⟨hf, rfl, .inr ⟨by simp, rfl, rfl⟩⟩
        · rename_i hc
          have hb' : b.toNat < bays.length := by omega
          have p0 := hf.p0
          refine ⟨hf.set _ (by simp only [List.length_append, List.length_cons, List.length_nil]; omega) (by simp only; omega), by simp, .inl ⟨rfl, rfl, ?_⟩⟩
          have hno : ∀ x ∈ bays.flatten, x.1 ≠ it := by
            rcases find_cases it bays 0 with ⟨_, h2⟩ | ⟨i, k, _, _, he, _⟩
            · exact h2
            · exact absurd (by rw [find, he]) hx
          refine ⟨(flat_add hb' _).trans ((List.perm_append_right_iff _).2 h.perm), ?_, ?_, ?_, ?_⟩
          · rw [List.pairwise_append]
            exact ⟨h.sorted, List.pairwise_singleton _ _, fun x hx y hy => by simp at hy; subst hy; exact h.lt x hx⟩
          · intro x hx
            rcases List.mem_append.1 hx with hx | hx
            · have := h.lt x hx
              show x.2 < puts + 1
              omega
            · simp at hx
              subst hx
              show puts < puts + 1
              omega
          · rw [List.pairwise_append]
            exact ⟨h.names, List.pairwise_singleton _ _, fun x hx y hy => by simp at hy; subst hy; exact hno x (h.perm.mem_iff.2 hx)⟩
          · intro x hx
            rcases List.mem_append.1 hx with hx | hx
            · exact h.full x hx
            · simp at hx
              subst hx
              exact hi

/-- The oldest item. -/
theorem oldF_all (puts : Int) (l : List Pc) : ∀ acc : Pc, (l.foldl oldStep acc = acc ∨ l.foldl oldStep acc ∈ l) ∧ (l.foldl oldStep acc).2 ≤ acc.2 ∧ ∀ y ∈ l, (l.foldl oldStep acc).2 ≤ y.2 := by
  induction l with
  | nil => intro acc; exact ⟨.inl rfl, Int.le_refl _, by simp⟩
  | cons x r ih =>
    intro acc
    rw [List.foldl_cons]
    obtain ⟨h1, h2, h3⟩ := ih (oldStep acc x)
    have hle : (oldStep acc x).2 ≤ acc.2 ∧ (oldStep acc x).2 ≤ x.2 := by
      unfold oldStep
      split <;> constructor <;> omega
    refine ⟨?_, by omega, fun y hy => ?_⟩
    · rcases h1 with h1 | h1
      · rw [h1]
        unfold oldStep
        split
        · exact .inr (by simp)
        · exact .inl rfl
      · exact .inr (List.mem_cons_of_mem _ h1)
    · rcases List.mem_cons.1 hy with rfl | hy
      · omega
      · exact h3 y hy
theorem old_nil {puts : Int} {bays : List (List Pc)} (h : Ages puts bays []) : oldF puts bays.flatten = (⟨#[]⟩, puts) := by
  have : bays.flatten = [] := List.Perm.eq_nil h.perm
  rw [this]
  rfl
theorem old_cons {puts : Int} {bays : List (List Pc)} {x : Pc} {ag : List Pc} (h : Ages puts bays (x :: ag)) : oldF puts bays.flatten = x := by
  have hx : x ∈ bays.flatten := h.perm.mem_iff.2 (by simp)
  obtain ⟨h1, h2, h3⟩ := oldF_all puts bays.flatten (⟨#[]⟩, puts)
  have hlt := h.lt x (by simp)
  have hle := h3 x hx
  unfold oldF
  generalize bays.flatten.foldl oldStep (⟨#[]⟩, puts) = o at h1 h2 h3 hle
  rcases h1 with h1 | h1
  · rw [h1] at hle
    simp only at hle
    omega
  · have ho : o ∈ x :: ag := h.perm.mem_iff.1 h1
    rcases List.mem_cons.1 ho with rfl | ho
    · rfl
    · have := (List.pairwise_cons.1 h.sorted).1 o ho
      omega

theorem pair_mid {α : Type} {R : α → α → Prop} {l1 l2 : List α} {x : α} (h : (l1 ++ x :: l2).Pairwise R) : (l1 ++ l2).Pairwise R := by
  rw [List.pairwise_append] at h ⊢
  obtain ⟨h1, h2, h3⟩ := h
  exact ⟨h1, (List.pairwise_cons.1 h2).2, fun a ha b hb => h3 a ha b (List.mem_cons_of_mem _ hb)⟩
theorem Ages.name_inj {puts : Int} {bays : List (List Pc)} {ag : List Pc} (h : Ages puts bays ag) {x y : Pc} (hx : x ∈ ag) (hy : y ∈ ag) (e : x.1 = y.1) : x = y := by
  have := h.names
  clear h
  induction ag with
  | nil => simp at hx
  | cons a r ih =>
    rw [List.pairwise_cons] at this
    rcases List.mem_cons.1 hx with rfl | hx' <;> rcases List.mem_cons.1 hy with rfl | hy'
    · rfl
    · exact absurd e (this.1 y hy')
    · exact absurd e.symm (this.1 x hx')
    · exact ih hx' hy' this.2

/-- Take: it fails, or takes one item out. -/
theorem take_ages {cap puts : Int} {bays : List (List Pc)} {ag : List Pc} (it : ByteArray) (hf : Fits cap puts bays) (h : Ages puts bays ag) :
    Fits cap puts (takeF cap bays it).2.2 ∧ (takeF cap bays it).2.2.length = bays.length ∧
    ((takeF cap bays it).2.1 ≠ 0 ∧ (takeF cap bays it).2.2 = bays ∧ (takeF cap bays it).1 = 0 ∧ ((∀ x ∈ ag, x.1 ≠ it) ∧ (takeF cap bays it).2.1 = 8 ∨ (∃ x ∈ ag, x.1 = it) ∧ (takeF cap bays it).2.1 = 12) ∨
      (takeF cap bays it).2.1 = 0 ∧ ∃ l1 x l2, ag = l1 ++ x :: l2 ∧ x.1 = it ∧ Ages puts (takeF cap bays it).2.2 (l1 ++ l2)) := by
  rcases find_cases it bays 0 with ⟨h1, h2⟩ | ⟨i, k, hi, hk, he, ⟨x, hx, hxi⟩, _⟩
  · have e : takeF cap bays it = (0, 8, bays) := by
      unfold takeF
      rw [show find bays it = _ from h1]
      simp
    rw [e]
    exact ⟨hf, rfl, .inl ⟨by simp, rfl, rfl, .inl ⟨fun x hx => h2 x (h.perm.mem_iff.2 hx), rfl⟩⟩⟩
  · have hxm := getD_mem hi hx
    have hxa := h.perm.mem_iff.1 hxm
    have e : takeF cap bays it = if roomTo cap bays i bays.length < ((bays.getD i []).length : Int) - 1 - k then (0, 12, bays) else (((bays.getD i []).length : Int) - 1 - k, 0, takeTop (movesF cap bays i ((bays.getD i []).length - 1 - k)) i) := by
      unfold takeF
      rw [show find bays it = _ from he]
      have e1 : (((0 + i : Nat) : Int)).toNat = i := by omega
      have e2 : (((bays.getD i []).length : Int) - 1 - k).toNat = (bays.getD i []).length - 1 - k := by omega
      simp only [e1, e2]
      rw [if_neg (by simp)]
    rw [e]
    split
    · exact ⟨hf, rfl, .inl ⟨by simp, rfl, rfl, .inr ⟨⟨x, hxa, hxi⟩, rfl⟩⟩⟩
    · rename_i hroom
      have M := moves_spec (cap := cap) hi ((bays.getD i []).length - 1 - k) (by omega) (by omega)
      have hfm := hf.moves hi ((bays.getD i []).length - 1 - k)
      generalize movesF cap bays i ((bays.getD i []).length - 1 - k) = nb at M hfm
      have hat : nb.getD i [] = (bays.getD i []).take (k + 1) := by
        rw [M.at_b]
        congr 1
        omega
      have hsn : nb.getD i [] = (bays.getD i []).take k ++ [x] := by
        rw [hat, List.take_add_one, hx]
        rfl
      have hin : i < nb.length := by rw [M.len]; exact hi
      have htop : takeTop nb i = nb.set i ((bays.getD i []).take k) := by rw [takeTop, hsn, List.dropLast_concat]
      obtain ⟨l1, l2, hag⟩ := List.append_of_mem hxa
      refine ⟨?_, ?_, .inr ⟨rfl, l1, x, l2, hag, hxi, ?_⟩⟩
      · show Fits cap puts (takeTop nb i)
        rw [htop]
        refine hfm.set _ ?_ hf.p0
        have := hf.len i hi
        rw [List.length_take]
        omega
      · simp [takeTop, M.len]
      · show Ages puts (takeTop nb i) (l1 ++ l2)
        rw [htop]
        have hp : ((nb.set i ((bays.getD i []).take k)).flatten ++ [x]).Perm ag := ((flat_drop hin hsn).trans M.perm).trans h.perm
        have hp2 : ((nb.set i ((bays.getD i []).take k)).flatten ++ [x]).Perm ((l1 ++ l2) ++ [x]) := by
          refine hp.trans ?_
          rw [hag, List.append_assoc]
          exact (List.perm_append_left_iff l1).2 (List.perm_append_comm (l₁ := [x]) (l₂ := l2))
        have hs := h.sorted
        have hn := h.names
        rw [hag] at hs hn
        refine ⟨(List.perm_append_right_iff [x]).1 hp2, pair_mid hs, fun y hy => ?_, pair_mid hn, fun y hy => ?_⟩
        · refine h.lt y ?_
          rw [hag]
          rcases List.mem_append.1 hy with hy | hy
          · exact List.mem_append_left _ hy
          · exact List.mem_append_right _ (List.mem_cons_of_mem _ hy)
        · refine h.full y ?_
          rw [hag]
          rcases List.mem_append.1 hy with hy | hy
          · exact List.mem_append_left _ hy
          · exact List.mem_append_right _ (List.mem_cons_of_mem _ hy)
end Go.Proofs.Ytknijmhhlfooaaa
