/- The yard in memory: the yard's cells, the row of piles, each pile's slice, its items; what a change of one pile keeps. -/
import Derived.Test.YtknijmhhlfooaaaPush
namespace Go.Proofs.Ytknijmhhlfooaaa
open Go.RowKit
set_option linter.unusedVariables false
set_option linter.unusedSimpArgs false

abbrev Pc := ByteArray × Int
def flat (l : List Pc) : List Value := l.flatMap fun x => [.string x.1, .int .i64 x.2]
theorem flat_length (l : List Pc) : (flat l).length = l.length * 2 := by
  induction l with
  | nil => rfl
  | cons a l ih => simp only [flat, List.flatMap_cons, List.length_append, List.length_cons, List.length_nil] at *; omega
theorem flat_append (l m : List Pc) : flat (l ++ m) = flat l ++ flat m := by simp [flat]
theorem flat_get (l : List Pc) (k : Nat) (h : k < l.length) : (flat l)[k * 2]? = some (.string (l[k]'h).1) ∧ (flat l)[k * 2 + 1]? = some (.int .i64 (l[k]'h).2) := by
  induction l generalizing k with
  | nil => simp at h
  | cons a l ih =>
    cases k with
    | zero => exact ⟨rfl, rfl⟩
    | succ k =>
      have := ih k (by simpa using h)
      have e1 : (k + 1) * 2 = (k * 2) + 1 + 1 := by omega
      have e2 : (k + 1) * 2 + 1 = (k * 2 + 1) + 1 + 1 := by omega
      rw [e1]
      exact this

/-- Block k holds cells of a type of the yard's own. -/
def isT (w : World) (k : Nat) : Prop := ∃ c t fr, At w k (.cells c t fr) ∧ (t = 62 ∨ t = 63 ∨ t = 66 ∨ t = 68)
/-- Of what was there only yard's blocks in F have turned. -/
def MT (F : Nat → Prop) (w w' : World) : Prop := Mod (fun k => F k ∧ isT w k) w w'

theorem MT.refl (F : Nat → Prop) (w : World) : MT F w w := Mod.refl _ _
theorem MT.of0 {F : Nat → Prop} {w w' : World} (h : Mod (fun _ => False) w w') : MT F w w' := h.mono (fun _ _ h => h.elim)
theorem MT.mono {F G : Nat → Prop} {w w' : World} (h : MT F w w') (hFG : ∀ k, k < w.heap.size → F k → G k) : MT G w w' := Mod.mono h (fun k hk hf => ⟨hFG k hk hf.1, hf.2⟩)
theorem MT.trans {F : Nat → Prop} {a b c : World} (h : MT F a b) (k : MT F b c) : MT F a c := by
  classical
  refine ⟨k.os.trans h.os, k.tape.trans h.tape, k.output.trans h.output, Nat.le_trans h.size k.size, fun i hi hs => ?_⟩
  have e := h.block i hi hs
  refine (k.block i (Nat.lt_of_lt_of_le hi h.size) (fun hk => hs ⟨hk.1, ?_⟩)).trans e
  obtain ⟨c', t, fr, h1, h2⟩ := hk.2
  exact ⟨c', t, fr, by unfold At at *; rw [← e]; exact h1, h2⟩
/-- F may also hold new blocks. -/
theorem MT.trans_new {F : Nat → Prop} {a b c : World} (h : MT F a b) (k : MT (fun i => F i ∨ a.heap.size ≤ i) b c) : MT F a c := by
  refine ⟨k.os.trans h.os, k.tape.trans h.tape, k.output.trans h.output, Nat.le_trans h.size k.size, fun i hi hs => ?_⟩
  have e := h.block i hi hs
  refine (k.block i (Nat.lt_of_lt_of_le hi h.size) (fun hk => hs ⟨hk.1.resolve_right (Nat.not_le.2 hi), ?_⟩)).trans e
  obtain ⟨c', t, fr, h1, h2⟩ := hk.2
  exact ⟨c', t, fr, by unfold At at *; rw [← e]; exact h1, h2⟩
theorem MT.at_ {F : Nat → Prop} {w w' : World} {b : Nat} {c : Array Value} {t : TypeId} {fr : Nat × Nat} (h : At w b (.cells c t fr)) (m : MT F w w') (ht : t ≠ 62 ∧ t ≠ 63 ∧ t ≠ 66 ∧ t ≠ 68) : At w' b (.cells c t fr) :=
  At.mod h m (fun hk => by
    obtain ⟨c', t', fr', h1, h2⟩ := hk.2
    have := At.inj h h1
    injection this with _ e _
    subst e
    rcases h2 with h2 | h2 | h2 | h2
    · exact ht.1 h2
    · exact ht.2.1 h2
    · exact ht.2.2.1 h2
    · exact ht.2.2.2 h2)
theorem MT.far {F : Nat → Prop} {w w' : World} {b : Nat} {o : Obj} (h : At w b o) (m : MT F w w') (hF : ¬ F b) : At w' b o := At.mod h m (fun hk => hF hk.1)

structure YIn (F : Nat → Prop) (w : World) (y : Nat) (cap puts : Int) (bays : List (List Pc)) (B c : Nat) (ps : Nat → Nat) (vs : Nat → Value) : Prop where
  hy : At w y (.cells #[.slice (some ⟨B, 0, none⟩) bays.length c, .int .i64 cap, .int .i64 puts] 62 (0, 0))
  fy : F y
  fB : F B
  hB : ∃ arr, At w B (.cells arr 63 (0, 0)) ∧ ∀ i, i < bays.length → arr[i]? = some (.pointer (some ⟨ps i, 0, none⟩))
  fp : ∀ i, i < bays.length → F (ps i)
  hp : ∀ i, i < bays.length → At w (ps i) (.cells #[vs i] 66 (0, 0))
  ho : ∀ i, i < bays.length → w.ownsRow 0 68 2 (vs i) (bays.getD i []).length (flat (bays.getD i []))
  fv : ∀ i, i < bays.length → ∀ g, (vs i).ownBlock = some g → F g
  dp : ∀ i j, i < bays.length → j < bays.length → i ≠ j → ps i ≠ ps j
  dv : ∀ i j, i < bays.length → j < bays.length → i ≠ j → (vs i).ownBlock = none ∨ (vs i).ownBlock ≠ (vs j).ownBlock

def YardAt (F : Nat → Prop) (w : World) (y : Nat) (cap puts : Int) (bays : List (List Pc)) : Prop := ∃ B c ps vs, YIn F w y cap puts bays B c ps vs

theorem own_same {w w' : World} {base : Nat} {e : TypeId} {size n : Nat} {v : Value} {xs : List Value} (h : w.ownsRow base e size v n xs) (hb : ∀ g, v.ownBlock = some g → w'.heap[g]? = w.heap[g]?) : w'.ownsRow base e size v n xs := by
  obtain ⟨h1, h2⟩ := h
  refine ⟨h1, ?_⟩
  rcases h2 with h0 | ⟨g, cap, cur, rfl, hg, hh, r⟩
  · exact .inl h0
  · exact .inr ⟨g, cap, cur, rfl, hg, (hb g rfl).trans hh, r⟩
theorem own_at {w : World} {base : Nat} {e : TypeId} {size n : Nat} {v : Value} {xs : List Value} (h : w.ownsRow base e size v n xs) {g : Nat} (hg : v.ownBlock = some g) : ∃ cur, At w g (.cells cur e (0, 0)) := by
  rcases h.2 with ⟨rfl, _⟩ | ⟨g', cap, cur, rfl, _, hh, _⟩
  · simp [Value.ownBlock] at hg
  · have : g' = g := by simpa [Value.ownBlock] using hg
    subst this
    exact ⟨cur, hh⟩
theorem own_val {w : World} {base : Nat} {e : TypeId} {size n : Nat} {v : Value} {xs : List Value} (h : w.ownsRow base e size v n xs) : ∃ A c, v = .slice A n c := by
  rcases h.2 with ⟨rfl, rfl⟩ | ⟨g, cap, cur, rfl, _⟩
  · exact ⟨none, 0, rfl⟩
  · exact ⟨_, cap, rfl⟩

section
variable {F : Nat → Prop} {w w' : World} {y : Nat} {cap puts : Int} {bays : List (List Pc)} {B c : Nat} {ps : Nat → Nat} {vs : Nat → Value}

/-- A change that keeps all of the yard's blocks keeps the yard. -/
theorem YIn.keep (h : YIn F w y cap puts bays B c ps vs) {S : Nat → Prop} (m : Mod S w w') (hS : ∀ k, F k ∨ k = B → k < w.heap.size → isT w k → ¬ S k) : YIn F w' y cap puts bays B c ps vs := by
  have same : ∀ {b c' t}, (F b ∨ b = B) → At w b (.cells c' t (0, 0)) → (t = 62 ∨ t = 63 ∨ t = 66 ∨ t = 68) → At w' b (.cells c' t (0, 0)) := fun hb ha ht =>
    At.mod ha m (hS _ hb ha.lt ⟨_, _, _, ha, ht⟩)
  obtain ⟨arr, hB, hp⟩ := h.hB
  refine ⟨same (.inl h.fy) h.hy (by simp), h.fy, h.fB, ⟨arr, same (.inr rfl) hB (by simp), hp⟩, h.fp, fun i hi => same (.inl (h.fp i hi)) (h.hp i hi) (by simp), fun i hi => ?_, h.fv, h.dp, h.dv⟩
  refine own_same (h.ho i hi) (fun g hg => ?_)
  obtain ⟨cur, hc⟩ := own_at (h.ho i hi) hg
  exact m.block g hc.lt (hS g (.inl (h.fv i hi g hg)) hc.lt ⟨_, _, _, hc, by simp⟩)
theorem YIn.mod0 (h : YIn F w y cap puts bays B c ps vs) (m : Mod (fun _ => False) w w') : YIn F w' y cap puts bays B c ps vs := h.keep m (fun _ _ _ _ h => h)
theorem YIn.mono {G : Nat → Prop} (h : YIn F w y cap puts bays B c ps vs) (hG : ∀ k, k < w.heap.size → F k → G k) : YIn G w y cap puts bays B c ps vs :=
  ⟨h.hy, hG _ h.hy.lt h.fy, (by obtain ⟨arr, hB, _⟩ := h.hB; exact hG _ hB.lt h.fB), h.hB, fun i hi => hG _ (h.hp i hi).lt (h.fp i hi), h.hp, h.ho, fun i hi g hg => by
    obtain ⟨cur, hc⟩ := own_at (h.ho i hi) hg
    exact hG g hc.lt (h.fv i hi g hg), h.dp, h.dv⟩

/-- The kinds of a yard's blocks tell them apart. -/
theorem YIn.ne_y (h : YIn F w y cap puts bays B c ps vs) {i : Nat} (hi : i < bays.length) : ps i ≠ y := fun e => by
  have h1 := h.hp i hi
  rw [e] at h1
  have := At.inj h.hy h1
  injection this with _ e _
  cases e
theorem YIn.own_ne_p (h : YIn F w y cap puts bays B c ps vs) {i j : Nat} (hi : i < bays.length) (hj : j < bays.length) : (vs i).ownBlock ≠ some (ps j) := fun e => own_ne (h.ho i hi) (h.hp j hj) (by decide) e.symm
theorem YIn.own_ne_y (h : YIn F w y cap puts bays B c ps vs) {i : Nat} (hi : i < bays.length) : (vs i).ownBlock ≠ some y := fun e => own_ne (h.ho i hi) h.hy (by decide) e.symm

/-- One pile has turned. -/
theorem YIn.change (h : YIn F w y cap puts bays B c ps vs) {i : Nat} (hi : i < bays.length) {v' : Value} {L : List Pc}
    (m : Mod (fun k => k = ps i ∨ (vs i).ownBlock = some k) w w') (hp : At w' (ps i) (.cells #[v'] 66 (0, 0))) (ho : w'.ownsRow 0 68 2 v' L.length (flat L))
    (hv : v'.ownBlock = (vs i).ownBlock ∨ ∃ g, v'.ownBlock = some g ∧ w.heap.size ≤ g) :
    YIn (fun k => F k ∨ w.heap.size ≤ k) w' y cap puts (bays.set i L) B c ps (fun j => if j = i then v' else vs j) ∧ MT F w w' := by
  have kB : ∀ {b cc t}, At w b (.cells cc t (0, 0)) → t ≠ 66 → t ≠ 68 → At w' b (.cells cc t (0, 0)) := fun {b cc t} hb h6 h8 => by
    refine At.mod hb m (fun hk => ?_)
    rcases hk with hk | hk
    · subst hk
      have := At.inj hb (h.hp i hi)
      injection this with _ e _
      exact h6 e
    · exact own_ne (h.ho i hi) hb (fun e => h8 e.symm) hk.symm
  have hl : (bays.set i L).length = bays.length := by simp
  have vlt : ∀ j, j < bays.length → ∀ g, (vs j).ownBlock = some g → g < w.heap.size := fun j hj g hg => by
    obtain ⟨cur, hc⟩ := own_at (h.ho j hj) hg
    exact hc.lt
  obtain ⟨arr, hB, hpt⟩ := h.hB
  refine ⟨⟨?_, .inl h.fy, .inl h.fB, ⟨arr, kB hB (by decide) (by decide), fun j hj => hpt j (by rw [hl] at hj; exact hj)⟩, fun j hj => .inl (h.fp j (by rw [hl] at hj; exact hj)), ?_, ?_, ?_, fun a b ha hb => h.dp a b (by rw [hl] at ha; exact ha) (by rw [hl] at hb; exact hb), ?_⟩, ?_⟩
  · rw [hl]
    exact kB h.hy (by decide) (by decide)
  · intro j hj
    rw [hl] at hj
    by_cases e : j = i
    · subst e
      simpa using hp
    · simp only [if_neg e]
      refine At.mod (h.hp j hj) m (fun hk => ?_)
      rcases hk with hk | hk
      · exact h.dp j i hj hi e hk
      · exact h.own_ne_p hi hj hk
  · intro j hj
    rw [hl] at hj
    by_cases e : j = i
    · subst e
      simp only [if_true]
      have : (bays.set j L).getD j [] = L := by simp [List.getD_eq_getElem?_getD, hj]
      rw [this]
      exact ho
    · simp only [if_neg e]
      have : (bays.set i L).getD j [] = bays.getD j [] := by simp [List.getD_eq_getElem?_getD, List.getElem?_set, Ne.symm e]
      rw [this]
      refine own_same (h.ho j hj) (fun g hg => m.block g (vlt j hj g hg) (fun hk => ?_))
      rcases hk with hk | hk
      · exact h.own_ne_p hj hi (by rw [hg, hk])
      · rcases h.dv j i hj hi e with d | d
        · rw [d] at hg; cases hg
        · exact d (by rw [hg, hk])
  · intro j hj g hg
    rw [hl] at hj
    by_cases e : j = i
    · subst e
      simp only [if_true] at hg
      rcases hv with hv | ⟨g', h1, h2⟩
      · exact .inl (h.fv j hj g (hv ▸ hg))
      · rw [h1] at hg
        cases hg
        exact .inr h2
    · simp only [if_neg e] at hg
      exact .inl (h.fv j hj g hg)
  · intro a b ha hb hab
    rw [hl] at ha hb
    by_cases e : a = i
    · subst e
      have hba : ¬ b = a := fun q => hab q.symm
      simp only [if_true, if_neg hba]
      rcases hv with hv | ⟨g', h1, h2⟩
      · rw [hv]
        exact h.dv a b ha hb hab
      · refine .inr (fun q => ?_)
        have := vlt b hb g' (by rw [← q, h1])
        omega
    · simp only [if_neg e]
      by_cases e' : b = i
      · subst e'
        simp only [if_true]
        rcases hv with hv | ⟨g', h1, h2⟩
        · rw [hv]
          exact h.dv a b ha hb hab
        · refine .inr (fun q => ?_)
          have := vlt a ha g' (by rw [q, h1])
          omega
      · simp only [if_neg e']
        exact h.dv a b ha hb hab
  · refine Mod.mono m (fun k hk hs => ?_)
    rcases hs with rfl | hs
    · exact ⟨h.fp i hi, ⟨_, _, _, h.hp i hi, by simp⟩⟩
    · obtain ⟨cur, hc⟩ := own_at (h.ho i hi) hs
      exact ⟨h.fv i hi k hs, ⟨_, _, _, hc, by simp⟩⟩
end
end Go.Proofs.Ytknijmhhlfooaaa
