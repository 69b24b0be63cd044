/- The sorter in memory: its two cells, the row of bins, each bin's items and its map. -/
import Derived.Test.YtdipncjbobhbjaaProg
import Derived.Test.YtdipncjbobhbjaaSp
import Derived.Outline
import Derived.Deep.AppendLies
import Derived.Deep.RegionLaw
import Derived.OwnWalk
import Derived.WalkSmall
import Derived.Maps.OwnSet
import Derived.StringKeys
namespace Go.Proofs.Ytdipncjbobhbjaa
open Go.RowKit Go.Maps
set_option linter.unusedVariables false
set_option linter.unusedSimpArgs false

theorem law : Keyed Try.prog 9 := string_keyed Try.underlying9
theorem zero3 (w : World) : (zeroValue 3).run Try.prog w = .ok (.int .i64 0) w := by kernel_rfl
theorem keyS {s : ByteArray} (h : s.size ≤ maxLen) : keyOf Try.prog 9 (.string s) = some (.string s.data.toList) := Go.WideMaps.keyOf_string_mk Try.underlying9 h
theorem lit_inj {s t : ByteArray} (h : Lit.string s.data.toList = Lit.string t.data.toList) : s = t := by
  injection h with h
  have := Array.toList_inj.1 h
  cases s; cases t; simp_all

/-- Block b is a map that holds just the keys of l. -/
def MapAt (w : World) (b : Nat) (l : List ByteArray) : Prop := ∃ D : DataW Unit, w.ownsMap Try.prog 9 (plainElem Try.prog 3) b l.length D ∧ Maps.size D = l.length ∧ ∀ s : ByteArray, s.size ≤ maxLen → (Maps.has D (.string s.data.toList) = true ↔ s ∈ l)

theorem MapAt.lt {w : World} {b : Nat} {l : List ByteArray} (h : MapAt w b l) : b < w.heap.size := by obtain ⟨D, h, _⟩ := h; exact h.lt
theorem MapAt.obj {w : World} {b : Nat} {l : List ByteArray} (h : MapAt w b l) : ∃ es cl, At w b (.map es cl) := by
  obtain ⟨D, ⟨es, cl, hb, _⟩, _⟩ := h
  exact ⟨es, cl, hb⟩
theorem MapAt.same {w w' : World} {b : Nat} {l : List ByteArray} (h : MapAt w b l) (hb : w'.heap[b]? = w.heap[b]?) : MapAt w' b l := by
  obtain ⟨D, ⟨es, cl, h0, h1⟩, h2⟩ := h
  exact ⟨D, ⟨es, cl, hb.trans h0, h1⟩, h2⟩
theorem MapAt.mod {S : Nat → Prop} {w w' : World} {b : Nat} {l : List ByteArray} (h : MapAt w b l) (m : Mod S w w') (hS : ¬ S b) : MapAt w' b l := h.same (m.block b h.lt hS)
theorem MapAt.made {w : World} : MapAt (w.alloc (.map #[] 0)) w.heap.size [] := ⟨_, World.ownsMap_made w _ _ _, rfl, fun s _ => by simp [Maps.has]⟩
theorem MapAt.put {w w' : World} {b : Nat} {l : List ByteArray} {D : DataW Unit} {d : DataW Unit} {it : ByteArray} (hit : it.size ≤ maxLen) (h0 : w.ownsMap Try.prog 9 (plainElem Try.prog 3) b l.length D) (h1 : Maps.size D = l.length) (h2 : ∀ s : ByteArray, s.size ≤ maxLen → (Maps.has D (.string s.data.toList) = true ↔ s ∈ l))
    (h : w'.ownsMap Try.prog 9 (plainElem Try.prog 3) b (l.length + 1) (D.put (.string it.data.toList) d)) (hn : it ∉ l) : MapAt w' b (l ++ [it]) := by
  refine ⟨_, by simpa using h, ?_, fun s hs => ?_⟩
  · rw [size_put (h0.tidy law)]
    have : Maps.has D (.string it.data.toList) = false := by
      rw [Bool.eq_false_iff]
      exact fun q => hn ((h2 it hit).1 q)
    simp [this, h1]
  · by_cases e : s = it
    · subst e
      rw [has_put_same h0.isMap (law.key (keyS hs))]
      simp
    · rw [has_put_other (fun q => e (lit_inj q)), h2 s hs]
      simp [e]

theorem run_clear {w : World} {b : Nat} {l : List ByteArray} (h : MapAt w b l) : ∃ w', (∀ ty : TypeId, (Builtin.clear_ #[62] ty #[.map (some b)]).run Try.prog w = .ok (.tuple #[]) w') ∧ MapAt w' b [] ∧ Mod (fun k => k = b) w w' := by
  obtain ⟨D, ⟨es, cl, h0, h1⟩, h2⟩ := h
  have ht : Try.prog.underlying 62 = some (.map 9 3) := Try.underlying62
  have hlt : b < w.heap.size := (Array.getElem?_eq_some_iff.1 h0).1
  refine ⟨{ w with heap := w.heap.setIfInBounds b (.map #[] cl) }, ?_, ⟨.map [], ⟨#[], cl, (MapKept.heap_set h0).1, ⟨by simp, MapKept.stamped_empty cl, by simp⟩, Nat.le_refl _, rfl⟩, rfl, fun s _ => by simp [Maps.has]⟩, ⟨rfl, rfl, rfl, by simp, fun k hk hs => (MapKept.heap_set h0).2 k hs⟩⟩
  intro ty
  simp [Builtin.clear_, run_underlying ht, MapKept.run_getObj_map h0, MapKept.run_setObj_map _ h0, Result.andThen]

theorem add_plain (g j : Nat) : (⟨g, 0, none⟩ : Addr).add j = ⟨g, j, none⟩ := by unfold Addr.add; split <;> simp_all
theorem own_ne {w : World} {base : Nat} {e : TypeId} {size n : Nat} {v : Value} {xs : List Value} {p : Nat} {cs : Array Value} {t : TypeId} {fr : Nat × Nat} (h : w.ownsRow base e size v n xs) (hp : At w p (.cells cs t fr)) (hne : e ≠ t) : some p ≠ v.ownBlock := by
  rcases h.2 with ⟨rfl, _⟩ | ⟨g', cap, cur, rfl, _, hh, _⟩
  · simp [Value.ownBlock]
  · intro he
    have : p = g' := by simpa [Value.ownBlock] using he
    subst this
    have := At.inj hp hh
    injection this with _ ht _
    exact hne ht.symm
theorem own_at {w : World} {base : Nat} {e : TypeId} {size n : Nat} {v : Value} {xs : List Value} (h : w.ownsRow base e size v n xs) {g : Nat} (hg : v.ownBlock = some g) : ∃ cur, At w g (.cells cur e (0, 0)) := by
  rcases h.2 with ⟨rfl, _⟩ | ⟨g', cap, cur, rfl, _, hh, _⟩
  · simp [Value.ownBlock] at hg
  · have : g' = g := by simpa [Value.ownBlock] using hg
    subst this
    exact ⟨cur, hh⟩
theorem own_base {w : World} {base : Nat} {e : TypeId} {size n : Nat} {v : Value} {xs : List Value} (h : w.ownsRow base e size v n xs) {g : Nat} (hg : v.ownBlock = some g) : base ≤ g := by
  rcases h.2 with ⟨rfl, _⟩ | ⟨g', cap, cur, rfl, hb, hh, _⟩
  · simp [Value.ownBlock] at hg
  · have : g' = g := by simpa [Value.ownBlock] using hg
    subst this
    exact hb
theorem own_same {w w' : World} {base : Nat} {e : TypeId} {size n : Nat} {v : Value} {xs : List Value} (h : w.ownsRow base e size v n xs) (hb : ∀ g, v.ownBlock = some g → w'.heap[g]? = w.heap[g]?) : w'.ownsRow base e size v n xs := by
  obtain ⟨h1, h2⟩ := h
  refine ⟨h1, ?_⟩
  rcases h2 with h0 | ⟨g, cap, cur, rfl, hg, hh, r⟩
  · exact .inl h0
  · exact .inr ⟨g, cap, cur, rfl, hg, (hb g rfl).trans hh, r⟩
theorem own_val {w : World} {base : Nat} {e : TypeId} {size n : Nat} {v : Value} {xs : List Value} (h : w.ownsRow base e size v n xs) : ∃ A c, v = .slice A n c := by
  rcases h.2 with ⟨rfl, rfl⟩ | ⟨g, cap, cur, rfl, _⟩
  · exact ⟨none, 0, rfl⟩
  · exact ⟨_, cap, rfl⟩
theorem ownsRow_setCell_far {w : World} {base : Nat} {e : TypeId} {size : Nat} {v : Value} {n : Nat} {xs : List Value} (h : w.ownsRow base e size v n xs) {a : Addr} (ha : ∀ k, v.ownBlock = some k → k ≠ a.block) (u : Value) : (w.setCell a u).ownsRow base e size v n xs :=
  own_same h (fun g hg => Below.heap_setCell w a u g (ha g hg))

/-- Block k is of a kind of the sorter's own. -/
def isT (w : World) (k : Nat) : Prop := (∃ c t fr, At w k (.cells c t fr) ∧ (t = 61 ∨ t = 64 ∨ t = 9)) ∨ ∃ es cl, At w k (.map es cl)
/-- Of what was there only the sorter's kinds from block B on have turned. -/
def MT (B : Nat) (w w' : World) : Prop := Mod (fun k => B ≤ k ∧ isT w k) w w'
theorem isT_iff {w w' : World} {k : Nat} (h : w'.heap[k]? = w.heap[k]?) : isT w' k ↔ isT w k := by
  unfold isT At
  rw [h]
theorem MT.refl (B : Nat) (w : World) : MT B w w := Mod.refl _ _
theorem MT.of0 {B : Nat} {w w' : World} (h : Mod (fun _ => False) w w') : MT B w w' := h.mono (fun _ _ h => h.elim)
theorem MT.trans {B : Nat} {a b c : World} (h : MT B a b) (k : MT B b c) : MT B a c := by
  refine ⟨k.os.trans h.os, k.tape.trans h.tape, k.output.trans h.output, Nat.le_trans h.size k.size, fun i hi hs => ?_⟩
  have e := h.block i hi hs
  refine (k.block i (Nat.lt_of_lt_of_le hi h.size) (fun hk => hs ⟨hk.1, (isT_iff e).1 hk.2⟩)).trans e
theorem MT.at_ {B : Nat} {w w' : World} {b : Nat} {c : Array Value} {t : TypeId} {fr : Nat × Nat} (h : At w b (.cells c t fr)) (m : MT B w w') (ht : t ≠ 61 ∧ t ≠ 64 ∧ t ≠ 9) : At w' b (.cells c t fr) :=
  At.mod h m (fun hk => by
    rcases hk.2 with ⟨c', t', fr', h1, h2⟩ | ⟨es, cl, h1⟩
    · have := At.inj h h1
      injection this with _ e _
      subst e
      rcases h2 with h2 | h2 | h2
      · exact ht.1 h2
      · exact ht.2.1 h2
      · exact ht.2.2 h2
    · have := At.inj h h1
      cases this)
theorem MT.far {B : Nat} {w w' : World} {b : Nat} {o : Obj} (h : At w b o) (m : MT B w w') (hF : b < B) : At w' b o := At.mod h m (fun hk => by omega)

structure SIn (B : Nat) (w : World) (s : Nat) (cap : Int) (bins : List Bin) (R c : Nat) (vs : Nat → Value) (ms : Nat → Nat) : Prop where
  hs : At w s (.cells #[.slice (some ⟨R, 0, none⟩) bins.length c, .int .i64 cap] 61 (0, 0))
  hc : bins.length ≤ c
  bs : B ≤ s
  bR : B ≤ R
  bm : ∀ i, i < bins.length → B ≤ ms i
  hR : ∃ arr, At w R (.cells arr 64 (0, 0)) ∧ ∀ i, i < bins.length → arr[i * 3]? = some (.string (bk bins i)) ∧ arr[i * 3 + 1]? = some (vs i) ∧ arr[i * 3 + 2]? = some (.map (some (ms i)))
  ho : ∀ i, i < bins.length → w.ownsRow B 9 1 (vs i) (bi bins i).length ((bi bins i).map .string)
  hm : ∀ i, i < bins.length → MapAt w (ms i) (bi bins i)
  dm : ∀ i j, i < bins.length → j < bins.length → i ≠ j → ms i ≠ ms j
  dv : ∀ i j, i < bins.length → j < bins.length → i ≠ j → (vs i).ownBlock = none ∨ (vs i).ownBlock ≠ (vs j).ownBlock

def SorterAt (B : Nat) (w : World) (s : Nat) (cap : Int) (bins : List Bin) : Prop := ∃ R c vs ms, SIn B w s cap bins R c vs ms

section
variable {B : Nat} {w w' : World} {s : Nat} {cap : Int} {bins : List Bin} {R c : Nat} {vs : Nat → Value} {ms : Nat → Nat}

theorem SIn.keep (h : SIn B w s cap bins R c vs ms) {S : Nat → Prop} (m : Mod S w w') (hS : ∀ k, B ≤ k → k < w.heap.size → isT w k → ¬ S k) : SIn B w' s cap bins R c vs ms := by
  have same : ∀ {b c' t}, B ≤ b → At w b (.cells c' t (0, 0)) → (t = 61 ∨ t = 64 ∨ t = 9) → At w' b (.cells c' t (0, 0)) := fun hb ha ht =>
    At.mod ha m (hS _ hb ha.lt (.inl ⟨_, _, _, ha, ht⟩))
  obtain ⟨arr, hR, hp⟩ := h.hR
  refine ⟨same h.bs h.hs (by simp), h.hc, h.bs, h.bR, h.bm, ⟨arr, same h.bR hR (by simp), hp⟩, fun i hi => ?_, fun i hi => ?_, h.dm, h.dv⟩
  · refine own_same (h.ho i hi) (fun g hg => ?_)
    obtain ⟨cur, hc⟩ := own_at (h.ho i hi) hg
    exact m.block g hc.lt (hS g (own_base (h.ho i hi) hg) hc.lt (.inl ⟨_, _, _, hc, by simp⟩))
  · exact (h.hm i hi).mod m (hS _ (h.bm i hi) (h.hm i hi).lt (.inr (h.hm i hi).obj))
theorem SIn.mod0 (h : SIn B w s cap bins R c vs ms) (m : Mod (fun _ => False) w w') : SIn B w' s cap bins R c vs ms := h.keep m (fun _ _ _ _ h => h)
theorem SorterAt.mod0 (h : SorterAt B w s cap bins) (m : Mod (fun _ => False) w w') : SorterAt B w' s cap bins := by
  obtain ⟨R, c, vs, ms, h⟩ := h
  exact ⟨_, _, _, _, h.mod0 m⟩
theorem SorterAt.keep (h : SorterAt B w s cap bins) {S : Nat → Prop} (m : Mod S w w') (hS : ∀ k, B ≤ k → k < w.heap.size → isT w k → ¬ S k) : SorterAt B w' s cap bins := by
  obtain ⟨R, c, vs, ms, h⟩ := h
  exact ⟨_, _, _, _, h.keep m hS⟩

theorem cells_ne {b b' : Nat} {cs cs' : Array Value} {t t' : TypeId} {fr fr' : Nat × Nat} (h : At w b (.cells cs t fr)) (h' : At w b' (.cells cs' t' fr')) (ht : t ≠ t') : b ≠ b' := fun e => by
  subst e
  have := At.inj h h'
  injection this with _ e _
  exact ht e
theorem map_ne {b b' : Nat} {cs : Array Value} {t : TypeId} {fr : Nat × Nat} {l : List ByteArray} (h : At w b (.cells cs t fr)) (h' : MapAt w b' l) : b ≠ b' := fun e => by
  subst e
  obtain ⟨es, cl, h'⟩ := h'.obj
  have := At.inj h h'
  cases this

/-- One bin has turned. -/
theorem SIn.change (h : SIn B w s cap bins R c vs ms) {i : Nat} (hi : i < bins.length) {v' : Value} {k' : ByteArray} {L : List ByteArray} {arr arr' : Array Value}
    (m : Mod (fun k => k = R ∨ k = ms i ∨ (vs i).ownBlock = some k) w w') (hA : At w R (.cells arr 64 (0, 0))) (hA' : At w' R (.cells arr' 64 (0, 0)))
    (h0 : arr'[i * 3]? = some (.string k')) (h1 : arr'[i * 3 + 1]? = some v') (h2 : arr'[i * 3 + 2]? = arr[i * 3 + 2]?) (h3 : ∀ j, j ≠ i * 3 → j ≠ i * 3 + 1 → j ≠ i * 3 + 2 → arr'[j]? = arr[j]?)
    (ho : w'.ownsRow B 9 1 v' L.length (L.map .string)) (hm : MapAt w' (ms i) L)
    (hv : v'.ownBlock = none ∨ v'.ownBlock = (vs i).ownBlock ∨ ∃ g, v'.ownBlock = some g ∧ w.heap.size ≤ g) :
    SIn B w' s cap (bins.set i (k', L)) R c (fun j => if j = i then v' else vs j) ms ∧ MT B w w' := by
  have hl : (bins.set i (k', L)).length = bins.length := by simp
  have vlt : ∀ j, j < bins.length → ∀ g, (vs j).ownBlock = some g → g < w.heap.size := fun j hj g hg => by
    obtain ⟨cur, hc⟩ := own_at (h.ho j hj) hg
    exact hc.lt
  obtain ⟨arr0, hA0, hp⟩ := h.hR
  obtain rfl : arr0 = arr := by
    have := At.inj hA0 hA
    injection this
  refine ⟨⟨?_, by rw [hl]; exact h.hc, h.bs, h.bR, fun j hj => h.bm j (by rw [hl] at hj; exact hj), ⟨arr', hA', fun j hj => ?_⟩, fun j hj => ?_, fun j hj => ?_, fun a b ha hb => h.dm a b (by rw [hl] at ha; exact ha) (by rw [hl] at hb; exact hb), fun a b ha hb hab => ?_⟩, ?_⟩
  · rw [hl]
    refine At.mod h.hs m (fun hk => ?_)
    rcases hk with hk | hk | hk
    · exact cells_ne h.hs hA (by decide) hk
    · exact map_ne h.hs (h.hm i hi) hk
    · exact own_ne (h.ho i hi) h.hs (by decide) hk.symm
  · rw [hl] at hj
    rw [bk_set hi]
    by_cases e : j = i
    · subst e
      simp only [if_true]
      exact ⟨h0, h1, h2.trans (hp j hj).2.2⟩
    · simp only [if_neg e]
      rw [h3 _ (by omega) (by omega) (by omega), h3 _ (by omega) (by omega) (by omega), h3 _ (by omega) (by omega) (by omega)]
      exact hp j hj
  · rw [hl] at hj
    rw [bi_set hi]
    by_cases e : j = i
    · subst e
      simp only [if_true]
      exact ho
    · simp only [if_neg e]
      refine own_same (h.ho j hj) (fun g hg => m.block g (vlt j hj g hg) (fun hk => ?_))
      obtain ⟨cur, hcur⟩ := own_at (h.ho j hj) hg
      rcases hk with hk | hk | hk
      · exact cells_ne hcur hA (by decide) hk
      · exact map_ne hcur (h.hm i hi) hk
      · rcases h.dv j i hj hi e with d | d
        · rw [d] at hg; cases hg
        · exact d (by rw [hg, hk])
  · rw [hl] at hj
    rw [bi_set hi]
    by_cases e : j = i
    · subst e
      simp only [if_true]
      exact hm
    · simp only [if_neg e]
      refine (h.hm j hj).mod m (fun hk => ?_)
      rcases hk with hk | hk | hk
      · exact map_ne hA (h.hm j hj) hk.symm
      · exact h.dm j i hj hi e hk
      · obtain ⟨cur, hcur⟩ := own_at (h.ho i hi) hk
        exact map_ne hcur (h.hm j hj) rfl
  · rw [hl] at ha hb
    by_cases e : a = i
    · subst e
      have hba : ¬ b = a := fun q => hab q.symm
      simp only [if_true, if_neg hba]
      rcases hv with hv | hv | ⟨g', h1, h2⟩
      · exact .inl hv
      · rw [hv]
        exact h.dv a b ha hb hab
      · refine .inr (fun q => ?_)
        have := vlt b hb g' (by rw [← q, h1])
        omega
    · simp only [if_neg e]
      by_cases e' : b = i
      · subst e'
        simp only [if_true]
        rcases hv with hv | hv | ⟨g', h1, h2⟩
        · rcases hva : (vs a).ownBlock with _ | g
          · exact .inl rfl
          · exact .inr (by rw [hv]; simp)
        · rw [hv]
          exact h.dv a b ha hb hab
        · refine .inr (fun q => ?_)
          have := vlt a ha g' (by rw [q, h1])
          omega
      · simp only [if_neg e']
        exact h.dv a b ha hb hab
  · refine Mod.mono m (fun k hk hs => ?_)
    rcases hs with rfl | rfl | hs
    · exact ⟨h.bR, .inl ⟨_, _, _, hA, by simp⟩⟩
    · exact ⟨h.bm i hi, .inr (h.hm i hi).obj⟩
    · obtain ⟨cur, hc⟩ := own_at (h.ho i hi) hs
      exact ⟨own_base (h.ho i hi) hs, .inl ⟨_, _, _, hc, by simp⟩⟩
end
end Go.Proofs.Ytdipncjbobhbjaa
