/- Rows that grow in Trips: laws of memory and of the operations. -/
import Derived.Test.YtdnodloinlijaaaPlain
import Derived.Deep.RegionLawGrows
namespace Go.Proofs.Ytdnodloinlijaaa
open Go.RowKit
set_option linter.unusedVariables false
set_option linter.unusedSimpArgs false

theorem info28 : (Try.prog.info? 28).map (fun i => (i.zero, i.size, i.bytes)) = some (some (.agg #[.int .i64 0, .int .i64 0, .int .i64 0]), 3, 24) := by kernel_rfl
theorem info25 : (Try.prog.info? 25).map (fun i => (i.zero, i.size, i.bytes)) = some (some (.slice none 0 0), 1, 24) := by kernel_rfl

theorem flatP_one : ∀ (l : List Pc), ∀ u ∈ flatP l, u.oneCell' = true
  | [], u, h => by simp [flatP] at h
  | p :: r, u, h => by
    simp only [flatP, List.mem_cons] at h
    rcases h with rfl | rfl | rfl | h
    · rfl
    · rfl
    · rfl
    · exact flatP_one r u h
theorem flatP_at : ∀ (l : List Pc) (j : Nat) (u : Value), (flatP l)[j]? = some u → ∃ i p, l[i]? = some p ∧ ((j = i * 3 ∧ u = .int .i64 p.w) ∨ (j = i * 3 + 1 ∧ u = .int .i64 p.v) ∨ (j = i * 3 + 2 ∧ u = .int .i64 p.x))
  | [], j, u, h => by simp [flatP] at h
  | p :: r, 0, u, h => by simp [flatP] at h; exact ⟨0, p, rfl, .inl ⟨rfl, h.symm⟩⟩
  | p :: r, 1, u, h => by simp [flatP] at h; exact ⟨0, p, rfl, .inr (.inl ⟨rfl, h.symm⟩)⟩
  | p :: r, 2, u, h => by simp [flatP] at h; exact ⟨0, p, rfl, .inr (.inr ⟨rfl, h.symm⟩)⟩
  | p :: r, j + 3, u, h => by
    obtain ⟨i, q, hi, hh⟩ := flatP_at r j u (by simpa [flatP] using h)
    refine ⟨i + 1, q, by simpa using hi, ?_⟩
    rcases hh with ⟨e, f⟩ | ⟨e, f⟩ | ⟨e, f⟩
    · exact .inl ⟨by omega, f⟩
    · exact .inr (.inl ⟨by omega, f⟩)
    · exact .inr (.inr ⟨by omega, f⟩)
theorem Ps.flat {w : World} {b off : Nat} {l : List Pc} (h : Ps w (some ⟨b, off, none⟩) l) : ∀ j u, (flatP l)[j]? = some u → w.cell? ((⟨b, off, none⟩ : Addr).add j) = some u := by
  intro j u hj
  obtain ⟨i, p, hi, hh⟩ := flatP_at l j u hj
  obtain ⟨x0, x1, x2⟩ := h.cells (Mod.refl _ w) hi
  have e : (⟨b, off, none⟩ : Addr).add j = ⟨b, off + j, none⟩ := by unfold Addr.add; split <;> simp_all
  rw [e]
  rcases hh with ⟨rfl, rfl⟩ | ⟨rfl, rfl⟩ | ⟨rfl, rfl⟩
  · exact x0
  · rw [← Nat.add_assoc]; exact x1
  · rw [← Nat.add_assoc]; exact x2

/-- The parcels are copied behind an empty row. -/
theorem wpList_copy {ops : Array Oper} {rest : List Oper} {o : Oper} {a : Act} {w W : World} {Q : Exit → Act → World → Prop} (hgd : o.guard = none) (s x : Operand) (ho : o.op = .call { callee := .builtin .append, args := #[s, x], argTypes := #[22, 22] })
    (A : Option Addr) (c : Nat) (l : List Pc) (b : Addr) (h : Ps W A l) (h16 : l.length ≤ 16) (m : Mod (fun _ => False) w W) (hs : a.eval s = .slice (some b) 0 0) (hx : a.eval x = .slice A l.length c)
    (hK : ∀ A' c' w', Hid (Ps w' A' l) → Hid (Mod (fun _ => False) w w') → wpList Try.prog ops Q rest (a.put o.dst (.slice A' l.length c')) w') : wpList Try.prog ops Q (o :: rest) a W := by
  obtain ⟨i0, hi0, hz0, hz1, hz2⟩ := info_parts info28
  cases l with
  | nil =>
    refine wpList_plain hgd fun K hK' => ?_
    have hrun : (Builtin.append_ #[22, 22] o.type #[.slice (some b) 0 0, .slice A 0 c]).run Try.prog W = .ok (.slice (some b) 0 0) W := by
      cases A <;> simp [Builtin.append_, run_underlying Try.underlying22, sizeOf, typeInfo, hi0, Builtin.lenOf, Builtin.firstCells, storeCells, loadCells, loadCellsFrom, Result.andThen, Sem.run_pure]
    have hx' : a.eval x = .slice A 0 c := hx
    unfold Oper.wp
    simp [execOp, ho, resolve, invoke, builtin, hs, hx', hrun, Result.andThen]
    exact hK' _ _ (hK (some b) 0 W (hid (Ps.nil _ _)) (hid m))
  | cons p r =>
    obtain ⟨b', off, t, fr, arr, e, _⟩ := h (by simp)
    subst e
    refine wpList_append_grows W hgd s x 22 ho 28 i0 (.agg #[.int .i64 0, .int .i64 0, .int .i64 0]) 3 24 Try.underlying22 hi0 hz0 hz1 hz2 rfl (by decide) (some b) 0 0 [] hs (fun h => by cases h) rfl (fun _ _ j u h => by simp at h) ⟨b', off, none⟩ (p :: r).length c (flatP (p :: r)) hx (flatP_len _) h.flat (flatP_one _) (by simp) (by unfold maxLen; omega) (by omega) ?_
    intro v' w' hown hgr
    rw [Nat.zero_add, List.nil_append] at hown
    obtain ⟨A', c', rfl⟩ := own_val hown
    exact hK A' c' w' (hid (Ps.own hown)) (hid (m.trans ⟨hgr.os, hgr.tape, hgr.output, hgr.size, fun k hk _ => hgr.block k hk (by simp)⟩))

/-- The three rows that grow while what is left is parted. -/
structure St3 (B : Nat) (w W : World) (vp vq vt : Value) (RP : List Pc) (RQ tA : List Int) : Prop where
  bel : Below B w W
  sz : B ≤ W.heap.size
  p : W.ownsRow B 28 3 vp RP.length (flatP RP)
  q : W.ownsRow B 3 1 vq RQ.length (RQ.map intV)
  t : W.ownsRow B 3 1 vt tA.length (tA.map intV)
  d : ∀ g, vt.ownBlock = some g → vq.ownBlock ≠ some g
section
variable {B : Nat} {w W : World} {vp vq vt : Value} {RP : List Pc} {RQ tA : List Int}
theorem St3.start (w : World) : St3 w.heap.size w w (.slice none 0 0) (.slice none 0 0) (.slice none 0 0) [] [] [] :=
  ⟨⟨rfl, rfl, rfl, Nat.le_refl _, fun _ _ => rfl⟩, Nat.le_refl _, World.ownsRow_nil _ _ _ _, World.ownsRow_nil _ _ _ _, World.ownsRow_nil _ _ _ _, fun g h => by simp [Value.ownBlock] at h⟩
theorem St3.mod0 (h : St3 B w W vp vq vt RP RQ tA) {W' : World} (m : Mod (fun _ => False) W W') : St3 B w W' vp vq vt RP RQ tA :=
  ⟨Below.mod h.bel m h.sz (fun _ _ q => q), Nat.le_trans h.sz m.size, own_mod0 h.p m, own_mod0 h.q m, own_mod0 h.t m, h.d⟩
theorem St3.alloc (h : St3 B w W vp vq vt RP RQ tA) (o : Obj) : St3 B w (W.alloc o) vp vq vt RP RQ tA := h.mod0 ((Mod.refl _ _).alloc o)
theorem St3.drew (h : St3 B w W vp vq vt RP RQ tA) : St3 B w W.drew vp vq vt RP RQ tA := h.mod0 (Mod.refl _ _).drew
theorem own_far {W W' : World} {B2 : Nat} {e1 e2 : TypeId} {s1 s2 n1 n2 : Nat} {v1 v2 : Value} {xs1 xs2 : List Value} (h1 : W.ownsRow B e1 s1 v1 n1 xs1) (h2 : W.ownsRow B2 e2 s2 v2 n2 xs2) (hne : e1 ≠ e2) (m : Mod (fun q => v2.ownBlock = some q) W W') : W'.ownsRow B e1 s1 v1 n1 xs1 :=
  own_mod h1 m (fun g hg hk => by
    obtain ⟨c1, q1⟩ := own_at h1 hg
    obtain ⟨c2, q2⟩ := own_at h2 hk
    exact cells_ne q1 q2 hne rfl)
theorem St3.below_grown (h : St3 B w W vp vq vt RP RQ tA) {W' : World} {v : Value} {e : TypeId} {s n : Nat} {xs : List Value} (ho : W.ownsRow B e s v n xs) (m : Mod (fun q => v.ownBlock = some q) W W') : Below B w W' :=
  Below.mod h.bel m h.sz (fun i hi hq => by have := own_base ho hq; omega)
theorem St3.pushP (h : St3 B w W vp vq vt RP RQ tA) {W' : World} {v' : Value} {p : Pc} (hown : W'.ownsRow B 28 3 v' (RP.length + 1) (flatP RP ++ flatP [p])) (m : Mod (fun q => vp.ownBlock = some q) W W') : St3 B w W' v' vq vt (RP ++ [p]) RQ tA :=
  ⟨h.below_grown h.p m, Nat.le_trans h.sz m.size, by rw [flatP_app, List.length_append]; exact hown, own_far h.q h.p (by decide) m, own_far h.t h.p (by decide) m, h.d⟩
theorem St3.pushQ (h : St3 B w W vp vq vt RP RQ tA) {W' : World} {g n c : Nat} {x : Int} (hown : W'.ownsRow B 3 1 (.slice (some ⟨g, 0, none⟩) n c) (RQ.length + 1) (RQ.map intV ++ [intV x])) (m : Mod (fun q => vq.ownBlock = some q) W W') (hat : vq.ownBlock = some g ∨ g = W.heap.size) : St3 B w W' vp (.slice (some ⟨g, 0, none⟩) n c) vt RP (RQ ++ [x]) tA :=
  ⟨h.below_grown h.q m, Nat.le_trans h.sz m.size, own_far h.p h.q (by decide) m, by rw [List.map_append, List.length_append]; exact hown, own_mod h.t m (fun g hg hk => h.d g hg hk), fun k hk e => by
    have : g = k := by simpa [Value.ownBlock] using e
    subst this
    rcases hat with hat | hat
    · exact h.d g hk hat
    · have := own_lt h.t hk
      omega⟩
theorem St3.pushT (h : St3 B w W vp vq vt RP RQ tA) {W' : World} {g n c : Nat} {x : Int} (hown : W'.ownsRow B 3 1 (.slice (some ⟨g, 0, none⟩) n c) (tA.length + 1) (tA.map intV ++ [intV x])) (m : Mod (fun q => vt.ownBlock = some q) W W') (hat : vt.ownBlock = some g ∨ g = W.heap.size) : St3 B w W' vp vq (.slice (some ⟨g, 0, none⟩) n c) RP RQ (tA ++ [x]) :=
  ⟨h.below_grown h.t m, Nat.le_trans h.sz m.size, own_far h.p h.t (by decide) m, own_mod h.q m (fun g hg hk => h.d g hk hg), by rw [List.map_append, List.length_append]; exact hown, fun k hk e => by
    have : g = k := by simpa [Value.ownBlock] using hk
    subst this
    rcases hat with hat | hat
    · exact h.d g hat e
    · have := own_lt h.q e
      omega⟩
theorem gmod {w w1 : World} {v : Value} (hg : w.grownBy w1 v.ownBlock) : Mod (fun q => v.ownBlock = some q) w w1 := grown_mod hg

theorem St3.keepQ (H : St3 B w W vp vq vt RP RQ tA) {W' : World} (m : Mod (fun q => vp.ownBlock = some q) W W') {b : Nat} {cs : Array Value} (h : At W b (.cells cs 3 (0, 0))) : At W' b (.cells cs 3 (0, 0)) :=
  At.mod h m (fun e => own_ne H.p h (by decide) e.symm)
theorem St3.keepP (H : St3 B w W vp vq vt RP RQ tA) {W' : World} (m : Mod (fun q => vq.ownBlock = some q) W W') {b : Nat} {cs : Array Value} (h : At W b (.cells cs 28 (0, 0))) : At W' b (.cells cs 28 (0, 0)) :=
  At.mod h m (fun e => own_ne H.q h (by decide) e.symm)
theorem St3.keepT (H : St3 B w W vp vq vt RP RQ tA) {W' : World} (m : Mod (fun q => vt.ownBlock = some q) W W') {b : Nat} {cs : Array Value} (h : At W b (.cells cs 28 (0, 0))) : At W' b (.cells cs 28 (0, 0)) :=
  At.mod h m (fun e => own_ne H.t h (by decide) e.symm)
theorem St3.cell (H : St3 B w W vp vq vt RP RQ tA) {b i : Nat} {v : Value} (hb : b < B) (h : w.cell? ⟨b, i, none⟩ = some v) : W.cell? ⟨b, i, none⟩ = some v :=
  (World.cell?_of_block (a := ⟨b, i, none⟩) (H.bel.block b hb)).trans h
/-- A parcel is added. -/
theorem step_p {ops : Array Oper} {o : Oper} {a : Act} {K : Act → World → Prop} {Q : Exit → Act → World → Prop} {E : Prop} (hgd : o.guard = none) (s x : Operand) (ho : o.op = .call { callee := .builtin .append, args := #[s, x], argTypes := #[22, 22] })
    (H : St3 B w W vp vq vt RP RQ tA) (h16 : RP.length ≤ 16) (p : Pc) (bI : Nat) (hI : At W bI (.cells #[.int .i64 p.w, .int .i64 p.v, .int .i64 p.x] 28 (0, 0))) (hs : a.eval s = vp) (hx : a.eval x = .slice (some ⟨bI, 0, none⟩) 1 1)
    (hK : ∀ g c' w', Hid (St3 B w w' (.slice (some ⟨g, 0, none⟩) (RP.length + 1) c') vq vt (RP ++ [p]) RQ tA) → Hid (Mod (fun q => vp.ownBlock = some q) W w') → K (a.put o.dst (.slice (some ⟨g, 0, none⟩) (RP.length + 1) c')) w') :
    if Region.wanted o (yielded ops a.tmps) = true then Oper.wp Try.prog o a W K Q else E := by
  obtain ⟨i0, hi0, hz0, hz1, hz2⟩ := info_parts info28
  refine step_append_lies W hgd s x 22 ho B 28 i0 (.agg #[.int .i64 0, .int .i64 0, .int .i64 0]) 3 24 Try.underlying22 hi0 hz0 hz1 hz2 rfl (by decide) vp RP.length (flatP RP) hs H.p ⟨bI, 0, none⟩ 1 1 (flatP [p]) hx rfl ?_ (flatP_one _) (by omega) (by unfold maxLen; omega) (by omega) H.sz _ rfl ?_
  · intro j u hj
    rw [add_plain, hI.cell]
    simpa [flatP] using hj
  · intro g c' w' hown hgr hat _
    exact hK g c' w' (hid (H.pushP hown (gmod hgr))) (hid (gmod hgr))
/-- A number is added. -/
theorem step_q {ops : Array Oper} {o : Oper} {a : Act} {K : Act → World → Prop} {Q : Exit → Act → World → Prop} {E : Prop} (hgd : o.guard = none) (s x : Operand) (ho : o.op = .call { callee := .builtin .append, args := #[s, x], argTypes := #[25, 25] })
    (H : St3 B w W vp vq vt RP RQ tA) (h16 : RQ.length ≤ 16) (y : Int) (bI : Nat) (hI : At W bI (.cells #[.int .i64 y] 3 (0, 0))) (hs : a.eval s = vq) (hx : a.eval x = .slice (some ⟨bI, 0, none⟩) 1 1)
    (hK : ∀ g c' w', Hid (St3 B w w' vp (.slice (some ⟨g, 0, none⟩) (RQ.length + 1) c') vt RP (RQ ++ [y]) tA) → Hid (Mod (fun q => vq.ownBlock = some q) W w') → K (a.put o.dst (.slice (some ⟨g, 0, none⟩) (RQ.length + 1) c')) w') :
    if Region.wanted o (yielded ops a.tmps) = true then Oper.wp Try.prog o a W K Q else E := by
  obtain ⟨i0, hi0, hz0, hz1, hz2⟩ := info_parts info3
  refine step_append_lies W hgd s x 25 ho B 3 i0 (.int .i64 0) 1 8 Try.underlying25 hi0 hz0 hz1 hz2 rfl (by decide) vq RQ.length (RQ.map intV) hs H.q ⟨bI, 0, none⟩ 1 1 [intV y] hx rfl ?_ (fun u hu => by simp at hu; subst hu; rfl) (by omega) (by unfold maxLen; omega) (by omega) H.sz _ rfl ?_
  · intro j u hj
    rw [add_plain, hI.cell]
    simpa [intV] using hj
  · intro g c' w' hown hgr hat _
    exact hK g c' w' (hid (H.pushQ hown (gmod hgr) hat)) (hid (gmod hgr))
theorem step_t {ops : Array Oper} {o : Oper} {a : Act} {K : Act → World → Prop} {Q : Exit → Act → World → Prop} {E : Prop} (hgd : o.guard = none) (s x : Operand) (ho : o.op = .call { callee := .builtin .append, args := #[s, x], argTypes := #[25, 25] })
    (H : St3 B w W vp vq vt RP RQ tA) (h16 : tA.length ≤ 16) (y : Int) (bI : Nat) (hI : At W bI (.cells #[.int .i64 y] 3 (0, 0))) (hs : a.eval s = vt) (hx : a.eval x = .slice (some ⟨bI, 0, none⟩) 1 1)
    (hK : ∀ g c' w', Hid (St3 B w w' vp vq (.slice (some ⟨g, 0, none⟩) (tA.length + 1) c') RP RQ (tA ++ [y])) → Hid (Mod (fun q => vt.ownBlock = some q) W w') → K (a.put o.dst (.slice (some ⟨g, 0, none⟩) (tA.length + 1) c')) w') :
    if Region.wanted o (yielded ops a.tmps) = true then Oper.wp Try.prog o a W K Q else E := by
  obtain ⟨i0, hi0, hz0, hz1, hz2⟩ := info_parts info3
  refine step_append_lies W hgd s x 25 ho B 3 i0 (.int .i64 0) 1 8 Try.underlying25 hi0 hz0 hz1 hz2 rfl (by decide) vt tA.length (tA.map intV) hs H.t ⟨bI, 0, none⟩ 1 1 [intV y] hx rfl ?_ (fun u hu => by simp at hu; subst hu; rfl) (by omega) (by unfold maxLen; omega) (by omega) H.sz _ rfl ?_
  · intro j u hj
    rw [add_plain, hI.cell]
    simpa [intV] using hj
  · intro g c' w' hown hgr hat _
    exact hK g c' w' (hid (H.pushT hown (gmod hgr) hat)) (hid (gmod hgr))
end

/-- A row of rows of numbers. -/
def Rows2 (N : Nat) (w : World) (v : Value) (T : List (List Int)) : Prop :=
  ∃ xs : List Value, w.ownsRow N 25 1 v T.length xs ∧ ∀ (i : Nat) (t : List Int), T[i]? = some t → ∃ x, xs[i]? = some x ∧ w.ownsRow N 3 1 x t.length (t.map intV)
theorem Rows2.nil (N : Nat) (w : World) : Rows2 N w (.slice none 0 0) [] := ⟨[], World.ownsRow_nil _ _ _ _, fun i t h => by simp at h⟩
theorem own_below {w w' : World} {base B : Nat} {e : TypeId} {size n : Nat} {v : Value} {xs : List Value} (h : w.ownsRow base e size v n xs) (m : Below B w w') (hB : w.heap.size ≤ B) : w'.ownsRow base e size v n xs :=
  own_same h (fun g hg => m.block g (Nat.lt_of_lt_of_le (own_lt h hg) hB))
theorem Rows2.below {N B : Nat} {w w' : World} {v : Value} {T : List (List Int)} (h : Rows2 N w v T) (m : Below B w w') (hB : w.heap.size ≤ B) : Rows2 N w' v T := by
  obtain ⟨xs, h1, h2⟩ := h
  exact ⟨xs, own_below h1 m hB, fun i t hi => by
    obtain ⟨x, h3, h4⟩ := h2 i t hi
    exact ⟨x, h3, own_below h4 m hB⟩⟩
theorem Rows2.mod0 {N : Nat} {w w' : World} {v : Value} {T : List (List Int)} (h : Rows2 N w v T) (m : Mod (fun _ => False) w w') : Rows2 N w' v T := h.below (m.toBelow w.heap.size (Nat.le_refl _) (fun _ _ q => q)) (Nat.le_refl _)
theorem Rows2.val {N : Nat} {w : World} {v : Value} {T : List (List Int)} (h : Rows2 N w v T) : ∃ A c, v = .slice A T.length c := by
  obtain ⟨xs, h1, _⟩ := h
  exact own_val h1
theorem Rows2.one {N : Nat} {w : World} {v : Value} {T : List (List Int)} {xs : List Value} (h1 : w.ownsRow N 25 1 v T.length xs) (h2 : ∀ (i : Nat) (t : List Int), T[i]? = some t → ∃ x, xs[i]? = some x ∧ w.ownsRow N 3 1 x t.length (t.map intV)) {i : Nat} {t : List Int} (hi : T[i]? = some t) (u : Value) (hu : xs[i]? = some u) : w.ownsRow N 3 1 u t.length (t.map intV) := by
  obtain ⟨x, h3, h4⟩ := h2 i t hi
  rw [h3] at hu
  exact Option.some.inj hu ▸ h4
/-- Reading one trip. -/
theorem Rows2.get {N : Nat} {w : World} {A : Option Addr} {n c : Nat} {T : List (List Int)} (h : Rows2 N w (.slice A n c) T) {i : Nat} {t : List Int} (hi : T[i]? = some t) : ∃ g A' c', A = some ⟨g, 0, none⟩ ∧ g < w.heap.size ∧ w.cell? ⟨g, i, none⟩ = some (.slice A' t.length c') ∧ Is w A' t := by
  obtain ⟨xs, h1, h2⟩ := h
  have hl := (List.getElem?_eq_some_iff.1 hi).1
  obtain ⟨g, cap, hv, _, hgl⟩ := h1.form (by omega)
  obtain ⟨x, h3, h4⟩ := h2 i t hi
  obtain ⟨A', c', rfl⟩ := own_val h4
  injection hv with hA hn hc
  subst hA hn hc
  have q := h1.cells (g := g) rfl i _ h3
  rw [add_plain] at q
  exact ⟨g, A', c', rfl, hgl, q, Is.own h4⟩
/-- A trip is added to the trips. -/
theorem wpList_trip {ops : Array Oper} {rest : List Oper} {o : Oper} {a : Act} {w W : World} {Q : Exit → Act → World → Prop} (hgd : o.guard = none) (s x : Operand) (ho : o.op = .call { callee := .builtin .append, args := #[s, x], argTypes := #[38, 38] })
    (v : Value) (T : List (List Int)) (t : List Int) (y : Value) (bI : Nat) (H : Rows2 w.heap.size W v T) (hy : W.ownsRow w.heap.size 3 1 y t.length (t.map intV)) (hI : At W bI (.cells #[y] 25 (0, 0))) (h16 : T.length ≤ 32) (m : Mod (fun _ => False) w W) (hs : a.eval s = v) (hx : a.eval x = .slice (some ⟨bI, 0, none⟩) 1 1)
    (hK : ∀ g c' w', Hid (Rows2 w.heap.size w' (.slice (some ⟨g, 0, none⟩) (T.length + 1) c') (T ++ [t])) → Hid (Mod (fun q => v.ownBlock = some q) W w') → Hid (Mod (fun _ => False) w w') → wpList Try.prog ops Q rest (a.put o.dst (.slice (some ⟨g, 0, none⟩) (T.length + 1) c')) w') : wpList Try.prog ops Q (o :: rest) a W := by
  obtain ⟨i0, hi0, hz0, hz1, hz2⟩ := info_parts info25
  obtain ⟨xs, h1, h2⟩ := H
  obtain ⟨Ay, cy, hyv⟩ := own_val hy
  refine wpList_append_lies W hgd s x 38 ho w.heap.size 25 i0 (.slice none 0 0) 1 24 Try.underlying38 hi0 hz0 hz1 hz2 rfl (by decide) v T.length xs hs h1 ⟨bI, 0, none⟩ 1 1 [y] hx rfl ?_ (fun u hu => by simp at hu; subst hu; rw [hyv]; rfl) (by omega) (by unfold maxLen; omega) (by omega) m.size _ rfl ?_
  · intro j u hj
    rw [add_plain, hI.cell]
    simpa using hj
  · intro g c' w' hown hgr hat _
    have mg := gmod hgr
    have far : ∀ {u : Value} {n : Nat} {zs : List Value}, W.ownsRow w.heap.size 3 1 u n zs → w'.ownsRow w.heap.size 3 1 u n zs := fun hu => own_far hu h1 (by decide) mg
    have hxl : xs.length = T.length := by have := h1.1; omega
    refine hK g c' w' (hid ⟨xs ++ [y], by rw [List.length_append]; exact hown, fun i u hi => ?_⟩) (hid mg) (hid (m.trans' mg (fun i hi hq => by have := own_base h1 hq; omega)))
    by_cases e : i < T.length
    · rw [List.getElem?_append_left e] at hi
      obtain ⟨z, h3, h4⟩ := h2 i u hi
      exact ⟨z, by rw [List.getElem?_append_left (by omega)]; exact h3, far h4⟩
    · rw [List.getElem?_append_right (by omega)] at hi
      have hiT : i - T.length = 0 := by
        have := (List.getElem?_eq_some_iff.1 hi).1
        simp at this
        omega
      rw [hiT] at hi
      simp at hi
      subst hi
      refine ⟨y, ?_, far hy⟩
      rw [List.getElem?_append_right (by omega), hxl, hiT]
      rfl
/-- The rest of a slice. -/
theorem Is.tail {w : World} {b off c : Nat} {x : Int} {r : List Int} (h : Is w (some ⟨b, off, none⟩) (x :: r)) (hc : c = 1 → r = []) : Is w (if c = 1 then some ⟨b, off, none⟩ else some ⟨b, off + 1, none⟩) r := by
  by_cases e : c = 1
  · rw [hc e]
    exact Is.nil _ _
  · rw [if_neg e]
    intro hn
    obtain ⟨b', off', t, fr, arr, e', ha, hcc⟩ := h (by simp)
    injection e' with e'
    injection e' with e1 e2 e3
    subst e1 e2
    refine ⟨b, off + 1, t, fr, arr, rfl, ha, fun i y hi => ?_⟩
    have := hcc (i + 1) y (by simpa using hi)
    rw [show off + 1 + i = off + (i + 1) from by omega]
    exact this
end Go.Proofs.Ytdnodloinlijaaa
