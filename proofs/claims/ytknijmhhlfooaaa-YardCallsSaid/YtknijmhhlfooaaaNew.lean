/- New makes a yard of empty bays. -/
import Derived.Test.YtknijmhhlfooaaaFind
namespace Go.Proofs.Ytknijmhhlfooaaa
open Go.RowKit
set_option linter.unusedVariables false
set_option linter.unusedSimpArgs false

theorem info63 : (Try.prog.info? 63).map (fun i => (i.zero, i.size, i.bytes)) = some (some (.pointer none), 1, 8) := by kernel_rfl

theorem new_bad (nb cap : Int) (w : World) (h : nb < 1 ∨ (1 ≤ nb ∧ 16 < nb) ∨ (1 ≤ nb ∧ nb ≤ 16 ∧ cap < 1) ∨ (1 ≤ nb ∧ nb ≤ 16 ∧ 1 ≤ cap ∧ 32 < cap)) :
    Calls Try.prog 11 #[.int .i64 nb, .int .i64 cap] w fun e w' => e = .returned (.tuple #[.pointer none, .int .i64 9]) ∧ w = w' := by
  rcases h with h | h | h | h
  all_goals
    try obtain ⟨g1, h⟩ := h
    try obtain ⟨g2, h⟩ := h
    try obtain ⟨g3, h⟩ := h
    go_enter Try.func11, Try.ntmps11
    go_wp2_with fail
    go_ret2
    exact ⟨rfl, rfl⟩

def ptrs (ps : Nat → Nat) (n : Nat) : List Value := (List.range n).map fun j => .pointer (some ⟨ps j, 0, none⟩)
theorem ptrs_length (ps : Nat → Nat) (n : Nat) : (ptrs ps n).length = n := by simp [ptrs]
theorem ptrs_get (ps : Nat → Nat) (n j : Nat) (h : j < n) : (ptrs ps n)[j]? = some (.pointer (some ⟨ps j, 0, none⟩)) := by simp [ptrs, List.getElem?_range, h]
theorem ptrs_snoc (ps ps' : Nat → Nat) (n p : Nat) (h : ∀ j, j < n → ps' j = ps j) (hp : ps' n = p) : ptrs ps n ++ [.pointer (some ⟨p, 0, none⟩)] = ptrs ps' (n + 1) := by
  unfold ptrs
  rw [List.range_succ, List.map_append, ← hp]
  congr 1
  exact List.map_congr_left (fun j hj => by rw [h j (List.mem_range.1 hj)])

structure NewIn (w0 : World) (cap : Int) (i : Nat) (v : Value) (ps : Nat → Nat) (wr : World) : Prop where
  hy : At wr w0.heap.size (.cells #[v, .int .i64 cap, .int .i64 0] 62 (0, 0))
  ho : wr.ownsRow w0.heap.size 63 1 v i (ptrs ps i)
  hp : ∀ j, j < i → w0.heap.size ≤ ps j ∧ At wr (ps j) (.cells #[.slice none 0 0] 66 (0, 0))
  inj : ∀ j k, j < i → k < i → j ≠ k → ps j ≠ ps k
  m : Mod (fun _ => False) w0 wr

theorem NewIn.form {w0 wr : World} {cap : Int} {i : Nat} {v : Value} {ps : Nat → Nat} (h : NewIn w0 cap i v ps wr) : ∃ A c, v = .slice A i c := own_val h.ho

theorem new_good (n : Nat) (cap : Int) (w : World) (h1 : 1 ≤ n) (h2 : n ≤ 16) (h3 : 1 ≤ cap) (h4 : cap ≤ 32) :
    Calls Try.prog 11 #[.int .i64 (n : Int), .int .i64 cap] w fun e w' => ∃ y, e = .returned (.tuple #[.pointer (some ⟨y, 0, none⟩), .int .i64 0]) ∧
      YardAt (fun k => w.heap.size ≤ k) w' y cap 0 (List.replicate n []) ∧ Mod (fun _ => False) w w' := by
  obtain ⟨i0, hi0, hz0, hz1, hz2⟩ := info_parts info63
  have a1 : ¬ (n : Int) < 1 := by omega
  have a2 : ¬ (16 : Int) < n := by omega
  go_enter Try.func11, Try.ntmps11
  go_wp2_with fail
  go_loopw [25] (fun s wr => ∃ (i : Nat) (v : Value) (ps : Nat → Nat), i ≤ n ∧ s = .int .i64 i ∧ NewIn w cap i v ps wr)
    (fun s _ => n - (intOf s).toNat)
  case atStart =>
    refine ⟨0, .slice none 0 0, fun _ => 0, by omega, rfl, ⟨At.new _ _, World.ownsRow_nil _ _ _ _, fun j hj => by omega, fun j k hj => by omega, (Mod.refl _ _).alloc _⟩⟩
  case round =>
    obtain ⟨i, v, ps, hi, rfl, hN⟩ := hrel
    by_cases hlt : i < n
    · obtain ⟨A, cc, rfl⟩ := hN.form
      obtain ⟨c0, c1, c2⟩ := At.three hN.hy
      have hf := hN.hy.free 0
      have hyl := hN.hy.lt
      have hyl1 : w.heap.size < wr.heap.size + 1 := by omega
      have hyl2 : w.heap.size < wr.heap.size + 1 + 1 := by omega
      have ho := hN.ho
      go_wp2_with (first | (at_builtin; refine wpList_append_own _ rfl (.tmp 31) (.tmp 34) 60 rfl w.heap.size 63 i0 (.pointer none) 1 8 Try.underlying60 hi0 hz0 hz1 hz2 rfl (by decide) (.slice A i cc) i (ptrs ps i) rfl ((ho.alloc _).alloc _) ⟨wr.heap.size + 1, 0, none⟩ 1 1 [.pointer (some ⟨wr.heap.size, 0, none⟩)] rfl rfl ?c1 ?c2 ?c3 ?c4 ?c5 ?_))
      case c1 =>
        intro j u hj
        match j, hj with
        | 0, hj => simp at hj; subst hj; simp [Addr.add]
      case c2 => intro u hu; simp at hu; subst hu; rfl
      case c3 => unfold maxLen; omega
      case c4 => omega
      case c5 => simp; omega
      · intro v' w1 hown' hgrow _
        obtain ⟨A', c', rfl⟩ := own_val hown'
        have hy0 : At ((wr.alloc (.cells #[.slice none 0 0] 66)).alloc (.cells #[.pointer (some ⟨wr.heap.size, 0, none⟩)] 63)) w.heap.size (.cells #[.slice A i cc, .int .i64 cap, .int .i64 0] 62 (0, 0)) := (hN.hy.alloc _).alloc _
        have hne : some w.heap.size ≠ (Value.slice A i cc).ownBlock := own_ne ho hN.hy (by decide)
        have hy1 : At w1 w.heap.size (.cells #[.slice A i cc, .int .i64 cap, .int .i64 0] 62 (0, 0)) := by
          unfold At
          rw [hgrow.block _ hy0.lt hne]
          exact hy0
        obtain ⟨d0, d1, d2⟩ := At.three hy1
        have df := hy1.free 0
        have dl := hy1.lt
        clear c0 c1 c2 hf hyl1 hyl2
        go_wp2_with fail
        go_roundw
        case rel =>
          refine ⟨i + 1, .slice A' (i + 1) c', fun j => if j = i then wr.heap.size else ps j, by omega, by go_num, ?_⟩
          have hs : ptrs ps i ++ [.pointer (some ⟨wr.heap.size, 0, none⟩)] = ptrs (fun j => if j = i then wr.heap.size else ps j) (i + 1) :=
            ptrs_snoc ps _ i wr.heap.size (fun j hj => by simp [Nat.ne_of_lt hj]) (by simp)
          rw [hs] at hown'
          have hpile : ∀ q, w.heap.size ≤ q → At ((wr.alloc (.cells #[.slice none 0 0] 66)).alloc (.cells #[.pointer (some ⟨wr.heap.size, 0, none⟩)] 63)) q (.cells #[.slice none 0 0] 66 (0, 0)) → At (w1.setCell ⟨w.heap.size, 0, none⟩ (.slice A' (i + 1) c')) q (.cells #[.slice none 0 0] 66 (0, 0)) := fun q hq ha => by
            have hn : some q ≠ (Value.slice A i cc).ownBlock := own_ne ((ho.alloc _).alloc _) ha (by decide)
            have h1 : At w1 q (.cells #[.slice none 0 0] 66 (0, 0)) := by
              unfold At
              rw [hgrow.block _ ha.lt hn]
              exact ha
            refine At.other h1 _ _ (fun e => ?_)
            have e' : q = w.heap.size := e
            subst e'
            have := At.inj h1 hy1
            injection this with _ e _
            cases e
          refine ⟨hy1.put 0 _, ownsRow_setCell_far hown' (fun k hk e => ?_) _, fun j hj => ?_, fun j k hj hk hjk => ?_, ?_⟩
          · have e' : k = w.heap.size := e
            subst e'
            exact own_ne hown' hy1 (by decide) hk.symm
          · by_cases e : j = i
            · subst e
              simp only [if_true]
              exact ⟨by omega, hpile _ (by omega) ((At.new _ _).alloc _)⟩
            · simp only [if_neg e]
              have := hN.hp j (by omega)
              exact ⟨this.1, hpile _ this.1 ((this.2.alloc _).alloc _)⟩
          · by_cases e : j = i
            · subst e
              have hkj : ¬ k = j := fun q => hjk q.symm
              simp only [if_true, if_neg hkj]
              have := (hN.hp k (by omega)).2.lt
              omega
            · simp only [if_neg e]
              by_cases e' : k = i
              · subst e'
                simp only [if_true]
                have := (hN.hp j (by omega)).2.lt
                omega
              · simp only [if_neg e']
                exact hN.inj j k (by omega) (by omega) hjk
          · have m0 := (hN.m.alloc (.cells #[.slice none 0 0] 66)).alloc (.cells #[.pointer (some ⟨wr.heap.size, 0, none⟩)] 63)
            have hrow : ∀ k, (Value.slice A i cc).ownBlock = some k → w.heap.size ≤ k := fun k hk => by
              rcases ho.2 with ⟨h0, _⟩ | ⟨g, cap', cur, h0, hb, _⟩
              · rw [h0] at hk; simp [Value.ownBlock] at hk
              · rw [h0] at hk
                have : g = k := by simpa [Value.ownBlock] using hk
                omega
            have m1 : Mod (fun _ => False) w w1 := m0.trans' (T := fun k => (Value.slice A i cc).ownBlock = some k) ⟨hgrow.os, hgrow.tape, hgrow.output, hgrow.size, fun k hk hn => hgrow.block k hk (fun e => hn e.symm)⟩ (fun k hk h => by have := hrow k h; omega)
            exact m1.put _ (fun h => by simp only at h; omega)
        case measure => simp [intOf]; omega
    · have : i = n := by omega
      subst this
      obtain ⟨A, cc, rfl⟩ := hN.form
      go_wp2_with fail
      go_ret2
      obtain ⟨g, cap', hv, hgb, hgl⟩ := hN.ho.form (by omega)
      injection hv with hA hn hc
      subst hA
      obtain ⟨cur, hcur⟩ := own_at hN.ho (g := g) rfl
      refine ⟨_, rfl, ⟨g, cc, ps, fun _ => .slice none 0 0, ?_, Nat.le_refl _, hgb, ⟨cur, hcur, ?_⟩, ?_, ?_, ?_, ?_, ?_, ?_⟩, hN.m⟩
      all_goals simp only [List.length_replicate]
      · exact hN.hy
      · intro j hj
        have := hN.ho.cells (g := g) rfl j _ (ptrs_get ps _ j hj)
        rw [add_plain, hcur.cell] at this
        exact this
      · exact fun j hj => (hN.hp j hj).1
      · exact fun j hj => (hN.hp j hj).2
      · intro j hj
        have : (List.replicate i ([] : List Pc)).getD j [] = [] := by simp [List.getD_eq_getElem?_getD, hj]
        rw [this]
        exact World.ownsRow_nil _ _ _ _
      · intro j hj g hg
        simp [Value.ownBlock] at hg
      · exact fun a b ha hb hab => hN.inj a b ha hb hab
      · exact fun a b ha hb hab => .inl rfl
end Go.Proofs.Ytknijmhhlfooaaa
