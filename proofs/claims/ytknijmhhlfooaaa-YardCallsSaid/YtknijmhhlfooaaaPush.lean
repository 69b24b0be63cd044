/- Contracts of the pile's methods: size, push, pop. -/
import Derived.Test.YtknijmhhlfooaaaProg
import Derived.Test.YtknijmhhlfooaaaKit
import Derived.Outline
import Derived.Deep.AppendLies
import Derived.Deep.RegionLaw
import Derived.OwnWalk
import Derived.WalkSmall
namespace Go.Proofs.Ytknijmhhlfooaaa
open Go.RowKit
set_option linter.unusedVariables false
set_option linter.unusedSimpArgs false

theorem info68 : (Try.prog.info? 68).map (fun i => (i.zero, i.size, i.bytes)) = some (some (.agg #[.string ByteArray.empty, .int .i64 0]), 2, 24) := by kernel_rfl

theorem size_c (p n c : Nat) (A : Option Addr) (w : World) (h : w.cell? ⟨p, 0, none⟩ = some (.slice A n c)) :
    Calls Try.prog 25 #[.pointer (some ⟨p, 0, none⟩)] w fun e w' => e = .returned (.int .i64 n) ∧ w' = w := by
  go_enter Try.func25, Try.ntmps25
  go_wp2
  go_ret
  exact ⟨rfl, rfl⟩

theorem At.one {w : World} {b : Nat} {t : TypeId} {fr : Nat × Nat} {v0 : Value} (h : At w b (.cells #[v0] t fr)) : w.cell? ⟨b, 0, none⟩ = some v0 := h.cell 0

theorem add_plain (g j : Nat) : (⟨g, 0, none⟩ : Addr).add j = ⟨g, j, none⟩ := by unfold Addr.add; split <;> simp_all
theorem ownsRow_setCell_far {w : World} {base : Nat} {e : TypeId} {size : Nat} {v : Value} {n : Nat} {xs : List Value} (h : w.ownsRow base e size v n xs) {a : Addr} (ha : ∀ k, v.ownBlock = some k → k ≠ a.block) (u : Value) : (w.setCell a u).ownsRow base e size v n xs := by
  obtain ⟨h1, h2⟩ := h
  refine ⟨h1, ?_⟩
  rcases h2 with h0 | ⟨g, cap, cur, rfl, hb, hh, r⟩
  · exact .inl h0
  · exact .inr ⟨g, cap, cur, rfl, hb, (Below.heap_setCell w a u g (ha g rfl)).trans hh, r⟩
/-- An owned row lies in no block of another element type. -/
theorem own_ne {w : World} {base : Nat} {e : TypeId} {size n : Nat} {v : Value} {xs : List Value} {p : Nat} {cs : Array Value} {t : TypeId} {fr : Nat × Nat} (h : w.ownsRow base e size v n xs) (hp : At w p (.cells cs t fr)) (hne : e ≠ t) : some p ≠ v.ownBlock := by
  rcases h.2 with ⟨rfl, _⟩ | ⟨g', cap, cur, rfl, _, hh, _⟩
  · simp [Value.ownBlock]
  · intro he
    have : p = g' := by simpa [Value.ownBlock] using he
    subst this
    have := At.inj hp hh
    injection this with _ ht _
    exact hne ht.symm

theorem push_c (base p n : Nat) (v : Value) (xs : List Value) (nm : ByteArray) (si : Int) (w : World) (hp : At w p (.cells #[v] 66 (0, 0))) (hpb : base ≤ p)
    (hv : ∃ A c, v = .slice A n c) (hown : w.ownsRow base 68 2 v n xs) (hn : n ≤ 1000) (hbase : base ≤ w.heap.size) :
    Calls Try.prog 26 #[.pointer (some ⟨p, 0, none⟩), .agg #[.string nm, .int .i64 si]] w fun e w' => e = .returned (.tuple #[]) ∧
      ∃ g c, At w' p (.cells #[.slice (some ⟨g, 0, none⟩) (n + 1) c] 66 (0, 0)) ∧ w'.ownsRow base 68 2 (.slice (some ⟨g, 0, none⟩) (n + 1) c) (n + 1) (xs ++ [.string nm, .int .i64 si]) ∧
        Mod (fun k => k = p ∨ v.ownBlock = some k) w w' ∧ (v.ownBlock = some g ∨ w.heap.size ≤ g) := by
  obtain ⟨i0, hi0, hz0, hz1, hz2⟩ := info_parts info68
  obtain ⟨A, c, rfl⟩ := hv
  have hlt := hp.lt
  have hc : w.cell? ⟨p, 0, none⟩ = some (.slice A n c) := hp.cell 0
  have hf := hp.free 0
  have hlt1 : p < w.heap.size + 1 := by omega
  have hnews : Hid (∀ j u, ([.string nm, .int .i64 si] : List Value)[j]? = some u → (((w.alloc (.cells #[.string nm, .int .i64 si] 68)).alloc (.cells #[.string nm, .int .i64 si] 68)).drew).cell? ((⟨w.heap.size + 1, 0, none⟩ : Addr).add j) = some u) := by
    intro j u hu
    have h := At.cell (At.drew (At.new (w.alloc (.cells #[.string nm, .int .i64 si] 68)) (.cells #[.string nm, .int .i64 si] 68))) j
    rw [show (⟨w.heap.size + 1, 0, none⟩ : Addr).add j = ⟨w.heap.size + 1, j, none⟩ from by unfold Addr.add; split <;> simp_all]
    rw [show (w.alloc (.cells #[.string nm, .int .i64 si] 68)).heap.size = w.heap.size + 1 from by simp] at h
    rw [h]
    simpa using hu
  have h1 : Hid (∀ u ∈ ([.string nm, .int .i64 si] : List Value), u.oneCell' = true) := by
    intro u hu
    simp at hu
    rcases hu with rfl | rfl <;> rfl
  have hne : some p ≠ (Value.slice A n c).ownBlock := own_ne hown hp (by decide)
  have hp2 := hid (((At.alloc hp (.cells #[.string nm, .int .i64 si] 68)).alloc (.cells #[.string nm, .int .i64 si] 68)).drew)
  have hown2 := hid ((((hown.alloc (.cells #[.string nm, .int .i64 si] 68)).alloc (.cells #[.string nm, .int .i64 si] 68)).drew))
  go_enter Try.func26, Try.ntmps26
  go_wp2
  go_region_law (first | ((go_loud (refine step_append_lies _ rfl (.tmp 8) (.tmp 10) 64 rfl base 68 i0 (.agg #[.string ByteArray.empty, .int .i64 0]) 2 24 Try.underlying64 hi0 hz0 hz1 hz2 rfl (by omega) (.slice A n c) n xs (by simp [Act.eval, Act.put]) hown2.out ⟨w.heap.size + 1, 0, none⟩ 1 1 [.string nm, .int .i64 si] (by simp [Act.eval, Act.put]) rfl hnews.out h1.out (by omega) (by unfold maxLen; omega) (by omega) (by simp; omega) _ rfl ?_)); intro g cap w1 hown1 hg1 hat1 hlt2; have hc1 := (World.cell?_of_block (a := ⟨p, 0, none⟩) (hg1.block p hp2.out.lt hne)).trans (At.one hp2.out); have hf1 := (World.frozen?_of_block (a := ⟨p, 0, none⟩) (hg1.block p hp2.out.lt hne)).trans (At.free hp2.out 0)))
  all_goals go_wp2
  all_goals go_end0
  all_goals
    refine ⟨rfl, g, cap, ?_, ?_, ?_, ?_⟩
    · have q : At w1 p (.cells #[.slice A n c] 66 (0, 0)) := by
        unfold At
        rw [hg1.block p hp2.out.lt hne]
        exact hp2.out
      exact q.put 0 _
    · refine ownsRow_setCell_far hown1 (a := ⟨p, 0, none⟩) (fun k hk => ?_) _
      intro he
      have : some p = (Value.slice (some ⟨g, 0, none⟩) (n + 1) cap).ownBlock := by rw [hk, he]
      have q : At w1 p (.cells #[.slice A n c] 66 (0, 0)) := by
        unfold At
        rw [hg1.block p hp2.out.lt hne]
        exact hp2.out
      exact own_ne hown1 q (by decide) this
    · have m0 : Mod (fun k => k = p ∨ (Value.slice A n c).ownBlock = some k) w (((w.alloc (.cells #[.string nm, .int .i64 si] 68)).alloc (.cells #[.string nm, .int .i64 si] 68)).drew) := (((Mod.refl _ _).alloc _).alloc _).drew
      refine Mod.put (m0.trans' (T := fun k => (Value.slice A n c).ownBlock = some k) ⟨hg1.os, hg1.tape, hg1.output, hg1.size, fun k hk hn => hg1.block k hk (fun e => hn e.symm)⟩ (fun _ _ h => Or.inr h)) _ (fun _ => Or.inl rfl)
    · rcases hat1 with h | h
      · exact Or.inl h
      · refine Or.inr ?_
        have : (((w.alloc (.cells #[.string nm, .int .i64 si] 68)).alloc (.cells #[.string nm, .int .i64 si] 68)).drew).heap.size = w.heap.size + 1 + 1 := by show ((w.alloc _).alloc _).heap.size = _; simp
        omega

theorem pop_c (p n g c : Nat) (xs : List Value) (nm : ByteArray) (si : Int) (w : World) (hp : At w p (.cells #[.slice (some ⟨g, 0, none⟩) (n + 1) c] 66 (0, 0)))
    (hown : w.ownsRow 0 68 2 (.slice (some ⟨g, 0, none⟩) (n + 1) c) (n + 1) (xs ++ [.string nm, .int .i64 si])) (hx : xs.length = n * 2) (hn : n ≤ 1000) :
    Calls Try.prog 28 #[.pointer (some ⟨p, 0, none⟩)] w fun e w' => e = .returned (.agg #[.string nm, .int .i64 si]) ∧
      At w' p (.cells #[.slice (some ⟨g, 0, none⟩) n c] 66 (0, 0)) ∧ w'.ownsRow 0 68 2 (.slice (some ⟨g, 0, none⟩) n c) n xs ∧ Mod (fun k => k = p) w w' := by
  have hlt := hp.lt
  have hlt1 : p < w.heap.size + 1 := by omega
  have hc := At.one hp
  have hf := hp.free 0
  have hg := hown.cells (g := g) rfl
  have g0 : w.cell? ⟨g, n * 2, none⟩ = some (.string nm) := by
    have := hg (n * 2) (.string nm) (by rw [← hx]; simp)
    rwa [add_plain] at this
  have g1 : w.cell? ⟨g, n * 2 + 1, none⟩ = some (.int .i64 si) := by
    have := hg (n * 2 + 1) (.int .i64 si) (by rw [← hx]; simp)
    rwa [add_plain] at this
  have hgl : g < w.heap.size := World.block_lt_of_cell? w _ g0
  have hgl1 : g < w.heap.size + 1 := by omega
  clear hg
  have hcap : n ≤ c ∧ ((n : Nat) : Int) ≤ c ∧ n + 1 ≤ c := by
    rcases hown.2 with ⟨h, _⟩ | ⟨g', cap', cur, he, _, _, h1, _⟩
    · cases h
    · cases he
      omega
  obtain ⟨hcap, hcapi, hcap1⟩ := hcap
  go_enter Try.func28, Try.ntmps28
  go_wp2
  refine bodyPost_ret (v := .agg #[.string nm, .int .i64 si]) (by simp [results, Try.results28, go_sem]) rfl ⟨rfl, ?_, ?_, ?_⟩
  · exact ((At.put hp 0 _).alloc _).alloc _
  · refine World.ownsRow.alloc (World.ownsRow.alloc (ownsRow_setCell_far (ownsRow_pop hx hown) (fun k hk => ?_) _) _) _
    intro he
    have he' : k = p := he
    subst he'
    exact own_ne hown hp (by decide) (by simpa [Value.ownBlock] using hk.symm)
  · exact (((Mod.refl (fun k => k = p) w).put (p := ⟨p, 0, none⟩) _ (fun _ => rfl)).alloc _).alloc _
end Go.Proofs.Ytknijmhhlfooaaa
