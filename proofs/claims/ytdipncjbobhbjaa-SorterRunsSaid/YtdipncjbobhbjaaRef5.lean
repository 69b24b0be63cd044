/- The specification's Take: its contract. -/
import Derived.Test.YtdipncjbobhbjaaRef4
import Derived.Deep.RegionHeld3
import Derived.Deep.DrawnRows
namespace Go.Proofs.Ytdipncjbobhbjaa
open Go.RowKit Go.Maps
set_option linter.unusedVariables false
set_option linter.unusedSimpArgs false

/-- What a call of the specification leaves of the rows' blocks. -/
abbrev NewN (N : Nat → Prop) (w : World) : Nat → Prop := fun g => N g ∨ w.heap.size ≤ g

theorem put_res {w w' : World} (m : Mod (fun _ => False) w w') {R : Nat} (hR : w.heap.size ≤ R) (u0 u1 : Value) : Mod (fun _ => False) w ((w'.setCell ⟨R, 0, none⟩ u0).setCell ⟨R, 1, none⟩ u1) := m.none_of (R := R) (((Mod.refl _ _).here _ _).here _ _) hR
theorem own_res {w' : World} {base : Nat} {e : TypeId} {size n : Nat} {v : Value} {xs : List Value} (h : w'.ownsRow base e size v n xs) {R : Nat} {cs : Array Value} {fr : Nat × Nat} (ha : At w' R (.cells cs 45 fr)) (he : e ≠ 45) (u0 u1 : Value) : ((w'.setCell ⟨R, 0, none⟩ u0).setCell ⟨R, 1, none⟩ u1).ownsRow base e size v n xs :=
  own_mod h (((Mod.refl (fun k => k = R) w').here 0 u0).here 1 u1) (fun g hg e' => own_ne h ha he (by rw [hg, e']))
theorem RefN.res {N : Nat → Prop} {w' : World} {v : Value} {cap : Int} {bins : List Bin} (h : RefN N w' v cap bins) {R : Nat} {cs : Array Value} {fr : Nat × Nat} (ha : At w' R (.cells cs 45 fr)) (u0 u1 : Value) : RefN N ((w'.setCell ⟨R, 0, none⟩ u0).setCell ⟨R, 1, none⟩ u1) v cap bins := by
  obtain ⟨A, c, xs, rfl, h1, h1', h2⟩ := h
  refine ⟨A, c, xs, rfl, own_res h1 ha (by decide) u0 u1, h1', fun i hi => ?_⟩
  obtain ⟨x, a, b, d, f, z⟩ := h2 i hi
  exact ⟨x, a, b, own_res d ha (by decide) u0 u1, f, z⟩

theorem nil_own (N : Nat → Prop) : ∀ g, (Value.slice none 0 0).ownBlock = some g → N g := fun g hg => by simp [Value.ownBlock] at hg
set_option maxHeartbeats 3200000 in
theorem rtake_any {N : Nat → Prop} {v : Value} {cap : Int} {bins : List Bin} (n : Int) (w : World) (h : RefN N w v cap bins) (hf : Fits cap bins) :
    Calls Try.prog 19 #[v, .int .i64 n] w fun e w' => ∃ v' A c, e = .returned (.tuple #[v', .string (takeR bins n).2.1, .slice A (takeR bins n).2.2.1.length c, .int .i64 (takeR bins n).2.2.2]) ∧
      w'.ownsRow 0 9 1 (.slice A (takeR bins n).2.2.1.length c) (takeR bins n).2.2.1.length ((takeR bins n).2.2.1.map .string) ∧ RefN (NewN N w) w' v' cap (takeR bins n).1 ∧ Mod (fun _ => False) w w' := by
  obtain ⟨A, c, rfl⟩ := h.val
  have hn16 := hf.n2
  have hlen := hf.len32
  have Hlen := hid hlen
  clear hf hlen
  have H := hid h
  clear h
  obtain ⟨w2, hw2⟩ : ∃ w2 : World, w2 = (w.alloc (.cells #[.int .i64 cap, .slice A bins.length c] 45)).alloc (.cells #[.int .i64 0, .slice none 0 0] 45) := ⟨_, rfl⟩
  have m2 : Mod (fun _ => False) w w2 := by rw [hw2]; exact ((Mod.refl _ _).alloc _).alloc _
  have hS2 : At w2 w.heap.size (.cells #[.int .i64 cap, .slice A bins.length c] 45 (0, 0)) := by rw [hw2]; exact (At.new _ _).alloc _
  have hR2 : At w2 (w.heap.size + 1) (.cells #[.int .i64 0, .slice none 0 0] 45 (0, 0)) := by
    rw [hw2]
    have := At.new (w.alloc (.cells #[.int .i64 cap, .slice A bins.length c] 45)) (.cells #[.int .i64 0, .slice none 0 0] 45)
    simpa using this
  have hsz2 : w2.heap.size = w.heap.size + 2 := by rw [hw2]; simp
  have Hsz2 := hid hsz2
  have hl2 : w.heap.size < w2.heap.size := by omega
  have hl21 : w.heap.size + 1 < w2.heap.size := by omega
  have M2 := hid m2
  have H2 := hid (H.out.mod0 m2)
  have HR2 := hid hR2
  have HS2 := hid hS2
  have Hw2 := hid hw2
  obtain ⟨s0, s1⟩ := At.two hS2
  obtain ⟨r0, r1⟩ := At.two hR2
  have rf0 := hR2.free 0
  have rf1 := hR2.free 1
  clear hw2 m2 hS2 hR2 hsz2
  by_cases hn : n < 0 ∨ (bins.length : Int) ≤ n
  · have e : takeR bins n = (bins, ByteArray.empty, [], 9) := by rw [takeR, if_pos hn]
    rw [e]
    clear e
    have hn' : n < 0 ∨ (0 ≤ n ∧ (bins.length : Int) ≤ n) := by omega
    clear hn
    rcases hn' with hn | ⟨hn0, hn⟩
    · go_enter Try.func19, Try.ntmps19
      go_upto_region 1 with fail
      rw [← Hw2.out]
      go_wp2_with fail
      refine bodyPost_ret (v := .tuple #[.agg #[.int .i64 cap, .slice A bins.length c], .string ByteArray.empty, .slice none 0 0, .int .i64 9]) (by simp [results, Try.results19, go_sem, r0, r1]; rfl) rfl ⟨_, none, 0, rfl, World.ownsRow_nil _ _ _ _, ?_, put_res M2.out (by omega) _ _⟩
      exact (H2.out.mono (fun g _ q => .inl q)).res HR2.out _ _
    · have hn1 : ¬ n < 0 := by omega
      go_enter Try.func19, Try.ntmps19
      go_upto_region 1 with fail
      rw [← Hw2.out]
      go_wp2_with fail
      refine bodyPost_ret (v := .tuple #[.agg #[.int .i64 cap, .slice A bins.length c], .string ByteArray.empty, .slice none 0 0, .int .i64 9]) (by simp [results, Try.results19, go_sem, r0, r1]; rfl) rfl ⟨_, none, 0, rfl, World.ownsRow_nil _ _ _ _, ?_, put_res M2.out (by omega) _ _⟩
      exact (H2.out.mono (fun g _ q => .inl q)).res HR2.out _ _
  · obtain ⟨k, rfl⟩ := Int.eq_ofNat_of_zero_le (show 0 ≤ n by omega)
    have hk : k < bins.length := by omega
    have hk0 : ¬ (k : Int) < 0 := by omega
    have hk1 : ¬ (bins.length : Int) ≤ k := by omega
    have hk2 : (k : Int) < bins.length := by omega
    obtain ⟨g, A', cc, rfl, hg, p0, p1, hrow⟩ := H2.out.row hk
    have hl32 := Hlen.out k hk
    have Hnn := hid hn
    by_cases he : (bi bins k).length = 0
    · have e : takeR bins (k : Int) = (bins, ByteArray.empty, [], 18) := by rw [takeR, if_neg hn, Int.toNat_natCast, if_pos he]
      rw [e]
      rw [he] at p1
      clear e hn he hrow
      go_enter Try.func19, Try.ntmps19
      go_upto_region 1 with fail
      rw [← Hw2.out]
      go_wp2_with fail
      have hWf := ((HR2.out.put 0 (.int .i64 cap)).put 1 (.slice (some ⟨g, 0, none⟩) bins.length c)).alloc (.cells #[.string (bk bins k), .slice A' 0 cc] 70)
      obtain ⟨f0, f1⟩ := At.two (show At _ (w.heap.size + 1) (.cells #[.int .i64 cap, .slice (some ⟨g, 0, none⟩) bins.length c] 45 (0, 0)) from hWf)
      refine bodyPost_ret (v := .tuple #[.agg #[.int .i64 cap, .slice (some ⟨g, 0, none⟩) bins.length c], .string ByteArray.empty, .slice none 0 0, .int .i64 18]) (by simp [results, Try.results19, go_sem, f0, f1]; rfl) rfl ⟨_, none, 0, rfl, World.ownsRow_nil _ _ _ _, ?_, (put_res M2.out (by omega) _ _).alloc _⟩
      exact ((H2.out.mono (fun g _ q => .inl q)).res HR2.out _ _).mod0 ((Mod.refl _ _).alloc _)
    · have e : takeR bins (k : Int) = (bins.set k (ByteArray.empty, []), bk bins k, bi bins k, 0) := by rw [takeR, if_neg hn, Int.toNat_natCast, if_neg he]
      rw [e]
      have hpos : ¬ ((bi bins k).length : Int) = 0 := by omega
      clear e hn he
      generalize hit : bi bins k = l at p1 hrow hl32 hpos
      generalize hky : bk bins k = K at p0
      have Hrow := hid hrow
      clear hrow hit hky
      have hL := hid (show l.length ≤ 32 from hl32)
      generalize hll : l.length = ll at p1 hl32 hpos
      have Hll := hid hll
      clear hll
      obtain ⟨w4, hw4⟩ : ∃ w4 : World, w4 = w2.alloc (.cells #[.string K, .slice A' ll cc] 70) := ⟨_, rfl⟩
      have m4 : Mod (fun _ => False) w2 w4 := by rw [hw4]; exact (Mod.refl _ _).alloc _
      have hb4 : At w4 w2.heap.size (.cells #[.string K, .slice A' ll cc] 70 (0, 0)) := by rw [hw4]; exact At.new _ _
      have m4d : Mod (fun _ => False) w4 w4.drew := (Mod.refl _ _).drew
      have Hw4 := hid hw4
      have HR4 := hid ((HR2.out.mod m4 id).mod m4d id)
      obtain ⟨a0, a1⟩ := At.two (HS2.out.mod m4 id)
      have HS4 := hid ((HS2.out.mod m4 id).mod m4d id)
      have Hb4 := hid (hb4.mod m4d id)
      have H4 := hid ((H2.out.mod0 m4).mod0 m4d)
      have M4 := hid ((M2.out.trans m4).trans m4d)
      have Hr4 := hid (own_mod0 (own_mod0 Hrow.out m4) m4d)
      obtain ⟨e0, e1⟩ := At.two hb4
      have hS4 : ∃ Z, Z = w4.heap.size := ⟨_, rfl⟩
      have hl4 := hb4.lt
      clear hw4 m4 hb4 m4d hS4
      go_enter Try.func19, Try.ntmps19
      go_upto_region 1 with fail
      rw [← Hw2.out]
      go_upto_region 6 with fail
      rw [← Hw4.out]
      have nb1 : w2.heap.size ≠ w.heap.size + 1 := by omega
      have nb3 : w.heap.size + 1 ≠ w2.heap.size := by omega
      have nb2 : w.heap.size ≠ w.heap.size + 1 := by omega
      go_region_held3 (fun w' => w'.cell? ⟨w.heap.size, 0, none⟩ = some (.int .i64 cap) ∧ w'.cell? ⟨w.heap.size, 1, none⟩ = some (.slice (some ⟨g, 0, none⟩) bins.length c) ∧ w'.cell? ⟨w2.heap.size, 0, none⟩ = some (.string K) ∧ w'.cell? ⟨w2.heap.size, 1, none⟩ = some (.slice A' ll cc)) (go_keep) (first
        | (go_at_call 26; refine (with_c k { data := #[] } [] (.slice none 0 0) _ H4.out hk hn16 (World.ownsRow_nil _ _ _ _) (nil_own N) (fun _ => rfl)).mono ?_; rintro e w5 ⟨v5, rfl, h5, m5⟩; obtain ⟨A5, c5, rfl⟩ := RefN.val h5; have hb5 := At.mod Hb4.out m5 id; have hb5' := At.two hb5; obtain ⟨x0, x1⟩ := hb5'; have hs5 := At.two (At.mod HS4.out m5 id); obtain ⟨x2, x3⟩ := hs5; have hR5 := At.mod HR4.out m5 id; have hR5' := At.two hR5; obtain ⟨y0, y1⟩ := hR5'; have z0 := At.free hR5 0; have z1 := At.free hR5 1; have H5 := hid h5; have M5 := hid m5))
      all_goals
        go_wp2_with fail
        have H5' := H5.out
        simp only [List.length_set] at H5'
        refine bodyPost_ret (v := .tuple #[.agg #[.int .i64 cap, .slice A5 bins.length c5], .string K, .slice A' ll cc, .int .i64 0]) (by simp [results, Try.results19, go_sem, y0, y1]) rfl ⟨_, A', cc, rfl, ?_, ?_, put_res (M4.out.trans M5.out) (by omega) _ _⟩
        · have hr5 := own_res (own_mod0 Hr4.out M5.out) hR5 (by decide) (.int .i64 cap) (.slice A5 bins.length c5)
          rw [Hll.out] at hr5
          exact hr5
        · refine (H5'.mono (fun q _ hq => ?_)).res hR5 _ _
          rcases hq with hq | hq
          · exact .inl hq
          · exact .inr (Nat.le_trans M4.out.size hq)
end Go.Proofs.Ytdipncjbobhbjaa
