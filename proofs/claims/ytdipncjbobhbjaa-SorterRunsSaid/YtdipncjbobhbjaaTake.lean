/- Take: its contract. -/
import Derived.Test.YtdipncjbobhbjaaReads
namespace Go.Proofs.Ytdipncjbobhbjaa
open Go.RowKit Go.Maps
set_option linter.unusedVariables false
set_option linter.unusedSimpArgs false

theorem Mod.here {R : Nat} {a b : World} (h : Mod (fun k => k = R) a b) (i : Nat) (v : Value) : Mod (fun k => k = R) a (b.setCell ⟨R, i, none⟩ v) := h.put v (fun _ => rfl)
theorem take_range {B : Nat} {s : Nat} {cap : Int} {bins : List Bin} (n : Int) (w : World) (h : SorterAt B w s cap bins) (hn : n < 0 ∨ (0 ≤ n ∧ (bins.length : Int) ≤ n)) :
    Calls Try.prog 13 #[.pointer (some ⟨s, 0, none⟩), .int .i64 n] w fun e w' => e = .returned (.tuple #[.string ByteArray.empty, .slice none 0 0, .int .i64 9]) ∧ w = w' := by
  obtain ⟨R, c, vs, ms, h⟩ := h
  obtain ⟨c0, c1⟩ := At.two h.hs
  rcases hn with hn | ⟨hn0, hn⟩
  · go_enter Try.func13, Try.ntmps13
    go_wp2_with fail
    go_ret3
    exact ⟨rfl, rfl⟩
  · have hn1 : ¬ n < 0 := by omega
    go_enter Try.func13, Try.ntmps13
    go_wp2_with fail
    go_ret3
    exact ⟨rfl, rfl⟩
theorem take_empty {B : Nat} {s : Nat} {cap : Int} {bins : List Bin} (n : Nat) (w : World) (h : SorterAt B w s cap bins) (hn : n < bins.length) (he : bi bins n = []) :
    Calls Try.prog 13 #[.pointer (some ⟨s, 0, none⟩), .int .i64 (n : Int)] w fun e w' => e = .returned (.tuple #[.string ByteArray.empty, .slice none 0 0, .int .i64 18]) ∧ w = w' := by
  obtain ⟨R, c, vs, ms, h⟩ := h
  obtain ⟨c0, c1⟩ := At.two h.hs
  obtain ⟨A, cc, _, r0, r1, r2⟩ := h.row hn
  have hn0 : ¬ (n : Int) < 0 := by omega
  have hn1 : ¬ (bins.length : Int) ≤ n := by omega
  have hn2 : (n : Int) < bins.length := by omega
  rw [he] at r1
  simp only [List.length_nil] at r1
  clear he
  go_enter Try.func13, Try.ntmps13
  go_wp2_with fail
  go_ret3
  exact ⟨rfl, rfl⟩
theorem take_ok {B : Nat} {s : Nat} {cap : Int} {bins : List Bin} (n : Nat) (w : World) (h : SorterAt B w s cap bins) (hf : Fits cap bins) (hn : n < bins.length) (he : bi bins n ≠ []) :
    Calls Try.prog 13 #[.pointer (some ⟨s, 0, none⟩), .int .i64 (n : Int)] w fun e w' => ∃ A c, e = .returned (.tuple #[.string (bk bins n), .slice A (bi bins n).length c, .int .i64 0]) ∧
      w'.ownsRow B 9 1 (.slice A (bi bins n).length c) (bi bins n).length ((bi bins n).map .string) ∧ (∃ R c' vs ms, SIn B w' s cap (bins.set n (ByteArray.empty, [])) R c' vs ms ∧ ∀ g, (Value.slice A (bi bins n).length c).ownBlock = some g → ∀ i, i < bins.length → (vs i).ownBlock ≠ some g) ∧ MT B w w' := by
  obtain ⟨R, c, vs, ms, h⟩ := h
  obtain ⟨c0, c1⟩ := At.two h.hs
  obtain ⟨A, cc, hv, r0, r1, r2⟩ := h.row hn
  have Hv := hid hv
  have H := hid h
  have hn0 : ¬ (n : Int) < 0 := by omega
  have hn1 : ¬ (bins.length : Int) ≤ n := by omega
  have hn2 : (n : Int) < bins.length := by omega
  have hl := hf.len32 n hn
  have hpos : 0 < (bi bins n).length := by
    rcases hx : bi bins n with _ | ⟨a, l⟩
    · exact absurd hx he
    · simp
  generalize hL : (bi bins n).length = L at r1 hl hpos hv
  have HL := hid hL
  have hL0 : ¬ (L : Int) = 0 := by omega
  generalize hK : bk bins n = K at r0
  have HK := hid hK
  clear h he hf hL hK hv
  go_enter Try.func13, Try.ntmps13
  go_wp2_with fail
  go_quiet (fail)
  obtain ⟨w2, hw2⟩ : ∃ w2 : World, w2 = w.drewN nq := ⟨_, rfl⟩
  rw [← hw2]
  have m2 : Mod (fun _ => False) w w2 := by rw [hw2]; exact (Mod.refl _ _).drewN _
  have h2 := H.out.mod0 m2
  obtain ⟨arr, hA, hp⟩ := h2.hR
  obtain ⟨p0, p1, p2⟩ := hp n hn
  have hA3 := (hA.put (n * 3) (.string { data := #[] })).put (n * 3 + 1) (.slice none 0 0)
  have f0 := hA.free (n * 3)
  have f1 := hA.free (n * 3 + 1)
  have f1' := (hA.put (n * 3) (.string { data := #[] })).free (n * 3 + 1)
  have q2' : ((w2.setCell ⟨R, n * 3, none⟩ (.string { data := #[] })).setCell ⟨R, n * 3 + 1, none⟩ (.slice none 0 0)).cell? ⟨R, n * 3 + 2, none⟩ = some (.map (some (ms n))) := arr_cell hA3 (by simpa [Array.getElem?_setIfInBounds] using p2)
  have q0 := arr_cell hA p0
  have q1 := arr_cell hA p1
  have q2 := arr_cell hA p2
  have hlt := hA.lt
  have mP : Mod (fun k => k = R) w2 ((w2.setCell ⟨R, n * 3, none⟩ (.string { data := #[] })).setCell ⟨R, n * 3 + 1, none⟩ (.slice none 0 0)) := ((Mod.refl _ _).here _ _).here _ _
  have hm3 : MapAt ((w2.setCell ⟨R, n * 3, none⟩ (.string { data := #[] })).setCell ⟨R, n * 3 + 1, none⟩ (.slice none 0 0)) (ms n) (bi bins n) := (h2.hm n hn).mod mP (fun e => map_ne hA (h2.hm n hn) e.symm)
  obtain ⟨w4, hcl, hm4, m4⟩ := run_clear hm3
  have Hm4 := hid hm4
  have Hcl := hid m4
  have H2 := hid h2
  have Hp := hid hp
  have hneq : n * 3 ≠ n * 3 + 1 := by omega
  clear r0 r1 r2 c0 c1 h2 hm3 hm4 m4 hw2 hp p0 p1 p2
  go_wp2_with fail
  go_ret3
  have hA4 : At w4 R (.cells ((arr.setIfInBounds (n * 3) (.string { data := #[] })).setIfInBounds (n * 3 + 1) (.slice none 0 0)) 64 (0, 0)) := hA3.mod Hcl.out (fun e => map_ne hA (H2.out.hm n hn) e)
  have hmod : Mod (fun k => k = R ∨ k = ms n ∨ (vs n).ownBlock = some k) w2 w4 := (mP.mono (fun _ _ e => .inl e)).trans' Hcl.out (fun _ _ e => .inr (.inl e))
  obtain ⟨p0, p1, p2⟩ := Hp.out n hn
  have hsz : ∀ {j : Nat} {v : Value}, arr[j]? = some v → j < arr.size := fun h => (Array.getElem?_eq_some_iff.1 h).1
  have z0 := hsz p0
  have z1 := hsz p1
  obtain ⟨h5, m5⟩ := H2.out.change hn (k' := ByteArray.empty) (L := []) (v' := .slice none 0 0) hmod hA hA4 (by simp [Array.getElem?_setIfInBounds, z0]; rfl) (by simp [Array.getElem?_setIfInBounds, z1]) (by simp [Array.getElem?_setIfInBounds]) (fun j j0 j1 j2 => by simp [Array.getElem?_setIfInBounds, Ne.symm j0, Ne.symm j1]) (World.ownsRow_nil _ _ _ _) Hm4.out (.inl rfl)
  refine ⟨A, cc, rfl, ?_, ⟨_, _, _, _, h5, fun g hg i hi => ?_⟩, (MT.of0 m2).trans m5⟩
  rotate_left
  · by_cases e : i = n
    · simp only [if_pos e]
      simp [Value.ownBlock]
    · simp only [if_neg e]
      intro q
      have hvn : (vs n).ownBlock = some g := by rw [Hv.out, HL.out]; exact hg
      rcases H2.out.dv i n hi hn e with d | d
      · rw [d] at q; cases q
      · exact d (q.trans hvn.symm)
  have ho := H2.out.ho n hn
  rw [Hv.out, HL.out] at ho
  refine own_same ho (fun g hg => ?_)
  obtain ⟨cur, hc⟩ := own_at ho hg
  rw [Hcl.out.block g (by simpa [World.setCell] using hc.lt) (fun e => map_ne hc (H2.out.hm n hn) e), mP.block g hc.lt (fun e => cells_ne hc hA (by decide) e)]
end Go.Proofs.Ytdipncjbobhbjaa
