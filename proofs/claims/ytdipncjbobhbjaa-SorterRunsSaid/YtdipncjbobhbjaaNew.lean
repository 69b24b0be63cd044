/- New: its contract. -/
import Derived.Test.YtdipncjbobhbjaaPut
import Derived.Carry
namespace Go.Proofs.Ytdipncjbobhbjaa
open Go.RowKit Go.Maps
set_option linter.unusedVariables false
set_option linter.unusedSimpArgs false

theorem info64 : (Try.prog.info? 64).map (fun i => (i.zero, i.size, i.bytes)) = some (some (.agg #[.string ByteArray.empty, .slice none 0 0, .map none]), 3, 48) := by kernel_rfl

theorem new_bad (nb cap : Int) (w : World) (h : nb < 1 ∨ (1 ≤ nb ∧ 16 < nb) ∨ (1 ≤ nb ∧ nb ≤ 16 ∧ cap < 1) ∨ (1 ≤ nb ∧ nb ≤ 16 ∧ 1 ≤ cap ∧ 32 < cap)) :
    Calls Try.prog 11 #[.int .i64 nb, .int .i64 cap] w fun e w' => e = .returned (.tuple #[.pointer none, .int .i64 9]) ∧ w = w' := by
  rcases h with h | h | h | h
  all_goals
    try obtain ⟨g1, h⟩ := h
    try obtain ⟨g2, h⟩ := h
    try obtain ⟨g3, h⟩ := h
    go_enter Try.func11, Try.ntmps11
    go_wp2_with fail
    go_ret2
    exact ⟨rfl, rfl⟩

def empties (n : Nat) : List Bin := List.replicate n (ByteArray.empty, [])
theorem empties_len (n : Nat) : (empties n).length = n := by simp [empties]
theorem bk_empties (n i : Nat) : bk (empties n) i = ByteArray.empty := by
  unfold bk empties
  rw [List.getD_eq_getElem?_getD, List.getElem?_replicate]
  split <;> rfl
theorem bi_empties (n i : Nat) : bi (empties n) i = [] := by
  unfold bi empties
  rw [List.getD_eq_getElem?_getD, List.getElem?_replicate]
  split <;> rfl

structure NewIn (w : World) (R s : Nat) (cap : Int) (n i : Nat) (ms : Nat → Nat) (wr : World) : Prop where
  hs : At wr s (.cells #[.slice (some ⟨R, 0, none⟩) n n, .int .i64 cap] 61 (0, 0))
  hR : ∃ arr, At wr R (.cells arr 64 (0, 0)) ∧ ∀ j, j < n → arr[j * 3]? = some (.string ByteArray.empty) ∧ arr[j * 3 + 1]? = some (.slice none 0 0) ∧ (∃ v, arr[j * 3 + 2]? = some v) ∧ (j < i → arr[j * 3 + 2]? = some (.map (some (ms j))))
  hm : ∀ j, j < i → w.heap.size ≤ ms j ∧ MapAt wr (ms j) []
  dm : ∀ j k, j < i → k < i → j ≠ k → ms j ≠ ms k
  m : Mod (fun _ => False) w wr

theorem new_good (n : Nat) (cap : Int) (w : World) (h1 : 1 ≤ n) (h2 : n ≤ 16) (h3 : 1 ≤ cap) (h4 : cap ≤ 32) :
    Calls Try.prog 11 #[.int .i64 (n : Int), .int .i64 cap] w fun e w' => ∃ s, e = .returned (.tuple #[.pointer (some ⟨s, 0, none⟩), .int .i64 0]) ∧
      SorterAt w.heap.size w' s cap (empties n) ∧ Fits cap (empties n) ∧ Mod (fun _ => False) w w' := by
  obtain ⟨i0, hi0, hz0, hz1, hz2⟩ := info_parts info64
  have a1 : ¬ (n : Int) < 1 := by omega
  have a2 : ¬ (16 : Int) < n := by omega
  have a3 : ¬ cap < 1 := by omega
  have a4 : ¬ (32 : Int) < cap := by omega
  have hmm := @run_makeMap Try.prog
  go_enter Try.func11, Try.ntmps11
  go_wp2_with (first | (at_make; refine wpList_make_full _ rfl (.tmp 22) (.tmp 22) 59 rfl w.heap.size 64 i0 (.agg #[.string ByteArray.empty, .slice none 0 0, .map none]) 3 Try.underlying59 hi0 hz0 hz1 .i64 .i64 (n : Int) (n : Int) n rfl rfl rfl rfl ?b2 ?b3 ?b4 ?_))
  case b2 => omega
  case b3 => unfold maxLen; omega
  intro w1 hown hg
  have m1 : Mod (fun _ => False) w w1 := ⟨hg.os, hg.tape, hg.output, hg.size, fun k hk _ => hg.block k hk (by simp)⟩
  obtain ⟨arr, hA⟩ := own_at hown (g := w.heap.size) rfl
  have hcells : ∀ j, j < n * 3 → arr[j]? = (madeCells (Value.agg #[.string ByteArray.empty, .slice none 0 0, .map none]).cells (n * 3)).toList[j]? := fun j hj => by
    have hv : ∃ v, (madeCells (Value.agg #[.string ByteArray.empty, .slice none 0 0, .map none]).cells (n * 3)).toList[j]? = some v := by
      simp [madeCells, hj]
    obtain ⟨v, hv⟩ := hv
    have := hown.cells (g := w.heap.size) rfl j v hv
    rw [add_plain, hA.cell] at this
    rw [this, hv]
  have hz : ∀ j, j < n → arr[j * 3]? = some (.string ByteArray.empty) ∧ arr[j * 3 + 1]? = some (.slice none 0 0) ∧ arr[j * 3 + 2]? = some (.map none) := fun j hj => by
    refine ⟨?_, ?_, ?_⟩
    · rw [hcells _ (by omega)]
      have e : (j * 3) % 3 = 0 := by omega
      have q : j * 3 < n * 3 := by omega
      simp [madeCells, Value.cells, q, e]
    · rw [hcells _ (by omega)]
      have e : (j * 3 + 1) % 3 = 1 := by omega
      have q : j * 3 + 1 < n * 3 := by omega
      simp [madeCells, Value.cells, q, e]
    · rw [hcells _ (by omega)]
      have e : (j * 3 + 2) % 3 = 2 := by omega
      have q : j * 3 + 2 < n * 3 := by omega
      simp [madeCells, Value.cells, q, e]
  have Hown := hid hown
  have hAl := hA.lt
  have M1 := hid m1
  have HZ := hid hz
  clear hown hg hcells hz m1
  go_wp2_with fail
  go_loopw [32] (fun s32 wr => ∃ (i : Nat) (ms : Nat → Nat), i ≤ n ∧ s32 = .int .i64 i ∧ NewIn w w.heap.size w1.heap.size cap n i ms wr)
    (fun s32 _ => n - (intOf s32).toNat)
  case atStart =>
    refine ⟨0, fun _ => 0, by omega, rfl, ⟨At.new _ _, ⟨arr, hA.alloc _, fun j hj => ⟨(HZ.out j hj).1, (HZ.out j hj).2.1, ⟨_, (HZ.out j hj).2.2⟩, fun h => by omega⟩⟩, fun j hj => by omega, fun j k hj => by omega, M1.out.alloc _⟩⟩
  case round =>
    obtain ⟨i, ms, hi, rfl, hN⟩ := hrel
    have hN' := hid hN
    by_cases hlt : i < n
    · obtain ⟨c0, c1⟩ := At.two hN.hs
      obtain ⟨ar, hR, hp⟩ := hN.hR
      obtain ⟨p0, p1, ⟨v, p2⟩, _⟩ := hp i hlt
      have q2 := arr_cell hR p2
      have f2 := hR.free (i * 3 + 2)
      have l1 := hR.lt
      have l2 := hN.hs.lt
      have l3 : w.heap.size < wr.heap.size + 1 := by omega
      have hil : (i : Int) < n := by omega
      have Hp := hid hp
      clear hp p0 p1 p2 hN
      go_wp2_with fail
      go_roundw
      case rel =>
        have hN := hN'.out
        have hRm : w.heap.size ≠ wr.heap.size := by omega
        have z2 : i * 3 + 2 < ar.size := by obtain ⟨_, _, ⟨v, p2⟩, _⟩ := Hp.out i hlt; exact (Array.getElem?_eq_some_iff.1 p2).1
        refine ⟨i + 1, fun j => if j = i then wr.heap.size else ms j, by omega, by go_num, ⟨?_, ⟨_, (hR.put _ _).alloc _, fun j hj => ?_⟩, fun j hj => ?_, fun j k hj hk hjk => ?_, ?_⟩⟩
        · exact (At.other hN.hs _ _ (cells_ne hN.hs hR (by decide))).alloc _
        · obtain ⟨p0, p1, ⟨v, p2⟩, p3⟩ := Hp.out j hj
          refine ⟨by simp [Array.getElem?_setIfInBounds]; rw [if_neg (by omega)]; exact p0, by simp [Array.getElem?_setIfInBounds]; rw [if_neg (by omega)]; exact p1, ?_, fun hji => ?_⟩
          · by_cases e : j = i
            · subst e
              exact ⟨_, by simp [Array.getElem?_setIfInBounds, z2]; rfl⟩
            · exact ⟨v, by simp [Array.getElem?_setIfInBounds]; rw [if_neg (by omega)]; exact p2⟩
          · by_cases e : j = i
            · subst e
              simp [Array.getElem?_setIfInBounds, z2]
            · simp only [if_neg e]
              simp [Array.getElem?_setIfInBounds]
              rw [if_neg (by omega)]
              exact p3 (by omega)
        · by_cases e : j = i
          · subst e
            simp only [if_true]
            have hmk := MapAt.made (w := wr.setCell ⟨w.heap.size, j * 3 + 2, none⟩ (.map (some wr.heap.size)))
            rw [show (wr.setCell ⟨w.heap.size, j * 3 + 2, none⟩ (.map (some wr.heap.size))).heap.size = wr.heap.size from by simp [World.setCell]] at hmk
            exact ⟨by omega, hmk⟩
          · simp only [if_neg e]
            obtain ⟨b1, b2⟩ := hN.hm j (by omega)
            have b3 := b2.same (Below.heap_setCell wr ⟨w.heap.size, i * 3 + 2, none⟩ (.map (some wr.heap.size)) (ms j) (fun q => map_ne hR b2 q.symm))
            exact ⟨b1, b3.same (Below.heap_alloc _ _ _ b3.lt)⟩
        · by_cases e : j = i
          · subst e
            have hkj : ¬ k = j := fun q => hjk q.symm
            simp only [if_true, if_neg hkj]
            have := (hN.hm k (by omega)).2.lt
            omega
          · simp only [if_neg e]
            by_cases e' : k = i
            · subst e'
              simp only [if_true]
              have := (hN.hm j (by omega)).2.lt
              omega
            · simp only [if_neg e']
              exact hN.dm j k (by omega) (by omega) hjk
        · exact (hN.m.put _ (fun h => by simp at h)).alloc _
      case measure => simp [intOf]; omega
    · obtain rfl : i = n := by omega
      obtain ⟨c0, c1⟩ := At.two hN.hs
      clear hN
      go_wp2_with fail
      go_ret2
      have hN := hN'.out
      have hs1 : w.heap.size ≤ w1.heap.size := M1.out.size
      have hl : (empties i).length = i := empties_len i
      refine ⟨_, rfl, ⟨w.heap.size, i, fun _ => .slice none 0 0, ms, ?_⟩, ⟨by rw [hl]; exact h1, by rw [hl]; exact h2, h3, h4, fun j _ => by rw [bi_empties]; simp; omega⟩, hN.m⟩
      obtain ⟨ar, hR, hp⟩ := hN.hR
      refine ⟨by rw [hl]; exact hN.hs, by rw [hl]; exact Nat.le_refl _, hs1, Nat.le_refl _, fun j hj => (hN.hm j (by rw [hl] at hj; exact hj)).1, ⟨ar, hR, fun j hj => ?_⟩, fun j hj => ?_, fun j hj => ?_, fun a b ha hb hab => ?_, fun a b ha hb hab => .inl rfl⟩
      · rw [hl] at hj
        rw [bk_empties]
        exact ⟨(hp j hj).1, (hp j hj).2.1, (hp j hj).2.2.2 hj⟩
      · rw [bi_empties]
        exact World.ownsRow_nil _ _ _ _
      · rw [hl] at hj
        rw [bi_empties]
        exact (hN.hm j hj).2
      · rw [hl] at ha hb
        exact hN.dm a b ha hb hab
end Go.Proofs.Ytdipncjbobhbjaa
