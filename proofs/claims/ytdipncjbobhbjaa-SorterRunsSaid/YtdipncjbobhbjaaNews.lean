/- The law SorterNews: its walk. -/
import Derived.Test.YtdipncjbobhbjaaRef1
namespace Go.Proofs.Ytdipncjbobhbjaa
open Go.RowKit
set_option linter.unusedVariables false
set_option linter.unusedSimpArgs false

theorem tot_empties (n : Nat) : ∀ i, tot (empties n) i = 0
  | 0 => rfl
  | i + 1 => by simp [tot, tot_empties n i, bi_empties]
theorem big_empties (n : Nat) : ∀ i, big (empties n) i = (0, 0)
  | 0 => rfl
  | i + 1 => by simp [big, big_empties n i, bi_empties]
theorem full_empties {cap : Int} (n : Nat) (h : 1 ≤ cap) : fullI cap (empties n) = 0 ∧ fullB cap (empties n) = false :=
  full_no (fun j _ => by simp [isFull, bi_empties]; omega)
theorem take_empties {n : Nat} (h : 1 ≤ n) : takeR (empties n) ((n : Int) - 1) = (empties n, ByteArray.empty, [], 18) := by
  rw [takeR, if_neg (by rw [empties_len]; omega), if_pos (by rw [bi_empties]; rfl)]
theorem take_past {n : Nat} : takeR (empties n) (n : Int) = (empties n, ByteArray.empty, [], 9) := by
  rw [takeR, if_pos (by rw [empties_len]; omega)]

theorem sorterNews_walk (nb cap : Int) (w : World) (_ : (Lit.int .i64 nb).wf = true) (_ : (Lit.int .i64 cap).wf = true) :
    Calls Try.prog 5 #[.int .i64 nb, .int .i64 cap] w fun e w' => e = .returned (.bool true) ∧ Below w.heap.size w w' := by
  by_cases hg : 1 ≤ nb ∧ nb ≤ 16 ∧ 1 ≤ cap ∧ cap ≤ 32
  · obtain ⟨h1, h2, h3, h4⟩ := hg
    obtain ⟨n, rfl⟩ := Int.eq_ofNat_of_zero_le (show 0 ≤ nb by omega)
    go_enter Try.func5, Try.ntmps5
    go_wp2_with fail
    refine (new_good n cap w (by omega) (by omega) h3 h4).mono ?_
    rintro e w1 ⟨s, rfl, hs, hf, m1⟩
    have Hs := hid hs
    have Hf := hid hf
    clear hs hf
    go_wp2_with fail
    refine (rnew_good n cap w1 (by omega) (by omega) h3 h4).mono ?_
    rintro e w2 ⟨v, rfl, hr, m2⟩
    obtain ⟨A, c, xs, rfl, _, _⟩ := hr
    have Hs2 := hid (Hs.out.mod0 (m2.alloc (.cells #[.int .i64 cap, .slice A (empties n).length c] 45)))
    have mm := (m1.trans m2).alloc (.cells #[.int .i64 cap, .slice A (empties n).length c] 45)
    generalize (empties n).length = L at Hs2 mm
    go_wp2_with fail
    refine (full_c _ Hs2.out Hf.out).mono ?_
    rw [(full_empties n h3).1, (full_empties n h3).2]
    rintro e w3 ⟨rfl, m3⟩
    have Hs3 := hid (Hs2.out.mod0 m3)
    go_wp2_with fail
    refine (fullest_c _ Hs3.out Hf.out).mono ?_
    rw [big_empties]
    rintro e w4 ⟨rfl, m4⟩
    have Hs4 := hid (Hs3.out.mod0 m4)
    go_wp2_with fail
    refine (take_any ((n : Int) - 1) _ Hs4.out Hf.out).mono ?_
    rw [take_empties (by omega)]
    rintro e w5 ⟨A5, c5, rfl, _, hs5, m5⟩
    have Hs5 := hid hs5
    clear hs5
    go_wp2_with fail
    refine (take_any (n : Int) _ Hs5.out Hf.out).mono ?_
    rw [take_past]
    rintro e w6 ⟨A6, c6, rfl, _, hs6, m6⟩
    have Hs6 := hid hs6
    clear hs6
    go_wp2_with fail
    refine (len_c _ Hs6.out Hf.out).mono ?_
    rw [tot_empties]
    rintro e w7 ⟨rfl, m7⟩
    go_wp2_with fail
    refine (awake_c _).mono ?_
    rintro e w8 ⟨rfl, m8⟩
    go_wp2_with fail
    go_ret
    refine ⟨rfl, ?_⟩
    have q := ((((MT.of0 mm).trans (MT.of0 m3)).trans (MT.of0 m4)).trans m5 |>.trans m6).trans (MT.of0 m7)
    exact (q.below (Nat.le_refl _)).trans (m8.mono q.size)
  · have hb : nb < 1 ∨ (1 ≤ nb ∧ 16 < nb) ∨ (1 ≤ nb ∧ nb ≤ 16 ∧ cap < 1) ∨ (1 ≤ nb ∧ nb ≤ 16 ∧ 1 ≤ cap ∧ 32 < cap) := by omega
    clear hg
    have Hb := hid hb
    clear hb
    go_enter Try.func5, Try.ntmps5
    go_wp2_with fail
    refine (new_bad nb cap w Hb.out).mono ?_
    rintro e w1 ⟨rfl, rfl⟩
    go_wp2_with fail
    refine (rnew_bad nb cap _ Hb.out).mono ?_
    rintro e w2 ⟨rfl, m2⟩
    go_wp2_with fail
    refine (awake_c _).mono ?_
    rintro e w8 ⟨rfl, m8⟩
    go_wp2_with fail
    go_ret
    exact ⟨rfl, ((m2.alloc _).toBelow _ (Nat.le_refl _) (fun _ _ h => h)).trans (m8.mono (m2.alloc _).size)⟩
end Go.Proofs.Ytdipncjbobhbjaa
