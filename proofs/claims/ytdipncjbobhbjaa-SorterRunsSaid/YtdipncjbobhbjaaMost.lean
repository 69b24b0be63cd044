/- The law SorterMost: its walk. -/
import Derived.Test.YtdipncjbobhbjaaFills
import Derived.Deep.LoopGhost
namespace Go.Proofs.Ytdipncjbobhbjaa
open Go.RowKit
set_option linter.unusedVariables false
set_option linter.unusedSimpArgs false

theorem big_spec (bins : List Bin) : ∀ n, (∀ j, j < n → (bi bins j).length ≤ (big bins n).2) ∧ ((big bins n).2 = 0 ∨ ((big bins n).1 < n ∧ (bi bins (big bins n).1).length = (big bins n).2))
  | 0 => ⟨fun j hj => by omega, .inl rfl⟩
  | n + 1 => by
    obtain ⟨h1, h2⟩ := big_spec bins n
    by_cases h : (big bins n).2 < (bi bins n).length
    · have e : big bins (n + 1) = (n, (bi bins n).length) := by rw [big, if_pos h]
      rw [e]
      refine ⟨fun j hj => ?_, .inr ⟨by show n < n + 1; omega, rfl⟩⟩
      show _ ≤ (bi bins n).length
      by_cases q : j = n
      · subst q; omega
      · have := h1 j (by omega); omega
    · have e : big bins (n + 1) = big bins n := by rw [big, if_neg h]
      rw [e]
      refine ⟨fun j hj => ?_, h2.imp id (fun ⟨a, b⟩ => ⟨by omega, b⟩)⟩
      by_cases q : j = n
      · subst q; omega
      · exact h1 j (by omega)
theorem tot_zero (bins : List Bin) : ∀ i, (∀ j, j < i → (bi bins j).length = 0) → tot bins i = 0
  | 0, _ => rfl
  | i + 1, h => by rw [tot, tot_zero bins i (fun j hj => h j (by omega)), h i (by omega)]
theorem tot_mem (bins : List Bin) : ∀ i j, j < i → (bi bins j).length ≤ tot bins i
  | i + 1, j, hj => by
    rw [tot]
    by_cases q : j = i
    · subst q; omega
    · have := tot_mem bins i j (by omega); omega
theorem tot_take {bins : List Bin} {k : Nat} (hk : k < bins.length) (key : ByteArray) : ∀ i, tot (bins.set k (key, [])) i + (if k < i then (bi bins k).length else 0) = tot bins i
  | 0 => by simp [tot]
  | i + 1 => by
    have ih := tot_take hk key i
    simp only [tot]
    rw [bi_set hk]
    by_cases e : i = k
    · subst e
      simp at ih ⊢
      omega
    · by_cases h : k < i
      · have : k < i + 1 := by omega
        rw [if_pos h] at ih
        rw [if_pos this, if_neg e]
        omega
      · have : ¬ k < i + 1 := by omega
        rw [if_neg h] at ih
        rw [if_neg this, if_neg e]
        omega
theorem fullB_of {cap : Int} {bins : List Bin} : fullB cap bins = true ↔ ∃ j, j < bins.length ∧ ((bi bins j).length : Int) = cap := by
  unfold fullB
  rcases first_cases (isFull cap bins) bins.length with ⟨h1, h2⟩ | ⟨k, hk, h1, h2, h3⟩
  · rw [h1]
    constructor
    · intro h; simp at h
    · rintro ⟨j, hj, e⟩
      have := h2 j hj
      simp [isFull, e] at this
  · rw [h1]
    constructor
    · intro _
      exact ⟨k, hk, by simpa [isFull] using h2⟩
    · intro _
      simp
/-- What the fullest bin is. -/
theorem most_is {cap : Int} {bins : List Bin} (hf : Fits cap bins) (h0 : 0 < tot bins bins.length) :
    ∃ k M : Nat, big bins bins.length = (k, M) ∧ k < bins.length ∧ 0 < M ∧ M ≤ 32 ∧ (bi bins k).length = M ∧ (∀ j, j < bins.length → (bi bins j).length ≤ M) ∧ (fullB cap bins = decide ((M : Int) = cap)) ∧
      takeR bins (k : Int) = (bins.set k (ByteArray.empty, []), bk bins k, bi bins k, 0) ∧ tot (bins.set k (ByteArray.empty, [])) (bins.set k (ByteArray.empty, [])).length + M = tot bins bins.length := by
  obtain ⟨h1, h2⟩ := big_spec bins bins.length
  have hb := (hf.big bins.length (Nat.le_refl _)).2
  rcases hq : big bins bins.length with ⟨k, M⟩
  rw [hq] at h1 h2 hb
  simp only at h1 h2 hb
  have hM : 0 < M := by
    rcases Nat.eq_zero_or_pos M with e | e
    · subst e
      rw [tot_zero bins bins.length (fun j hj => by have := h1 j hj; omega)] at h0
      omega
    · exact e
  obtain ⟨hk, hl⟩ := h2.resolve_left (by omega)
  refine ⟨k, M, rfl, hk, hM, hb, hl, h1, ?_, ?_, ?_⟩
  · rw [Bool.eq_iff_iff, fullB_of, decide_eq_true_eq]
    constructor
    · rintro ⟨j, hj, e⟩
      have a := h1 j hj
      have b := hf.len k hk
      omega
    · intro e
      exact ⟨k, hk, by omega⟩
  · rw [takeR, if_neg (by omega), Int.toNat_natCast, if_neg (by omega)]
  · have := tot_take hk ByteArray.empty bins.length
    rw [if_pos hk, hl] at this
    rw [List.length_set]
    exact this
theorem none_is {cap : Int} {bins : List Bin} (hf : Fits cap bins) (h0 : tot bins bins.length = 0) : fullB cap bins = false ∧ (big bins bins.length).2 = 0 := by
  have hz : ∀ j, j < bins.length → (bi bins j).length = 0 := fun j hj => by have := tot_mem bins bins.length j hj; omega
  constructor
  · rw [Bool.eq_false_iff]
    intro h
    obtain ⟨j, hj, e⟩ := fullB_of.1 h
    have := hz j hj
    have := hf.c1
    omega
  · obtain ⟨_, h2⟩ := big_spec bins bins.length
    rcases h2 with h2 | ⟨h2, h3⟩
    · exact h2
    · rw [← h3, hz _ h2]

set_option maxRecDepth 100000 in
set_option maxHeartbeats 3200000 in
theorem sorterMost_walk (nb cap : Int) (A : Option Addr) (n c : Nat) (f : Nat → Cl) (w : World) (h : Ops w A n f) :
    Calls Try.prog 7 #[.agg #[.int .i64 nb, .int .i64 cap, .slice A n c]] w fun e w' => e = .returned (.bool true) ∧ Below w.heap.size w w' := by
  have hbox := At.new w (.cells #[.int .i64 nb, .int .i64 cap, .slice A n c] 24)
  have m0 : Mod (fun _ => False) w (w.alloc (.cells #[.int .i64 nb, .int .i64 cap, .slice A n c] 24)) := (Mod.refl _ _).alloc _
  have hops := h.mod m0 (fun _ _ _ _ h => h)
  have Hops := hid hops
  have Hbox := hid hbox
  have M0 := hid m0
  clear hbox m0 hops h
  cases hs : smallF n f
  · have Hs := hid hs
    clear hs
    go_enter Try.func7, Try.ntmps7
    go_wp2_with fail
    refine (small_c nb cap A n c f _ Hops.out).mono ?_
    rw [Hs.out]
    rintro e w1 ⟨rfl, m1⟩
    have M1 := hid (M0.out.trans m1)
    go_wp2_with fail
    refine (awake_c _).mono ?_
    rintro e w8 ⟨rfl, m8⟩
    go_wp2_with fail
    go_ret
    exact ⟨rfl, (M1.out.toBelow _ (Nat.le_refl _) (fun _ _ h => h)).trans (m8.mono M1.out.size)⟩
  · obtain ⟨hn150, hsm⟩ := smallF_true hs
    have Hsm := hid hsm
    have Hs := hid hs
    clear hs hsm
    go_enter Try.func7, Try.ntmps7
    go_wp2_with fail
    refine (small_c nb cap A n c f _ Hops.out).mono ?_
    rw [Hs.out]
    rintro e w1 ⟨rfl, m1⟩
    have Hb1 := hid (Hbox.out.mod m1 id)
    have Ho1 := hid (Hops.out.mod m1 (fun _ _ _ _ h => h))
    have M1 := hid (M0.out.trans m1)
    obtain ⟨b0, b1, b2⟩ := At.three Hb1.out
    by_cases hg : 1 ≤ nb ∧ nb ≤ 16 ∧ 1 ≤ cap ∧ cap ≤ 32
    · obtain ⟨h1, h2, h3, h4⟩ := hg
      obtain ⟨L, rfl⟩ := Int.eq_ofNat_of_zero_le (show 0 ≤ nb by omega)
      go_wp2_with fail
      refine (new_good L cap w1 (by omega) (by omega) h3 h4).mono ?_
      rintro e w2 ⟨s, rfl, hsr, hf, m2⟩
      have R2 : Hid (Run w1.heap.size s cap L w1 w2 (empties L)) := ⟨hsr, hf, tidy_empties L, empties_len L, m2, rfl⟩
      clear hsr hf m2 b0 b1 b2
      go_wp2_with fail
      go_loopw [5] (fun s5 wr => ∃ (i : Nat) (bins : List Bin), i ≤ n ∧ s5 = .int .i64 i ∧ Hid (Run w1.heap.size s cap L w1 wr bins))
        (fun s5 _ => n - (intOf s5).toNat)
      case atStart => exact ⟨0, _, by omega, rfl, R2⟩
      case round =>
        obtain ⟨i, bins, hi, rfl, hR⟩ := hrel
        obtain ⟨b0, b1, b2⟩ := At.three (Hb1.out.mod hR.out.m id)
        have hbl := (Hb1.out.mod hR.out.m id).lt
        have Ho := hid (Ho1.out.mod hR.out.m (fun _ _ _ _ h => h))
        by_cases hlt : i < n
        · obtain ⟨b, off, rfl, hb, o0, o1, o2, o3, hm1, hm2⟩ := Ho.out.get hlt
          have Hm1 := hid hm1
          have Hm2 := hid hm2
          generalize hkd : (f i).kd = K at o0
          have hR' := hid (hR.out.mod0 (Mod.refl _ wr).drew)
          clear hkd hm1 hm2
          by_cases hK : K = 0
          · subst hK
            go_wp2_with fail
            refine wp_region_still_tail 13 (by kernel_rfl) (by kernel_rfl) ?_
            simp only [List.take_succ_cons, List.take_zero, List.drop_succ_cons, List.drop_zero]
            change wpStill Try.prog _ (World.drew wr) (fun a' => wpList Try.prog _ _ _ a' (World.drew wr)) _ _
            repeat still_step
            refine wpStill_nil ?_
            go_wp2_with fail
            refine (put_any (f i).key (f i).item _ hR'.out.at_ hR'.out.fits hR'.out.le Hm2.out).mono ?_
            rintro e w4 ⟨rfl, h4, mt4⟩
            have R4 := hid (hR'.out.put _ _ h4 mt4)
            clear h4 mt4
            go_wp2_with fail
            go_roundw
            case rel => exact ⟨i + 1, _, by omega, by go_num, R4⟩
            case measure => simp [intOf]; omega
          · go_wp2_with fail
            go_roundw
            case rel => exact ⟨i + 1, _, by omega, by go_num, hR⟩
            case measure => simp [intOf]; omega
        · obtain rfl : i = n := by omega
          have HL16 : Hid (L ≤ 16) := by show _ ≤ _; omega
          go_wp2_with fail
          go_loopg [6] (tot bins bins.length) (fun k s6 wr => ∃ (bs : List Bin) (mo : Int), s6 = .int .i64 mo ∧ Hid (tot bs bs.length = k) ∧ Hid (∀ j, j < bs.length → ((bi bs j).length : Int) ≤ mo) ∧ Hid (Run w1.heap.size s cap L w1 wr bs))
          case atStart => exact ⟨bins, cap, rfl, rfl, hR.out.fits.len, hR⟩
          case round =>
            obtain ⟨bs, mo, rfl, hk, hmo, hR⟩ := hrel
            obtain ⟨b0, b1, b2⟩ := At.three (Hb1.out.mod hR.out.m id)
            have hbl := (Hb1.out.mod hR.out.m id).lt
            have ht512 : gk ≤ 512 := by
              have := hR.out.fits.tot bs.length (Nat.le_refl _)
              have := hR.out.fits.n2
              have := hk.out
              omega
            go_wp2_with fail
            refine (len_c wr hR.out.at_ hR.out.fits).mono ?_
            rw [hk.out]
            rintro e w3 ⟨rfl, m3⟩
            have R3 := hid (hR.out.mod0 m3)
            clear b0 b1 b2
            by_cases hpos : 0 < gk
            · have hpos' : (0 : Int) < gk := by omega
              obtain ⟨k, M, hbig, hkl, hM0, hM32, hlM, hall, hfl, htk, htot⟩ := most_is hR.out.fits (by rw [hk.out]; exact hpos)
              rw [hk.out] at htot
              have hmM : (M : Int) ≤ mo := by have := hmo.out k hkl; omega
              have Hbig := hid hbig
              have HlM := hid hlM
              have Hall := hid hall
              have Hfl := hid hfl
              have Htk := hid htk
              have Htot := hid htot
              clear hbig hlM hall hfl htk htot
              have hMc : ∃ b : Bool, Hid (decide ((M : Int) = cap) = b) ∧ ((M : Int) == cap) = b := by
                by_cases q : (M : Int) = cap
                · exact ⟨true, by show _ = _; simp [q], by simp [q]⟩
                · exact ⟨false, by show _ = _; simp [q], by simp [q]⟩
              obtain ⟨fb, hfb, hfq⟩ := hMc
              have hMgk : (M : Int) ≤ gk := by have := Htot.out; omega
              cases fb
              all_goals
                go_wp2_with fail
                refine (len_c w3 R3.out.at_ R3.out.fits).mono ?_
                rw [hk.out]
                rintro e w4 ⟨rfl, m4⟩
                have R4 := hid (R3.out.mod0 m4)
                go_wp2_with fail
                refine (full_c w4 R4.out.at_ R4.out.fits).mono ?_
                rw [Hfl.out, hfb.out]
                rintro e w5 ⟨rfl, m5⟩
                have R5 := hid (R4.out.mod0 m5)
                generalize fullI cap bs = fi
                go_wp2_with fail
                refine (fullest_c w5 R5.out.at_ R5.out.fits).mono ?_
                rw [Hbig.out]
                rintro e w6 ⟨rfl, m6⟩
                have R6 := hid (R5.out.mod0 m6)
                go_wp2_with fail
                refine (take_any (k : Int) w6 R6.out.at_ R6.out.fits).mono ?_
                rw [Htk.out]
                rintro e w7 ⟨A7, c7, rfl, _, h7, mt7⟩
                have R7 := R6.out.take (k : Int) (by rw [Htk.out]; exact h7) mt7
                rw [Htk.out] at R7
                simp only at R7
                replace R7 := hid R7
                obtain ⟨d0, d1, d2⟩ := At.three (Hb1.out.mod R7.out.m id)
                have hbl7 := (Hb1.out.mod R7.out.m id).lt
                simp only
                rw [HlM.out]
                clear h7 mt7
                have hM1 : ¬ mo < (M : Int) := by omega
                have hM2 : ¬ (M : Int) = 0 := by omega
                have hML : Hid (tot (bs.set k (ByteArray.empty, [])) (bs.set k (ByteArray.empty, [])).length = gk - M) := by show _ = _; have := Htot.out; omega
                have hgM : M ≤ gk := by have := Htot.out; omega
                have hcast : ((gk - M : Nat) : Int) = (gk : Int) - M := by omega
                have Hcast := hid hcast
                clear hcast
                go_wp2_with fail
                refine (len_c w7 R7.out.at_ R7.out.fits).mono ?_
                rw [hML.out, Hcast.out]
                rintro e w8 ⟨rfl, m8⟩
                have R8 := hid (R7.out.mod0 m8)
                go_wp2_with fail
                go_roundg (gk - M)
                case measure => omega
                case rel =>
                  refine ⟨_, (M : Int), rfl, hML, fun j hj => ?_, R8⟩
                  rw [List.length_set] at hj
                  rw [bi_set hkl]
                  split
                  · simp
                  · have := Hall.out j hj; omega
            · obtain rfl : gk = 0 := by omega
              obtain ⟨e1, e2⟩ := none_is hR.out.fits hk.out
              have E1 := hid e1
              have E2 := hid e2
              clear e1 e2
              go_wp2_with fail
              refine (full_c w3 R3.out.at_ R3.out.fits).mono ?_
              rw [E1.out]
              rintro e w5 ⟨rfl, m5⟩
              have R5 := hid (R3.out.mod0 m5)
              generalize fullI cap bs = fi
              go_wp2_with fail
              refine (fullest_c w5 R5.out.at_ R5.out.fits).mono ?_
              rw [E2.out]
              rintro e w6 ⟨rfl, m6⟩
              have R6 := hid (R5.out.mod0 m6)
              generalize (big bs bs.length).1 = x1
              go_wp2_with fail
              refine (awake_c _).mono ?_
              rintro e w8 ⟨rfl, m8⟩
              go_wp2_with fail
              go_ret
              have mm := M1.out.trans R6.out.m
              exact ⟨rfl, (mm.toBelow _ (Nat.le_refl _) (fun _ _ h => h)).trans (m8.mono mm.size)⟩
    · have hb : nb < 1 ∨ (1 ≤ nb ∧ 16 < nb) ∨ (1 ≤ nb ∧ nb ≤ 16 ∧ cap < 1) ∨ (1 ≤ nb ∧ nb ≤ 16 ∧ 1 ≤ cap ∧ 32 < cap) := by omega
      have Hb := hid hb
      clear hg hb
      go_wp2_with fail
      refine (new_bad nb cap w1 Hb.out).mono ?_
      rintro e w2 ⟨rfl, rfl⟩
      go_wp2_with fail
      refine (awake_c _).mono ?_
      rintro e w8 ⟨rfl, m8⟩
      go_wp2_with fail
      go_ret
      exact ⟨rfl, (M1.out.toBelow _ (Nat.le_refl _) (fun _ _ h => h)).trans (m8.mono M1.out.size)⟩
end Go.Proofs.Ytdipncjbobhbjaa
