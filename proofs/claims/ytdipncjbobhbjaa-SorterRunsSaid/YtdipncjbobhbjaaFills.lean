/- The law SorterFills: its walk. -/
import Derived.Test.YtdipncjbobhbjaaFillsP
import Derived.Deep.DeepCutAuto
namespace Go.Proofs.Ytdipncjbobhbjaa
open Go.RowKit
set_option linter.unusedVariables false
set_option linter.unusedSimpArgs false

/-- A sorter in its run: what it holds, and that nothing else has turned. -/
structure Run (B s : Nat) (cap : Int) (L : Nat) (w0 wr : World) (bins : List Bin) : Prop where
  at_ : SorterAt B wr s cap bins
  fits : Fits cap bins
  tidy : Tidy' bins
  len : bins.length = L
  m : Mod (fun _ => False) w0 wr
  hB : B = w0.heap.size
theorem MT.none {B : Nat} {w0 w w' : World} (h : MT B w w') (m : Mod (fun _ => False) w0 w) (hB : B = w0.heap.size) : Mod (fun _ => False) w0 w' := m.trans' h (fun i hi hk => by have := hk.1; omega)
theorem Run.mod0 {B s : Nat} {cap : Int} {L : Nat} {w0 wr w' : World} {bins : List Bin} (h : Run B s cap L w0 wr bins) (m : Mod (fun _ => False) wr w') : Run B s cap L w0 w' bins := ⟨h.at_.mod0 m, h.fits, h.tidy, h.len, h.m.trans m, h.hB⟩
theorem Run.le {B s : Nat} {cap : Int} {L : Nat} {w0 wr : World} {bins : List Bin} (h : Run B s cap L w0 wr bins) : B ≤ wr.heap.size := by have := h.m.size; have := h.hB; omega
theorem Run.put {B s : Nat} {cap : Int} {L : Nat} {w0 wr w' : World} {bins : List Bin} (h : Run B s cap L w0 wr bins) (key it : ByteArray) (ha : SorterAt B w' s cap (putR cap bins key it).1) (m : MT B wr w') : Run B s cap L w0 w' (putR cap bins key it).1 :=
  ⟨ha, putR_fits h.fits _ _, putR_tidy h.tidy _ _, by rw [putR_len]; exact h.len, m.none h.m h.hB, h.hB⟩
theorem Run.take {B s : Nat} {cap : Int} {L : Nat} {w0 wr w' : World} {bins : List Bin} (h : Run B s cap L w0 wr bins) (n : Int) (ha : SorterAt B w' s cap (takeR bins n).1) (m : MT B wr w') : Run B s cap L w0 w' (takeR bins n).1 :=
  ⟨ha, takeR_fits h.fits _, takeR_tidy h.tidy _, by rw [takeR_len]; exact h.len, m.none h.m h.hB, h.hB⟩

theorem row_get {w : World} {B : Nat} {A : Option Addr} {c : Nat} {l : List ByteArray} (h : w.ownsRow B 9 1 (.slice A l.length c) l.length (l.map .string)) {m : Nat} (hm : m < l.length) :
    ∃ g, A = some ⟨g, 0, none⟩ ∧ g < w.heap.size ∧ w.cell? ⟨g, m, none⟩ = some (.string (l.getD m ByteArray.empty)) := by
  obtain ⟨g, cap, hv, _, hlt⟩ := h.form (by omega)
  have hA : A = some ⟨g, 0, none⟩ := by injection hv
  subst hA
  have := h.cells (g := g) rfl m (.string (l.getD m ByteArray.empty)) (by simp [List.getD_eq_getElem?_getD, hm])
  rw [add_plain] at this
  exact ⟨g, rfl, hlt, this⟩
/-- What Put has answered, and what the bins then hold. -/
def PutIs (cap : Int) (L T : Nat) (key it : ByteArray) (bins1 : List Bin) (p err : Int) : Prop :=
  ((key.size = 0 ∨ it.size = 0) ∧ err = 6 ∧ tot bins1 bins1.length = T) ∨
  (¬ (key.size = 0 ∨ it.size = 0) ∧ ((err = 7 ∧ thereF bins1 it L = true ∧ tot bins1 bins1.length = T) ∨ (err = 12 ∧ roomF cap bins1 key L = false ∧ tot bins1 bins1.length = T) ∨
    (∃ k : Nat, k < L ∧ p = k ∧ err = 0 ∧ thereF bins1 it L = true ∧ tot bins1 bins1.length = T + 1)))
theorem put_is {cap : Int} {bins : List Bin} (hf : Fits cap bins) (key it : ByteArray) : PutIs cap bins.length (tot bins bins.length) key it (putR cap bins key it).1 (putR cap bins key it).2.1 (putR cap bins key it).2.2 := by
  rcases put_cases hf key it with ⟨hz, e⟩ | ⟨hz, ⟨e, ht⟩ | ⟨e, hr⟩ | ⟨k, hk, e⟩⟩
  · rw [e]; exact .inl ⟨hz, rfl, rfl⟩
  · rw [e]; exact .inr ⟨hz, .inl ⟨rfl, ht, rfl⟩⟩
  · rw [e]; exact .inr ⟨hz, .inr (.inl ⟨rfl, hr, rfl⟩)⟩
  · rw [e]
    refine .inr ⟨hz, .inr (.inr ⟨k, hk, rfl, rfl, there_set hk _ _, ?_⟩)⟩
    simp only [List.length_set]
    rw [tot_set hk, if_pos hk]

set_option maxRecDepth 100000 in
set_option maxHeartbeats 3200000 in
theorem sorterFills_walk (nb cap : Int) (A : Option Addr) (n c : Nat) (f : Nat → Cl) (key it : ByteArray) (w : World) (h : Ops w A n f) (hk : key.size ≤ 140737488351232) (hi : it.size ≤ 140737488351232) :
    Calls Try.prog 4 #[.agg #[.int .i64 nb, .int .i64 cap, .slice A n c], .string key, .string it] w fun e w' => e = .returned (.bool true) ∧ Below w.heap.size w w' := by
  have hk63 : key.size ≤ 9223372036854775807 := by omega
  have hi63 : it.size ≤ 9223372036854775807 := by omega
  have hbox := At.new w (.cells #[.int .i64 nb, .int .i64 cap, .slice A n c] 24)
  have m0 : Mod (fun _ => False) w (w.alloc (.cells #[.int .i64 nb, .int .i64 cap, .slice A n c] 24)) := (Mod.refl _ _).alloc _
  have hops := h.mod m0 (fun _ _ _ _ h => h)
  have Hops := hid hops
  clear hops h
  by_cases hs : smallF n f = true ∧ key.size ≤ 100 ∧ it.size ≤ 100
  · obtain ⟨hs, hk1, hi1⟩ := hs
    have hk2 : ¬ (100 : Int) < key.size := by omega
    have hi2 : ¬ (100 : Int) < it.size := by omega
    obtain ⟨hn150, hsm⟩ := smallF_true hs
    have Hsm := hid hsm
    have Hs := hid hs
    clear hs hsm
    have Hbox := hid hbox
    have M0 := hid m0
    clear hbox m0
    go_enter Try.func4, Try.ntmps4
    go_wp2_with fail
    refine (small_c nb cap A n c f _ Hops.out).mono ?_
    rw [Hs.out]
    rintro e w1 ⟨rfl, m1⟩
    have Hb1 := hid (Hbox.out.mod m1 id)
    have Ho1 := hid (Hops.out.mod m1 (fun _ _ _ _ h => h))
    have M1 := hid (M0.out.trans m1)
    obtain ⟨b0, b1, b2⟩ := At.three Hb1.out
    by_cases hg : 1 ≤ nb ∧ nb ≤ 16 ∧ 1 ≤ cap ∧ cap ≤ 32
    · obtain ⟨h1, h2, h3, h4⟩ := hg
      obtain ⟨L, rfl⟩ := Int.eq_ofNat_of_zero_le (show 0 ≤ nb by omega)
      go_wp2_with fail
      refine (new_good L cap w1 (by omega) (by omega) h3 h4).mono ?_
      rintro e w2 ⟨s, rfl, hsr, hf, m2⟩
      have R2 : Hid (Run w1.heap.size s cap L w1 w2 (empties L)) := ⟨hsr, hf, tidy_empties L, empties_len L, m2, rfl⟩
      clear hsr hf m2 b0 b1 b2
      go_wp2_with fail
      go_loopw [9] (fun s9 wr => ∃ (i : Nat) (bins : List Bin), i ≤ n ∧ s9 = .int .i64 i ∧ Hid (Run w1.heap.size s cap L w1 wr bins))
        (fun s9 _ => n - (intOf s9).toNat)
      case atStart => exact ⟨0, _, by omega, rfl, R2⟩
      case round =>
        obtain ⟨i, bins, hi, rfl, hR⟩ := hrel
        obtain ⟨b0, b1, b2⟩ := At.three (Hb1.out.mod hR.out.m id)
        have hbl := (Hb1.out.mod hR.out.m id).lt
        have Ho := hid (Ho1.out.mod hR.out.m (fun _ _ _ _ h => h))
        by_cases hlt : i < n
        · obtain ⟨b, off, rfl, hb, o0, o1, o2, o3, hm1, hm2⟩ := Ho.out.get hlt
          have Hm1 := hid hm1
          have Hm2 := hid hm2
          have hR' := hid (hR.out.mod0 ((Mod.refl _ _).alloc (.cells #[.int .u8 (f i).kd, .string (f i).key, .string (f i).item, .int .i64 (f i).bin] 33)))
          generalize hkd : (f i).kd = K at o0 hR'
          clear hkd hm1 hm2
          by_cases hK : K = 0
          · subst hK
            go_wp2_with fail
            refine (put_any (f i).key (f i).item _ hR'.out.at_ hR'.out.fits hR'.out.le Hm2.out).mono ?_
            rintro e w4 ⟨rfl, h4, mt4⟩
            have R4 := hid (hR'.out.put _ _ h4 mt4)
            clear h4 mt4
            go_wp2_with fail
            go_roundw
            case rel => exact ⟨i + 1, _, by omega, by go_num, R4⟩
            case measure => simp [intOf]; omega
          · go_wp2_with fail
            refine (take_any (f i).bin _ hR'.out.at_ hR'.out.fits).mono ?_
            rintro e w4 ⟨A4, c4, rfl, _, h4, mt4⟩
            have R4 := hid (hR'.out.take _ h4 mt4)
            clear h4 mt4
            go_wp2_with fail
            go_roundw
            case rel => exact ⟨i + 1, _, by omega, by go_num, R4⟩
            case measure => simp [intOf]; omega
        · obtain rfl : i = n := by omega
          have T0 := hR.out.fits.tot bins.length (Nat.le_refl _)
          have HF := hR.out.fits.n2
          go_wp2_with fail
          refine (len_c wr hR.out.at_ hR.out.fits).mono ?_
          rintro e w3 ⟨rfl, m3⟩
          have R3 := hid (hR.out.mod0 m3)
          generalize ht : tot bins bins.length = T at T0
          have HT := hid ht
          clear ht
          go_wp2_with fail
          refine (put_any key it w3 R3.out.at_ R3.out.fits R3.out.le (by unfold maxLen; omega)).mono ?_
          rintro e w4 ⟨rfl, h4, mt4⟩
          have R4 := hid (R3.out.put _ _ h4 mt4)
          have Hc := hid (put_is R3.out.fits key it)
          rw [R3.out.len] at Hc
          have HTL : Hid (tot bins L = T) := by have := HT.out; rw [R3.out.len] at this; exact this
          rw [show tot bins L = T from HTL.out] at Hc
          clear h4 mt4
          generalize putR cap bins key it = r at R4 Hc
          obtain ⟨bins1, p, err⟩ := r
          simp only at R4 Hc
          obtain ⟨d0, d1, d2⟩ := At.three (Hb1.out.mod R4.out.m id)
          have hbl4 := (Hb1.out.mod R4.out.m id).lt
          have hL16 : L ≤ 16 := by omega
          clear b0 b1 b2
          go_upto_region 15 with fail
          go_cut [119] from 80 to 119 (fun s119 wx => s119 = .bool false ∧ Mod (fun _ => False) w4 wx)
          case first =>
            rcases Hc.out with ⟨hz, rfl, ht⟩ | ⟨hz, ⟨rfl, _, ht⟩ | ⟨rfl, _, ht⟩ | ⟨k, hk', rfl, rfl, _, ht⟩⟩
            · by_cases hz1 : key.size = 0
              · have q1 : key.toList.isEmpty = true := by rw [size0.2 hz1]; rfl
                have Ht := hid ht
                clear ht hz hz1
                go_wp2_with fail
                refine (len_c w4 R4.out.at_ R4.out.fits).mono ?_
                rw [Ht.out]
                rintro e w5 ⟨rfl, m5⟩
                go_wp2_with fail
                go_meet
                exact ⟨rfl, m5⟩
              · have q0 : key.toList.isEmpty = false := by
                  rw [Bool.eq_false_iff]
                  exact fun q => hz1 (size0.1 (List.isEmpty_iff.1 q))
                have q1 : it.toList.isEmpty = true := by rw [size0.2 (hz.resolve_left hz1)]; rfl
                have Ht := hid ht
                clear ht hz hz1
                go_wp2_with fail
                refine (len_c w4 R4.out.at_ R4.out.fits).mono ?_
                rw [Ht.out]
                rintro e w5 ⟨rfl, m5⟩
                go_wp2_with fail
                go_meet
                exact ⟨rfl, m5⟩
            all_goals
              have q0 : key.toList.isEmpty = false := by
                rw [Bool.eq_false_iff]
                exact fun q => hz (.inl (size0.1 (List.isEmpty_iff.1 q)))
              have q1 : it.toList.isEmpty = false := by
                rw [Bool.eq_false_iff]
                exact fun q => hz (.inr (size0.1 (List.isEmpty_iff.1 q)))
              have Ht := hid ht
              clear ht hz
              try have hk0 : ¬ (k : Int) < 0 := by omega
              try have hk1 : ¬ (L : Int) ≤ k := by omega
              go_wp2_with fail
              refine (len_c w4 R4.out.at_ R4.out.fits).mono ?_
              rw [Ht.out]
              try rw [Int.natCast_add, Int.natCast_one]
              rintro e w5 ⟨rfl, m5⟩
              obtain ⟨g0, g1, g2⟩ := At.three (Hb1.out.mod (R4.out.m.trans m5) id)
              go_wp2_with fail
              go_meet
              exact ⟨by first | rfl | (simp; omega), m5⟩
          case rest =>
            obtain ⟨rfl, m5⟩ := hcut
            have R5 := hid (R4.out.mod0 m5)
            clear d0 d1 d2 hbl4
            go_wp2_with fail
            go_loopw [16, 14, 15] (fun s16 s14 s15 wr => ∃ i : Nat, i ≤ L ∧ s16 = .int .i64 i ∧ s14 = .bool (thereF bins1 it i) ∧ s15 = .bool (roomF cap bins1 key i) ∧ Hid (Run w1.heap.size s cap L w1 wr (clr bins1 i)))
              (fun s16 _ _ _ => L - (intOf s16).toNat)
            case atStart => exact ⟨0, by omega, rfl, rfl, rfl, by rw [clr_zero]; exact R5⟩
            case round =>
              obtain ⟨i, hi, rfl, rfl, rfl, hR⟩ := hrel
              obtain ⟨d0, d1, d2⟩ := At.three (Hb1.out.mod hR.out.m id)
              have hbl4 := (Hb1.out.mod hR.out.m id).lt
              by_cases hlt : i < L
              · have hlt' : i < bins1.length := by rw [R5.out.len]; exact hlt
                have hi16 : (i : Int) < 16 := by omega
                go_wp2_with fail
                refine (take_any (i : Int) wr hR.out.at_ hR.out.fits).mono ?_
                have htk := takeR_clr R5.out.tidy hlt'
                rw [htk]
                rintro e w5 ⟨A5, c5, rfl, hrow, h5, mt5⟩
                have R6 := hR.out.take (i : Int) (by rw [htk]; exact h5) mt5
                rw [htk] at R6
                simp only at R6 hrow
                replace R6 := hid R6
                obtain ⟨e0, e1, e2⟩ := At.three (Hb1.out.mod R6.out.m id)
                have hbl5 := (Hb1.out.mod R6.out.m id).lt
                have hr1 : Hid (roomF cap bins1 key (i + 1) = (roomF cap bins1 key i || roomAt cap bins1 key i)) := rfl
                have ht1 : thereF bins1 it (i + 1) = (thereF bins1 it i || anyIt (bi bins1 i) it (bi bins1 i).length) := rfl
                have hra : roomAt cap bins1 key i = (decide ((bi bins1 i).length = 0) || (decide (bk bins1 i = key) && decide (((bi bins1 i).length : Int) < cap))) := rfl
                have hl32 := R5.out.fits.len32 i hlt'
                generalize hRm : roomF cap bins1 key i = Rm at hr1
                generalize hTm : thereF bins1 it i = Tm at ht1
                generalize hRa : roomAt cap bins1 key i = Ra at hr1 hra
                generalize bi bins1 i = l at hrow ht1 hra hl32
                generalize bk bins1 i = kk at hra
                have hthere := hid ht1
                have hrow := hid hrow
                have Hra := hid hra
                clear h5 mt5 htk d0 d1 d2 hRm hTm hRa ht1 hra
                simp only
                cases Rm
                · by_cases h0 : l.length = 0
                  · have hroom : Hid (roomF cap bins1 key (i + 1) = true) := by show _ = _; rw [hr1.out, Hra.out]; simp [h0]
                    have her : (if l.length = 0 then (18 : Int) else 0) = 18 := if_pos h0
                    rw [her]
                    clear her hr1
                    have H0 := hid h0
                    clear h0
                    go_wp2_with fail
                    go_loopw [20, 14] (fun s20 s14 wr' => ∃ m : Nat, m ≤ l.length ∧ s20 = .int .i64 m ∧ s14 = .bool (Tm || anyIt l it m) ∧ wr' = w5)
                      (fun s20 _ _ => l.length - (intOf s20).toNat)
                    case atStart => exact ⟨0, by omega, rfl, by simp [anyIt], rfl⟩
                    case round =>
                      obtain ⟨m, hm, rfl, rfl, rfl⟩ := hrel
                      by_cases hml : m < l.length
                      · obtain ⟨g, rfl, hgl, hcell⟩ := row_get hrow.out hml
                        generalize hit : l.getD m ByteArray.empty = x at hcell
                        have Hit := hid hit
                        generalize hQ : (Tm || anyIt l it m) = Q
                        have HQ := hid hQ
                        clear hit hQ
                        have hnext : Hid ((Tm || anyIt l it (m + 1)) = (Q || decide (x = it))) := by
                          show _ = _
                          rw [← HQ.out, ← Hit.out, anyIt, Bool.or_assoc]
                        cases Q
                        · by_cases hx : x = it
                          · have hq := seq_true hx
                            have hn2 : Hid ((Tm || anyIt l it (m + 1)) = true) := by show _ = _; rw [hnext.out]; simp [hx]
                            clear hnext
                            go_wp2_with fail
                            go_roundw
                            case rel => exact ⟨m + 1, by omega, by go_num, by rw [hn2.out], by first | rfl | trivial⟩
                            case measure => simp [intOf]; omega
                          · have hq := seq_false hx
                            have hn2 : Hid ((Tm || anyIt l it (m + 1)) = false) := by show _ = _; rw [hnext.out]; simp [hx]
                            clear hnext
                            go_wp2_with fail
                            go_roundw
                            case rel => exact ⟨m + 1, by omega, by go_num, by rw [hn2.out], by first | rfl | trivial⟩
                            case measure => simp [intOf]; omega
                        · have hn2 : Hid ((Tm || anyIt l it (m + 1)) = true) := by show _ = _; rw [hnext.out]; rfl
                          clear hnext
                          go_wp2_with fail
                          go_roundw
                          case rel => exact ⟨m + 1, by omega, by go_num, by rw [hn2.out], by first | rfl | trivial⟩
                          case measure => simp [intOf]; omega
                      · obtain rfl : m = l.length := by omega
                        go_wp2_with fail
                        go_roundw
                        case rel => exact ⟨i + 1, by omega, by go_num, by rw [hthere.out], by rw [hroom.out], R6⟩
                        case measure => simp [intOf]; omega
                  · have her : (if l.length = 0 then (18 : Int) else 0) = 0 := if_neg h0
                    rw [her]
                    clear her
                    by_cases hkk : kk = key
                    · have hsq := seq_true hkk
                      by_cases hlc : (l.length : Int) < cap
                      · have hroom : Hid (roomF cap bins1 key (i + 1) = true) := by show _ = _; rw [hr1.out, Hra.out]; simp [hkk, hlc]
                        have H0 := hid h0
                        clear hr1 h0
                        go_wp2_with fail
                        go_loopw [20, 14] (fun s20 s14 wr' => ∃ m : Nat, m ≤ l.length ∧ s20 = .int .i64 m ∧ s14 = .bool (Tm || anyIt l it m) ∧ wr' = w5)
                          (fun s20 _ _ => l.length - (intOf s20).toNat)
                        case atStart => exact ⟨0, by omega, rfl, by simp [anyIt], rfl⟩
                        case round =>
                          obtain ⟨m, hm, rfl, rfl, rfl⟩ := hrel
                          by_cases hml : m < l.length
                          · obtain ⟨g, rfl, hgl, hcell⟩ := row_get hrow.out hml
                            generalize hit : l.getD m ByteArray.empty = x at hcell
                            have Hit := hid hit
                            generalize hQ : (Tm || anyIt l it m) = Q
                            have HQ := hid hQ
                            clear hit hQ
                            have hnext : Hid ((Tm || anyIt l it (m + 1)) = (Q || decide (x = it))) := by
                              show _ = _
                              rw [← HQ.out, ← Hit.out, anyIt, Bool.or_assoc]
                            cases Q
                            · by_cases hx : x = it
                              · have hq := seq_true hx
                                have hn2 : Hid ((Tm || anyIt l it (m + 1)) = true) := by show _ = _; rw [hnext.out]; simp [hx]
                                clear hnext
                                go_wp2_with fail
                                go_roundw
                                case rel => exact ⟨m + 1, by omega, by go_num, by rw [hn2.out], by first | rfl | trivial⟩
                                case measure => simp [intOf]; omega
                              · have hq := seq_false hx
                                have hn2 : Hid ((Tm || anyIt l it (m + 1)) = false) := by show _ = _; rw [hnext.out]; simp [hx]
                                clear hnext
                                go_wp2_with fail
                                go_roundw
                                case rel => exact ⟨m + 1, by omega, by go_num, by rw [hn2.out], by first | rfl | trivial⟩
                                case measure => simp [intOf]; omega
                            · have hn2 : Hid ((Tm || anyIt l it (m + 1)) = true) := by show _ = _; rw [hnext.out]; rfl
                              clear hnext
                              go_wp2_with fail
                              go_roundw
                              case rel => exact ⟨m + 1, by omega, by go_num, by rw [hn2.out], by first | rfl | trivial⟩
                              case measure => simp [intOf]; omega
                          · obtain rfl : m = l.length := by omega
                            go_wp2_with fail
                            go_roundw
                            case rel => exact ⟨i + 1, by omega, by go_num, by rw [hthere.out], by rw [hroom.out], R6⟩
                            case measure => simp [intOf]; omega
                      · have hroom : Hid (roomF cap bins1 key (i + 1) = false) := by show _ = _; rw [hr1.out, Hra.out]; simp [h0, hlc]
                        have H0 := hid h0
                        clear hr1 h0
                        go_wp2_with fail
                        go_loopw [20, 14] (fun s20 s14 wr' => ∃ m : Nat, m ≤ l.length ∧ s20 = .int .i64 m ∧ s14 = .bool (Tm || anyIt l it m) ∧ wr' = w5)
                          (fun s20 _ _ => l.length - (intOf s20).toNat)
                        case atStart => exact ⟨0, by omega, rfl, by simp [anyIt], rfl⟩
                        case round =>
                          obtain ⟨m, hm, rfl, rfl, rfl⟩ := hrel
                          by_cases hml : m < l.length
                          · obtain ⟨g, rfl, hgl, hcell⟩ := row_get hrow.out hml
                            generalize hit : l.getD m ByteArray.empty = x at hcell
                            have Hit := hid hit
                            generalize hQ : (Tm || anyIt l it m) = Q
                            have HQ := hid hQ
                            clear hit hQ
                            have hnext : Hid ((Tm || anyIt l it (m + 1)) = (Q || decide (x = it))) := by
                              show _ = _
                              rw [← HQ.out, ← Hit.out, anyIt, Bool.or_assoc]
                            cases Q
                            · by_cases hx : x = it
                              · have hq := seq_true hx
                                have hn2 : Hid ((Tm || anyIt l it (m + 1)) = true) := by show _ = _; rw [hnext.out]; simp [hx]
                                clear hnext
                                go_wp2_with fail
                                go_roundw
                                case rel => exact ⟨m + 1, by omega, by go_num, by rw [hn2.out], by first | rfl | trivial⟩
                                case measure => simp [intOf]; omega
                              · have hq := seq_false hx
                                have hn2 : Hid ((Tm || anyIt l it (m + 1)) = false) := by show _ = _; rw [hnext.out]; simp [hx]
                                clear hnext
                                go_wp2_with fail
                                go_roundw
                                case rel => exact ⟨m + 1, by omega, by go_num, by rw [hn2.out], by first | rfl | trivial⟩
                                case measure => simp [intOf]; omega
                            · have hn2 : Hid ((Tm || anyIt l it (m + 1)) = true) := by show _ = _; rw [hnext.out]; rfl
                              clear hnext
                              go_wp2_with fail
                              go_roundw
                              case rel => exact ⟨m + 1, by omega, by go_num, by rw [hn2.out], by first | rfl | trivial⟩
                              case measure => simp [intOf]; omega
                          · obtain rfl : m = l.length := by omega
                            go_wp2_with fail
                            go_roundw
                            case rel => exact ⟨i + 1, by omega, by go_num, by rw [hthere.out], by rw [hroom.out], R6⟩
                            case measure => simp [intOf]; omega
                    · have hsq := seq_false hkk
                      have hroom : Hid (roomF cap bins1 key (i + 1) = false) := by show _ = _; rw [hr1.out, Hra.out]; simp [h0, hkk]
                      have H0 := hid h0
                      clear hr1 h0
                      go_wp2_with fail
                      go_loopw [20, 14] (fun s20 s14 wr' => ∃ m : Nat, m ≤ l.length ∧ s20 = .int .i64 m ∧ s14 = .bool (Tm || anyIt l it m) ∧ wr' = w5)
                        (fun s20 _ _ => l.length - (intOf s20).toNat)
                      case atStart => exact ⟨0, by omega, rfl, by simp [anyIt], rfl⟩
                      case round =>
                        obtain ⟨m, hm, rfl, rfl, rfl⟩ := hrel
                        by_cases hml : m < l.length
                        · obtain ⟨g, rfl, hgl, hcell⟩ := row_get hrow.out hml
                          generalize hit : l.getD m ByteArray.empty = x at hcell
                          have Hit := hid hit
                          generalize hQ : (Tm || anyIt l it m) = Q
                          have HQ := hid hQ
                          clear hit hQ
                          have hnext : Hid ((Tm || anyIt l it (m + 1)) = (Q || decide (x = it))) := by
                            show _ = _
                            rw [← HQ.out, ← Hit.out, anyIt, Bool.or_assoc]
                          cases Q
                          · by_cases hx : x = it
                            · have hq := seq_true hx
                              have hn2 : Hid ((Tm || anyIt l it (m + 1)) = true) := by show _ = _; rw [hnext.out]; simp [hx]
                              clear hnext
                              go_wp2_with fail
                              go_roundw
                              case rel => exact ⟨m + 1, by omega, by go_num, by rw [hn2.out], by first | rfl | trivial⟩
                              case measure => simp [intOf]; omega
                            · have hq := seq_false hx
                              have hn2 : Hid ((Tm || anyIt l it (m + 1)) = false) := by show _ = _; rw [hnext.out]; simp [hx]
                              clear hnext
                              go_wp2_with fail
                              go_roundw
                              case rel => exact ⟨m + 1, by omega, by go_num, by rw [hn2.out], by first | rfl | trivial⟩
                              case measure => simp [intOf]; omega
                          · have hn2 : Hid ((Tm || anyIt l it (m + 1)) = true) := by show _ = _; rw [hnext.out]; rfl
                            clear hnext
                            go_wp2_with fail
                            go_roundw
                            case rel => exact ⟨m + 1, by omega, by go_num, by rw [hn2.out], by first | rfl | trivial⟩
                            case measure => simp [intOf]; omega
                        · obtain rfl : m = l.length := by omega
                          go_wp2_with fail
                          go_roundw
                          case rel => exact ⟨i + 1, by omega, by go_num, by rw [hthere.out], by rw [hroom.out], R6⟩
                          case measure => simp [intOf]; omega
                · generalize (if l.length = 0 then (18 : Int) else 0) = er
                  have hroom : Hid (roomF cap bins1 key (i + 1) = true) := by show _ = _; rw [hr1.out]; rfl
                  clear hr1
                  go_wp2_with fail
                  go_loopw [20, 14] (fun s20 s14 wr' => ∃ m : Nat, m ≤ l.length ∧ s20 = .int .i64 m ∧ s14 = .bool (Tm || anyIt l it m) ∧ wr' = w5)
                    (fun s20 _ _ => l.length - (intOf s20).toNat)
                  case atStart => exact ⟨0, by omega, rfl, by simp [anyIt], rfl⟩
                  case round =>
                    obtain ⟨m, hm, rfl, rfl, rfl⟩ := hrel
                    by_cases hml : m < l.length
                    · obtain ⟨g, rfl, hgl, hcell⟩ := row_get hrow.out hml
                      generalize hit : l.getD m ByteArray.empty = x at hcell
                      have Hit := hid hit
                      generalize hQ : (Tm || anyIt l it m) = Q
                      have HQ := hid hQ
                      clear hit hQ
                      have hnext : Hid ((Tm || anyIt l it (m + 1)) = (Q || decide (x = it))) := by
                        show _ = _
                        rw [← HQ.out, ← Hit.out, anyIt, Bool.or_assoc]
                      cases Q
                      · by_cases hx : x = it
                        · have hq := seq_true hx
                          have hn2 : Hid ((Tm || anyIt l it (m + 1)) = true) := by show _ = _; rw [hnext.out]; simp [hx]
                          clear hnext
                          go_wp2_with fail
                          go_roundw
                          case rel => exact ⟨m + 1, by omega, by go_num, by rw [hn2.out], by first | rfl | trivial⟩
                          case measure => simp [intOf]; omega
                        · have hq := seq_false hx
                          have hn2 : Hid ((Tm || anyIt l it (m + 1)) = false) := by show _ = _; rw [hnext.out]; simp [hx]
                          clear hnext
                          go_wp2_with fail
                          go_roundw
                          case rel => exact ⟨m + 1, by omega, by go_num, by rw [hn2.out], by first | rfl | trivial⟩
                          case measure => simp [intOf]; omega
                      · have hn2 : Hid ((Tm || anyIt l it (m + 1)) = true) := by show _ = _; rw [hnext.out]; rfl
                        clear hnext
                        go_wp2_with fail
                        go_roundw
                        case rel => exact ⟨m + 1, by omega, by go_num, by rw [hn2.out], by first | rfl | trivial⟩
                        case measure => simp [intOf]; omega
                    · obtain rfl : m = l.length := by omega
                      go_wp2_with fail
                      go_roundw
                      case rel => exact ⟨i + 1, by omega, by go_num, by rw [hthere.out], by rw [hroom.out], R6⟩
                      case measure => simp [intOf]; omega
              · obtain rfl : i = L := by omega
                have htc : tot (clr bins1 i) (clr bins1 i).length = 0 := by rw [clr_len, ← R5.out.len]; exact tot_clr bins1 _ (Nat.le_refl _)
                have Htc := hid htc
                clear htc
                rcases Hc.out with ⟨_, rfl, _⟩ | ⟨_, ⟨rfl, hq, _⟩ | ⟨rfl, hq, _⟩ | ⟨k, _, rfl, rfl, hq, _⟩⟩
                · generalize thereF bins1 it i = Tm
                  generalize roomF cap bins1 key i = Rm
                  go_wp2_with fail
                  refine (len_c wr hR.out.at_ hR.out.fits).mono ?_
                  rw [Htc.out]
                  rintro e w7 ⟨rfl, m7⟩
                  go_wp2_with fail
                  refine (awake_c _).mono ?_
                  rintro e w8 ⟨rfl, m8⟩
                  go_wp2_with fail
                  go_ret
                  have mm := (M1.out.trans hR.out.m).trans m7
                  exact ⟨rfl, (mm.toBelow _ (Nat.le_refl _) (fun _ _ h => h)).trans (m8.mono mm.size)⟩
                · rw [hq]
                  generalize roomF cap bins1 key i = Rm
                  clear hq
                  go_wp2_with fail
                  refine (len_c wr hR.out.at_ hR.out.fits).mono ?_
                  rw [Htc.out]
                  rintro e w7 ⟨rfl, m7⟩
                  go_wp2_with fail
                  refine (awake_c _).mono ?_
                  rintro e w8 ⟨rfl, m8⟩
                  go_wp2_with fail
                  go_ret
                  have mm := (M1.out.trans hR.out.m).trans m7
                  exact ⟨rfl, (mm.toBelow _ (Nat.le_refl _) (fun _ _ h => h)).trans (m8.mono mm.size)⟩
                · rw [hq]
                  generalize thereF bins1 it i = Tm
                  clear hq
                  go_wp2_with fail
                  refine (len_c wr hR.out.at_ hR.out.fits).mono ?_
                  rw [Htc.out]
                  rintro e w7 ⟨rfl, m7⟩
                  go_wp2_with fail
                  refine (awake_c _).mono ?_
                  rintro e w8 ⟨rfl, m8⟩
                  go_wp2_with fail
                  go_ret
                  have mm := (M1.out.trans hR.out.m).trans m7
                  exact ⟨rfl, (mm.toBelow _ (Nat.le_refl _) (fun _ _ h => h)).trans (m8.mono mm.size)⟩
                · rw [hq]
                  generalize roomF cap bins1 key i = Rm
                  clear hq
                  go_wp2_with fail
                  refine (len_c wr hR.out.at_ hR.out.fits).mono ?_
                  rw [Htc.out]
                  rintro e w7 ⟨rfl, m7⟩
                  go_wp2_with fail
                  refine (awake_c _).mono ?_
                  rintro e w8 ⟨rfl, m8⟩
                  go_wp2_with fail
                  go_ret
                  have mm := (M1.out.trans hR.out.m).trans m7
                  exact ⟨rfl, (mm.toBelow _ (Nat.le_refl _) (fun _ _ h => h)).trans (m8.mono mm.size)⟩
    · have hb : nb < 1 ∨ (1 ≤ nb ∧ 16 < nb) ∨ (1 ≤ nb ∧ nb ≤ 16 ∧ cap < 1) ∨ (1 ≤ nb ∧ nb ≤ 16 ∧ 1 ≤ cap ∧ 32 < cap) := by omega
      have Hb := hid hb
      clear hg hb
      go_wp2_with fail
      refine (new_bad nb cap w1 Hb.out).mono ?_
      rintro e w2 ⟨rfl, rfl⟩
      go_wp2_with fail
      refine (awake_c _).mono ?_
      rintro e w8 ⟨rfl, m8⟩
      go_wp2_with fail
      go_ret
      exact ⟨rfl, (M1.out.toBelow _ (Nat.le_refl _) (fun _ _ h => h)).trans (m8.mono M1.out.size)⟩
  · have hs' : smallF n f = false ∨ (smallF n f = true ∧ 100 < key.size) ∨ (smallF n f = true ∧ key.size ≤ 100 ∧ 100 < it.size) := by
      cases hq : smallF n f
      · exact .inl rfl
      · by_cases h1 : key.size ≤ 100
        · by_cases h2 : it.size ≤ 100
          · exact absurd ⟨hq, h1, h2⟩ hs
          · exact .inr (.inr ⟨rfl, h1, by omega⟩)
        · exact .inr (.inl ⟨rfl, by omega⟩)
    clear hs
    have Hbox := hid hbox
    have M0 := hid m0
    clear hbox m0
    rcases hs' with hs | ⟨hs, h1⟩ | ⟨hs, h1, h2⟩
    all_goals
      try have h1' : (100 : Int) < key.size := by omega
      try have h1' : ¬ (100 : Int) < key.size := by omega
      try have h2' : (100 : Int) < it.size := by omega
      have Hs := hid hs
      clear hs
      go_enter Try.func4, Try.ntmps4
      go_wp2_with fail
      refine (small_c nb cap A n c f _ Hops.out).mono ?_
      rw [Hs.out]
      rintro e w1 ⟨rfl, m1⟩
      have M1 := hid (M0.out.trans m1)
      go_wp2_with fail
      refine (awake_c _).mono ?_
      rintro e w8 ⟨rfl, m8⟩
      go_wp2_with fail
      go_ret
      exact ⟨rfl, (M1.out.toBelow _ (Nat.le_refl _) (fun _ _ h => h)).trans (m8.mono M1.out.size)⟩
end Go.Proofs.Ytdipncjbobhbjaa
