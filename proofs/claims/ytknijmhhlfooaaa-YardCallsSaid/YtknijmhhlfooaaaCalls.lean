/- The law YardCalls: its walk. -/
import Derived.Test.YtknijmhhlfooaaaCallsP
import Derived.Deep.LoopGhost
import Derived.Deep.DeepCutAuto
namespace Go.Proofs.Ytknijmhhlfooaaa
open Go.RowKit
set_option linter.unusedVariables false
set_option linter.unusedSimpArgs false
attribute [local go_sem ↓] Go.wp_at_zero Go.wp_at_succ

set_option maxRecDepth 100000 in
set_option maxHeartbeats 6400000 in
theorem yardCalls_walk (nb cap : Int) (A : Option Addr) (n c : Nat) (kd bay : Nat → Int) (it : Nat → ByteArray) (w : World) (_ : (Lit.int .i64 nb).wf = true) (_ : (Lit.int .i64 cap).wf = true) (ho : Ops w A n kd bay it) :
    Calls Try.prog 6 #[.int .i64 nb, .int .i64 cap, .slice A n c] w fun e w' => e = .returned (.bool true) ∧ Below w.heap.size w w' := by
  have HO := hid ho
  have hn63 := ho.1
  clear ho
  cases hs : shortF n it
  · have Hs := hid hs
    clear hs
    go_enter Try.func6, Try.ntmps6
    go_wp2_with fail
    refine (short_c A n c kd bay it w HO.out).mono ?_
    rw [Hs.out]
    rintro e w1 ⟨rfl, rfl⟩
    go_wp2_with fail
    refine (awake_c _).mono ?_
    rintro e w8 ⟨rfl, m8⟩
    go_wp2_with fail
    go_ret
    exact ⟨rfl, m8⟩
  · obtain ⟨hn60, _⟩ := shortF_true hs
    have Hs := hid hs
    clear hs
    go_enter Try.func6, Try.ntmps6
    go_wp2_with fail
    refine (short_c A n c kd bay it w HO.out).mono ?_
    rw [Hs.out]
    rintro e w1 ⟨rfl, rfl⟩
    by_cases hbad : nb < 1 ∨ (1 ≤ nb ∧ 16 < nb) ∨ (1 ≤ nb ∧ nb ≤ 16 ∧ cap < 1) ∨ (1 ≤ nb ∧ nb ≤ 16 ∧ 1 ≤ cap ∧ 32 < cap)
    · have Hb := hid hbad
      clear hbad
      go_wp2_with fail
      refine (new_bad nb cap _ Hb.out).mono ?_
      rintro e w1 ⟨rfl, rfl⟩
      go_wp2_with fail
      refine (rnew_bad nb cap _ Hb.out).mono ?_
      rintro e w1 ⟨rfl, m1⟩
      have mm := m1.alloc (.cells #[.int .i64 0, .slice none 0 0, .slice none 0 0] 47)
      have Mm := hid mm
      clear m1 mm
      go_wp2_with fail
      go_loopw [11] (fun s11 wr => s11 = .int .i64 0 ∧ wr = w1.alloc (.cells #[.int .i64 0, .slice none 0 0, .slice none 0 0] 47)) (fun _ _ => 0)
      case atStart => exact ⟨rfl, rfl⟩
      case round =>
        obtain ⟨rfl, rfl⟩ := hrel
        by_cases h0 : (0 : Int) < n
        · go_wp2_with fail
          refine (awake_c _).mono ?_
          rintro e w8 ⟨rfl, m8⟩
          go_wp2_with fail
          go_ret
          exact ⟨rfl, (Mm.out.toBelow _ (Nat.le_refl _) (fun _ _ h => h)).trans (m8.mono Mm.out.size)⟩
        · go_wp2_with fail
          refine (awake_c _).mono ?_
          rintro e w8 ⟨rfl, m8⟩
          go_wp2_with fail
          go_ret
          exact ⟨rfl, (Mm.out.toBelow _ (Nat.le_refl _) (fun _ _ h => h)).trans (m8.mono Mm.out.size)⟩
    · obtain ⟨a, rfl⟩ : ∃ a : Nat, nb = a := ⟨nb.toNat, by omega⟩
      have hb1 : 1 ≤ a := by omega
      have hb2 : a ≤ 16 := by omega
      have hb3 : 1 ≤ cap := by omega
      have hb4 : cap ≤ 32 := by omega
      have F0 : Hid (Fits cap 0 (List.replicate a [])) := fits_of (by simpa using hb1) (by simpa using hb2) hb3 hb4 (by intro l hl; rw [List.eq_of_mem_replicate hl]; simp; omega) (by omega)
      clear hbad
      go_wp2_with fail
      refine (new_good a cap _ hb1 hb2 hb3 hb4).mono ?_
      rintro e w2 ⟨y, rfl, hY, m2⟩
      have HY := hid hY
      have M2 := hid m2
      clear hY m2
      go_wp2_with fail
      refine (rnew_good a cap _ hb1 hb2 hb3 hb4).mono ?_
      rintro e w3 ⟨v, rfl, hr, m3⟩
      obtain ⟨Ab, cb, Aa, ca, hv3, _, _⟩ := hr.parts
      subst hv3
      obtain ⟨w4, hw4⟩ : ∃ w4 : World, w4 = w3.alloc (.cells #[.int .i64 cap, .slice Ab (List.replicate a ([] : List Pc)).length cb, .slice Aa ([] : List Pc).length ca] 47) := ⟨_, rfl⟩
      have m4 : Mod (fun _ => False) w3 w4 := by rw [hw4]; exact (Mod.refl _ _).alloc _
      have C4 : Hid (CS w.heap.size y w3.heap.size cap w w4 0 0 (List.replicate a []) [] Ab cb Aa ca) :=
        ⟨HY.out.mod0 (m3.trans m4), F0.out, Ages.empty a, by simp, by rw [hw4]; exact At.new _ _, hr.mod0 m4, (M2.out.trans m3).trans m4, rfl, Nat.le_trans M2.out.size m3.size⟩
      have Hw4 := hid hw4
      generalize htb : w3.heap.size = T at C4
      have Htb := hid htb
      generalize List.replicate a ([] : List Pc) = bays0 at C4 Hw4 F0 ⊢
      generalize ([] : List Pc) = ag0 at C4 Hw4 ⊢
      clear hr hw4 m4 htb
      go_upto_region 5 with fail
      rw [← Hw4.out, Htb.out]
      go_wp2_with fail
      go_loopg [11] n (fun gn s11 wr => ∃ (i : Nat) (puts : Int) (bays : List (List Pc)) (ag : List Pc) (Ab : Option Addr) (cb : Nat) (Aa : Option Addr) (ca : Nat), i + gn = n ∧ s11 = .int .i64 i ∧ Hid (CS w.heap.size y T cap w wr i puts bays ag Ab cb Aa ca))
      case atStart => exact ⟨0, 0, _, _, _, _, _, _, Nat.zero_add _, rfl, C4⟩
      case round =>
        obtain ⟨i, puts, bays, ag, Ab, cb, Aa, ca, hi0, rfl, hC⟩ := hrel
        have hi : i ≤ n := by omega
        have Hi0 := hid hi0
        clear hi0
        have hO1 := hid (HO.out.mod (hC.out.m.toBelow _ (Nat.le_refl _) (fun _ _ h => h)))
        obtain ⟨t0, t1, t2⟩ := At.three hC.out.bT
        have tl := hC.out.bT.lt
        by_cases hlt : i < n
        · obtain ⟨b, off, rfl, hb, hc⟩ := hO1.out.2 (by omega)
          obtain ⟨o0, o1, o2, o3⟩ := hc i hlt
          have hbB : b < w.heap.size := by
            obtain ⟨b', off', e', hb', _⟩ := HO.out.2 (by omega)
            injection e' with e'
            injection e' with e1 _
            rw [e1]; exact hb'
          have HbB := hid hbB
          clear hbB
          generalize kd i = K at o0
          generalize bay i = bb at o1
          generalize it i = item at o2 o3
          have Cd := hid (hC.out.mod0 (Mod.refl _ wr).drew)
          have Ca := hid (hC.out.mod0 ((Mod.refl _ wr).drew.alloc (.cells #[.int .i64 0, .slice none 0 0, .slice none 0 0] 47)))
          have hz : At (wr.drew.alloc (.cells #[.int .i64 0, .slice none 0 0, .slice none 0 0] 47)) wr.heap.size (.cells #[.int .i64 0, .slice none 0 0, .slice none 0 0] 47 (0, 0)) := At.new wr.drew _
          have Hz := hid hz
          clear hc hz
          by_cases hK : K = 0
          · subst hK
            go_upto_region 11 with fail
            have hpl : puts ≤ 1000000 := by have := hC.out.le; omega
            obtain ⟨hpf, hpz, hpg⟩ := put_ages (cap := cap) bb item hC.out.fits hC.out.ages
            clear hpz
            have hple : (putF cap puts bays bb item).2.1 ≤ ((i + 1 : Nat) : Int) := by
              have := hC.out.le
              rcases hpg with ⟨_, q, _⟩ | ⟨_, q, _⟩ <;> rw [q] <;> omega
            have Hpf := hid hpf
            have Hple := hid hple
            clear hpf hpg hple
            go_cut [12, 13] from 46 to 133 (fun s12 s13 wx => ∃ X : Nat, s12 = .pointer (some ⟨X, 0, none⟩) ∧ s13 = .int .i64 (putF cap puts bays bb item).1 ∧ ∃ (ag5 : List Pc) (Ab5 : Option Addr) (cb5 : Nat) (Aa5 : Option Addr) (ca5 : Nat), Hid (At wx X (.cells #[.int .i64 cap, .slice Ab5 (putF cap puts bays bb item).2.2.length cb5, .slice Aa5 ag5.length ca5] 47 (0, 0))) ∧ Hid (CS w.heap.size y T cap w wx i puts bays ag Ab cb Aa ca) ∧ Hid (Ages (putF cap puts bays bb item).2.1 (putF cap puts bays bb item).2.2 ag5) ∧ Hid (RefAt wx (.agg #[.int .i64 cap, .slice Ab5 (putF cap puts bays bb item).2.2.length cb5, .slice Aa5 ag5.length ca5]) cap (putF cap puts bays bb item).2.2 ag5) ∧ Hid (Mod (fun _ => False) wr wx))
            case first =>
              go_region_held3 (fun w' => w'.cell? ⟨T, 0, none⟩ = some (.int .i64 cap) ∧ w'.cell? ⟨T, 1, none⟩ = some (.slice Ab bays.length cb) ∧ w'.cell? ⟨T, 2, none⟩ = some (.slice Aa ag.length ca) ∧ w'.cell? ⟨b, off + i * 3 + 1, none⟩ = some (.int .i64 bb) ∧ w'.cell? ⟨b, off + i * 3 + 2, none⟩ = some (.string item)) (go_keep) (first
                | (go_at_call 20; refine (rput_all bb item _ (CS.rf Cd.out) (CS.fits Cd.out) (CS.ages Cd.out)).mono ?_; rintro e w5 ⟨v5, ag5, rfl, hA5, h5, m5⟩; obtain ⟨Ab5, cb5, Aa5, ca5, rfl, _, _⟩ := RefAt.parts h5; have C5 := hid (CS.mod0 Cd.out m5); have q5 := At.three (CS.bT C5.out); obtain ⟨x5a, x5b, x5c⟩ := q5; have x5d := Mod.keep0 (Mod.trans (Mod.drew (Mod.refl _ wr)) m5) o1; have x5e := Mod.keep0 (Mod.trans (Mod.drew (Mod.refl _ wr)) m5) o2; have H5 := hid h5; have HA5 := hid hA5; have M5 := hid m5)
                | (go_at_call 20; refine (rput_all bb item _ (CS.rf Ca.out) (CS.fits Ca.out) (CS.ages Ca.out)).mono ?_; rintro e w5 ⟨v5, ag5, rfl, hA5, h5, m5⟩; obtain ⟨Ab5, cb5, Aa5, ca5, rfl, _, _⟩ := RefAt.parts h5; have C5 := hid (CS.mod0 Ca.out m5); have q5 := At.three (CS.bT C5.out); obtain ⟨x5a, x5b, x5c⟩ := q5; have x5d := Mod.keep0 (Mod.trans (Mod.alloc (Mod.drew (Mod.refl _ wr)) _) m5) o1; have x5e := Mod.keep0 (Mod.trans (Mod.alloc (Mod.drew (Mod.refl _ wr)) _) m5) o2; have H5 := hid h5; have HA5 := hid hA5; have M5 := hid m5; have hz5 := At.mod Hz.out m5 id; have z5 := At.three hz5; obtain ⟨z5a, z5b, z5c⟩ := z5; have z5f := At.free hz5 0; have z5g := At.free hz5 1; have z5h := At.free hz5 2; have z5i := At.lt hz5; have z5n : T ≠ wr.heap.size := Nat.ne_of_lt tl; have z5m : b ≠ wr.heap.size := Nat.ne_of_lt hb; have z5o : wr.heap.size ≠ T := fun q => z5n q.symm; have z5p : wr.heap.size ≠ b := fun q => z5m q.symm))
              all_goals
                go_wp2_with fail
                go_meet
              all_goals
                have hbb : w.heap.size ≤ wr.heap.size := hC.out.leB
                first
                  | (refine ⟨w5.heap.size, rfl, rfl, ag5, Ab5, cb5, Aa5, ca5, hid (At.new w5 _), hid (C5.out.mod0 ((Mod.refl _ _).alloc _)), HA5, hid (H5.out.mod0 ((Mod.refl _ _).alloc _)), hid ?_⟩
                     exact Mod.alloc (Mod.trans (Mod.drew (Mod.refl _ wr)) M5.out) _)
                  | (have ms5 : Mod (fun k => k = wr.heap.size) w5 (((w5.setCell ⟨wr.heap.size, 0, none⟩ (.int .i64 cap)).setCell ⟨wr.heap.size, 1, none⟩ (.slice Ab5 (putF cap puts bays bb item).2.2.length cb5)).setCell ⟨wr.heap.size, 2, none⟩ (.slice Aa5 ag5.length ca5)) := (((Mod.refl _ _).here _ _).here _ _).here _ _
                     refine ⟨wr.heap.size, rfl, rfl, ag5, Ab5, cb5, Aa5, ca5, hid (((At.put hz5 0 (.int .i64 cap)).put 1 (.slice Ab5 (putF cap puts bays bb item).2.2.length cb5)).put 2 (.slice Aa5 ag5.length ca5)), hid (C5.out.box hz5 z5n hbb _ _ _), HA5, hid (H5.out.own hz5 ms5), hid ?_⟩
                     exact Mod.none_of (Mod.trans (Mod.alloc (Mod.drew (Mod.refl _ wr)) _) M5.out) ms5 (Nat.le_refl _))
            case rest =>
              obtain ⟨X, rfl, rfl, ag5, Ab5, cb5, Aa5, ca5, hX, hC6, hA6, hR6, hm6⟩ := hcut
              have C6d := hid (hC6.out.mod0 (Mod.refl _ wc).drew)
              have p1 := hm6.out.keep0 o1
              have p2 := hm6.out.keep0 o2
              have hX' := hid (hX.out.mod (Mod.drew (Mod.refl (fun _ => False) wc)) id)
              have hR6' := hid (hR6.out.mod0 (Mod.drew (Mod.refl (fun _ => False) wc)))
              have p1d := hid ((Mod.drew (Mod.refl (fun _ => False) wc)).keep0 p1)
              have p2d := hid ((Mod.drew (Mod.refl (fun _ => False) wc)).keep0 p2)
              have hnB : ¬ (Up w.heap.size b ∧ isT wc.drew b) := fun q => by have := q.1; have := HbB.out; unfold Up at *; omega
              have HnB := hid hnB
              have pb : b < wc.heap.size := World.block_lt_of_cell? wc _ p1
              clear o0 o1 o2 t0 t1 t2 tl hnB
              go_upto_region 12 with fail
              go_region_held3 (fun w' => w'.cell? ⟨b, off + i * 3 + 1, none⟩ = some (.int .i64 bb) ∧ w'.cell? ⟨b, off + i * 3 + 2, none⟩ = some (.string item)) (go_keep) (first
                | (go_at_call 12; refine (put_any bb item _ (CS.ya C6d.out) (CS.fits C6d.out) hpl).mono ?_; rintro e w7 ⟨rfl, hY7, mt7⟩; have x7a := Mod.keep mt7 HnB.out p1d.out; have x7b := Mod.keep mt7 HnB.out p2d.out; have HY7 := hid hY7; have MT7 := hid mt7))
              generalize putF cap puts bays bb item = r at hX' hA6 hR6' Hpf Hple HY7 ⊢
              obtain ⟨r1, puts', bays'⟩ := r
              simp only at hX' hA6 hR6' Hpf Hple HY7 ⊢
              have Y7 := hid (HY7.out.up C6d.out.leB)
              have hX7 := MT.at_ hX'.out MT7.out (by decide)
              have hT7 := MT.at_ C6d.out.bT MT7.out (by decide)
              have hR7 := hid (hR6'.out.mt MT7.out)
              have hm7 := hid (MT7.out.none C6d.out.m C6d.out.hB)
              obtain ⟨y0, y1, y2⟩ := At.three hX7
              obtain ⟨t0, t1, t2⟩ := At.three hT7
              have tf0 := hT7.free 0
              have tf1 := hT7.free 1
              have tf2 := hT7.free 2
              have C8 := CS.store Y7.out Hpf.out hA6.out Hple.out hT7 ⟨_, _, _, rfl⟩ hR7.out hm7.out rfl C6d.out.hT
              obtain ⟨w8, hw8⟩ : ∃ w8 : World, w8 = (((w7.setCell ⟨T, 0, none⟩ (.int .i64 cap)).setCell ⟨T, 1, none⟩ (.slice Ab5 bays'.length cb5)).setCell ⟨T, 2, none⟩ (.slice Aa5 ag5.length ca5)) := ⟨_, rfl⟩
              rw [← hw8] at C8
              have HC8 := hid C8
              have Hw8 := hid hw8
              obtain ⟨v0, v1, v2⟩ := At.three C8.bT
              clear hw8 C8 hX7 hT7 p1 p2
              go_upto_region 23 with fail
              rw [← Hw8.out]
              go_wp2_with fail
              refine (alike_c w8 HC8.out.ya HC8.out.rf HC8.out.fits HC8.out.ages).mono ?_
              rintro e w9 ⟨rfl, m9⟩
              have C9 := hid (HC8.out.mod0 m9)
              go_wp2_with fail
              go_roundg (gk - 1)
              case measure => have := Hi0.out; omega
              case rel => exact ⟨i + 1, puts', bays', ag5, Ab5, cb5, Aa5, ca5, by have := Hi0.out; omega, by go_num, C9⟩
          · clear Hz Ca Cd
            by_cases hK2 : K = 2
            · subst hK2
              have hag := ages_len hC.out.fits hC.out.ages
              have hagl : ag.length ≤ 1000 := by omega
              clear hag
              go_wp2_with fail
              refine (roldest_c wr hC.out.rf hagl).mono ?_
              rintro e w5 ⟨rfl, m5⟩
              have C5 := hid (hC.out.mod0 m5)
              generalize (oldN ag).1 = itx
              generalize (oldN ag).2 = ity
              obtain ⟨x0, x1, x2⟩ := At.three C5.out.bT
              clear t0 t1 t2 tl o0 o1 o2 m5
              go_wp2_with fail
              refine (rtake_all itx w5 C5.out.rf C5.out.fits C5.out.ages).mono ?_
              rintro e w6 ⟨v6, ag6, rfl, hA6, h6, m6⟩
              obtain ⟨Ab6, cb6, Aa6, ca6, rfl, _, _⟩ := h6.parts
              obtain ⟨hpf, hpz, _⟩ := take_ages (cap := cap) itx C5.out.fits C5.out.ages
              have hle := C5.out.le
              have hple : puts ≤ ((i + 1 : Nat) : Int) := by omega
              have Hpf := hid hpf
              have HA6 := hid hA6
              obtain ⟨w6a, hw6a⟩ : ∃ w6a : World, w6a = w6.alloc (.cells #[.int .i64 cap, .slice Ab6 (takeF cap bays itx).2.2.length cb6, .slice Aa6 ag6.length ca6] 47) := ⟨_, rfl⟩
              have ma : Mod (fun _ => False) w6 w6a := by rw [hw6a]; exact (Mod.refl _ _).alloc _
              have hX6 : At w6a w6.heap.size (.cells #[.int .i64 cap, .slice Ab6 (takeF cap bays itx).2.2.length cb6, .slice Aa6 ag6.length ca6] 47 (0, 0)) := by rw [hw6a]; exact At.new _ _
              have C6 := hid (C5.out.mod0 (m6.trans ma))
              have HX6 := hid hX6
              have H6 := hid (h6.mod0 ma)
              have Hw6a := hid hw6a
              clear hpf hpz hA6 h6 m6 ma hX6 hw6a hle
              go_upto_region 19 with fail
              rw [← Hw6a.out]
              go_wp2_with fail
              refine (take_any itx w6a C6.out.ya C6.out.fits).mono ?_
              rintro e w7 ⟨rfl, hY7, mt7⟩
              have HY7 := hid hY7
              have MT7 := hid mt7
              generalize takeF cap bays itx = r at HX6 HA6 H6 Hpf HY7 ⊢
              obtain ⟨r1, r2, bays'⟩ := r
              simp only at HX6 HA6 H6 Hpf HY7 ⊢
              clear hY7 mt7
              have Y7 := hid (HY7.out.up C6.out.leB)
              have hX7 := MT.at_ HX6.out MT7.out (by decide)
              have hT7 := MT.at_ C6.out.bT MT7.out (by decide)
              have hR7 := hid (H6.out.mt MT7.out)
              have hm7 := hid (MT7.out.none C6.out.m C6.out.hB)
              obtain ⟨y0, y1, y2⟩ := At.three hX7
              obtain ⟨u0', u1', u2'⟩ := At.three hT7
              have tf0 := hT7.free 0
              have tf1 := hT7.free 1
              have tf2 := hT7.free 2
              have C8 := CS.store Y7.out Hpf.out HA6.out hple hT7 ⟨_, _, _, rfl⟩ hR7.out hm7.out rfl C6.out.hT
              obtain ⟨w8, hw8⟩ : ∃ w8 : World, w8 = (((w7.setCell ⟨T, 0, none⟩ (.int .i64 cap)).setCell ⟨T, 1, none⟩ (.slice Ab6 bays'.length cb6)).setCell ⟨T, 2, none⟩ (.slice Aa6 ag6.length ca6)) := ⟨_, rfl⟩
              rw [← hw8] at C8
              have HC8 := hid C8
              have Hw8 := hid hw8
              obtain ⟨v0, v1, v2⟩ := At.three C8.bT
              clear hw8 C8 hX7 hT7
              go_upto_region 23 with fail
              rw [← Hw8.out]
              go_wp2_with fail
              refine (alike_c w8 HC8.out.ya HC8.out.rf HC8.out.fits HC8.out.ages).mono ?_
              rintro e w9 ⟨rfl, m9⟩
              have C9 := hid (HC8.out.mod0 m9)
              go_wp2_with fail
              go_roundg (gk - 1)
              case measure => have := Hi0.out; omega
              case rel => exact ⟨i + 1, puts, bays', ag6, Ab6, cb6, Aa6, ca6, by have := Hi0.out; omega, by go_num, C9⟩
            · go_wp2_with fail
              refine (rtake_all item wr hC.out.rf hC.out.fits hC.out.ages).mono ?_
              rintro e w6 ⟨v6, ag6, rfl, hA6, h6, m6⟩
              obtain ⟨Ab6, cb6, Aa6, ca6, rfl, _, _⟩ := h6.parts
              obtain ⟨hpf, hpz, _⟩ := take_ages (cap := cap) item hC.out.fits hC.out.ages
              have hle := hC.out.le
              have hple : puts ≤ ((i + 1 : Nat) : Int) := by omega
              have Hpf := hid hpf
              have HA6 := hid hA6
              obtain ⟨w6a, hw6a⟩ : ∃ w6a : World, w6a = w6.alloc (.cells #[.int .i64 cap, .slice Ab6 (takeF cap bays item).2.2.length cb6, .slice Aa6 ag6.length ca6] 47) := ⟨_, rfl⟩
              have ma : Mod (fun _ => False) w6 w6a := by rw [hw6a]; exact (Mod.refl _ _).alloc _
              have hX6 : At w6a w6.heap.size (.cells #[.int .i64 cap, .slice Ab6 (takeF cap bays item).2.2.length cb6, .slice Aa6 ag6.length ca6] 47 (0, 0)) := by rw [hw6a]; exact At.new _ _
              have C6 := hid (hC.out.mod0 (m6.trans ma))
              have HX6 := hid hX6
              have H6 := hid (h6.mod0 ma)
              have Hw6a := hid hw6a
              clear hpf hpz hA6 h6 m6 ma hX6 hw6a hle
              go_upto_region 19 with fail
              rw [← Hw6a.out]
              go_wp2_with fail
              refine (take_any item w6a C6.out.ya C6.out.fits).mono ?_
              rintro e w7 ⟨rfl, hY7, mt7⟩
              have HY7 := hid hY7
              have MT7 := hid mt7
              generalize takeF cap bays item = r at HX6 HA6 H6 Hpf HY7 ⊢
              obtain ⟨r1, r2, bays'⟩ := r
              simp only at HX6 HA6 H6 Hpf HY7 ⊢
              clear hY7 mt7
              have Y7 := hid (HY7.out.up C6.out.leB)
              have hX7 := MT.at_ HX6.out MT7.out (by decide)
              have hT7 := MT.at_ C6.out.bT MT7.out (by decide)
              have hR7 := hid (H6.out.mt MT7.out)
              have hm7 := hid (MT7.out.none C6.out.m C6.out.hB)
              obtain ⟨y0, y1, y2⟩ := At.three hX7
              obtain ⟨u0', u1', u2'⟩ := At.three hT7
              have tf0 := hT7.free 0
              have tf1 := hT7.free 1
              have tf2 := hT7.free 2
              have C8 := CS.store Y7.out Hpf.out HA6.out hple hT7 ⟨_, _, _, rfl⟩ hR7.out hm7.out rfl C6.out.hT
              obtain ⟨w8, hw8⟩ : ∃ w8 : World, w8 = (((w7.setCell ⟨T, 0, none⟩ (.int .i64 cap)).setCell ⟨T, 1, none⟩ (.slice Ab6 bays'.length cb6)).setCell ⟨T, 2, none⟩ (.slice Aa6 ag6.length ca6)) := ⟨_, rfl⟩
              rw [← hw8] at C8
              have HC8 := hid C8
              have Hw8 := hid hw8
              obtain ⟨v0, v1, v2⟩ := At.three C8.bT
              clear hw8 C8 hX7 hT7
              go_upto_region 23 with fail
              rw [← Hw8.out]
              go_wp2_with fail
              refine (alike_c w8 HC8.out.ya HC8.out.rf HC8.out.fits HC8.out.ages).mono ?_
              rintro e w9 ⟨rfl, m9⟩
              have C9 := hid (HC8.out.mod0 m9)
              go_wp2_with fail
              go_roundg (gk - 1)
              case measure => have := Hi0.out; omega
              case rel => exact ⟨i + 1, puts, bays', ag6, Ab6, cb6, Aa6, ca6, by have := Hi0.out; omega, by go_num, C9⟩
        · obtain rfl : i = n := by omega
          go_wp2_with fail
          refine (awake_c _).mono ?_
          rintro e w8 ⟨rfl, m8⟩
          go_wp2_with fail
          go_ret
          exact ⟨rfl, (hC.out.m.toBelow _ (Nat.le_refl _) (fun _ _ h => h)).trans (m8.mono hC.out.m.size)⟩
end Go.Proofs.Ytknijmhhlfooaaa
