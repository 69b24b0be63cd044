/- The law SorterRuns: its walk. -/
import Derived.Test.YtdipncjbobhbjaaFoot
namespace Go.Proofs.Ytdipncjbobhbjaa
open Go.RowKit
set_option linter.unusedVariables false
set_option linter.unusedSimpArgs false

theorem rnew_good2 (n : Nat) (cap : Int) (w : World) (h1 : 1 ≤ n) (h2 : n ≤ 16) (h3 : 1 ≤ cap) (h4 : cap ≤ 32) :
    Calls Try.prog 15 #[.int .i64 (n : Int), .int .i64 cap] w fun e w' => ∃ v, e = .returned (.tuple #[v, .int .i64 0]) ∧ RefN (fun g => w.heap.size ≤ g) w' v cap (empties n) ∧ Mod (fun _ => False) w w' := by
  obtain ⟨i0, hi0, hz0, hz1, hz2⟩ := info_parts info70
  have a1 : ¬ (n : Int) < 1 := by omega
  have a2 : ¬ (16 : Int) < n := by omega
  have a3 : ¬ cap < 1 := by omega
  have a4 : ¬ (32 : Int) < cap := by omega
  go_enter Try.func15, Try.ntmps15
  go_wp2_with (first | (at_make; refine wpList_make_full _ rfl (.tmp 22) (.tmp 22) 43 rfl 0 70 i0 (.agg #[.string ByteArray.empty, .slice none 0 0]) 2 Try.underlying43 hi0 hz0 hz1 .i64 .i64 (n : Int) (n : Int) n rfl rfl rfl rfl ?b2 ?b3 ?b4 ?_))
  case b2 => omega
  case b3 => unfold maxLen; omega
  · intro w1 hown hg
    have m1 : Mod (fun _ => False) (w.alloc (.cells #[.int .i64 0, .slice none 0 0] 45)) w1 := ⟨hg.os, hg.tape, hg.output, hg.size, fun k hk _ => hg.block k hk (by simp)⟩
    have hb := (At.new w (.cells #[.int .i64 0, .slice none 0 0] 45)).mod m1 id
    obtain ⟨r0, r1⟩ := At.two hb
    have f0 := hb.free 0
    have f1 := hb.free 1
    have Hown := hid hown
    clear hown hg
    go_wp2_with fail
    have hM : Mod (fun k => k = w.heap.size) w1 ((w1.setCell ⟨w.heap.size, 0, none⟩ (.int .i64 cap)).setCell ⟨w.heap.size, 1, none⟩ (.slice (some ⟨w.heap.size + 1, 0, none⟩) n n)) := ((Mod.refl _ _).here _ _).here _ _
    have hrow := own_mod Hown.out hM (fun g hg e => own_ne Hown.out hb (by decide) (by rw [hg, e]))
    have href : RefN (fun g => w.heap.size ≤ g) ((w1.setCell ⟨w.heap.size, 0, none⟩ (.int .i64 cap)).setCell ⟨w.heap.size, 1, none⟩ (.slice (some ⟨w.heap.size + 1, 0, none⟩) n n)) (.agg #[.int .i64 cap, .slice (some ⟨w.heap.size + 1, 0, none⟩) n n]) cap (empties n) := by
      refine ⟨some ⟨w.heap.size + 1, 0, none⟩, n, (madeCells (Value.agg #[.string ByteArray.empty, .slice none 0 0]).cells (n * 2)).toList, by rw [empties_len], by rw [empties_len]; exact hrow, fun g hg => (by simpa [Value.ownBlock] using hg : w.heap.size + 1 = g) ▸ Nat.le_succ _, fun i hi => ⟨.slice none 0 0, ?_, ?_, ?_, nil_own _, fun _ => rfl⟩⟩
      · rw [empties_len] at hi
        rw [bk_empties]
        have e : (i * 2) % 2 = 0 := by omega
        have q : i * 2 < n * 2 := by omega
        simp [madeCells, Value.cells, q, e]
      · rw [empties_len] at hi
        have e : (i * 2 + 1) % 2 = 1 := by omega
        have q : i * 2 + 1 < n * 2 := by omega
        simp [madeCells, Value.cells, q, e]
      · rw [bi_empties]
        exact World.ownsRow_nil _ _ _ _
    refine bodyPost_ret (v := .tuple #[.agg #[.int .i64 cap, .slice (some ⟨w.heap.size + 1, 0, none⟩) n n], .int .i64 0]) (by simp [results, Try.results15, go_sem, *]) rfl ⟨_, rfl, href, ?_⟩
    exact Mod.trans' (T := fun k => k = w.heap.size) (((Mod.refl (fun _ => False) w).alloc _).trans m1) hM (fun k hk hs => by omega)

theorem takeR_l32 {cap : Int} {bins : List Bin} (h : Fits cap bins) (n : Int) : (takeR bins n).2.2.1.length ≤ 32 := by
  unfold takeR
  split
  · simp
  · split
    · simp
    · rename_i h0 _
      exact h.len32 _ (by omega)
def growF (F : Nat → Prop) (n m : Nat) : Nat → Prop := fun k => F k ∨ (n ≤ k ∧ k < m)

/-- The sorter and the specification's sorter, side by side. -/
structure RS (B s tb : Nat) (cap : Int) (w1 wr : World) (bins : List Bin) (F : Nat → Prop) (A : Option Addr) (c : Nat) : Prop where
  sf : SorterF F B wr s cap bins
  fits : Fits cap bins
  rf : RefN (fun g => ¬ F g) wr (.agg #[.int .i64 cap, .slice A bins.length c]) cap bins
  bx : At wr tb (.cells #[.int .i64 cap, .slice A bins.length c] 45 (0, 0))
  fb : ∀ k, F k → B ≤ k ∧ k < wr.heap.size
  ft : ¬ F tb
  tbB : B ≤ tb
  m : Mod (fun _ => False) w1 wr
  hB : B = w1.heap.size

theorem SorterF.keep {F S : Nat → Prop} {B : Nat} {w w' : World} {s : Nat} {cap : Int} {bins : List Bin} (h : SorterF F B w s cap bins) (m : Mod S w w') (hS : ∀ k, B ≤ k → k < w.heap.size → isT w k → ¬ S k) : SorterF F B w' s cap bins := by
  obtain ⟨R, c, vs, ms, h, h'⟩ := h
  exact ⟨R, c, vs, ms, h.keep m hS, h'⟩
theorem RS.le {B s tb : Nat} {cap : Int} {w1 wr : World} {bins : List Bin} {F : Nat → Prop} {A : Option Addr} {c : Nat} (h : RS B s tb cap w1 wr bins F A c) : B ≤ wr.heap.size := by have := h.m.size; have := h.hB; omega
theorem RS.mod0 {B s tb : Nat} {cap : Int} {w1 wr w' : World} {bins : List Bin} {F : Nat → Prop} {A : Option Addr} {c : Nat} (h : RS B s tb cap w1 wr bins F A c) (m : Mod (fun _ => False) wr w') : RS B s tb cap w1 w' bins F A c :=
  ⟨h.sf.mod0 m, h.fits, h.rf.mod0 m, h.bx.mod m id, fun k hk => ⟨(h.fb k hk).1, Nat.lt_of_lt_of_le (h.fb k hk).2 m.size⟩, h.ft, h.tbB, h.m.trans m, h.hB⟩
theorem Mod.noneF {F : Nat → Prop} {w1 wr w4 : World} {B : Nat} (m : Mod (fun _ => False) w1 wr) (m4 : Mod F wr w4) (hF : ∀ k, F k → B ≤ k) (hB : B = w1.heap.size) : Mod (fun _ => False) w1 w4 := m.trans' m4 (fun i hi hk => by have := hF i hk; omega)
/-- Behind the sorter's call. -/
theorem RS.mid {B s tb : Nat} {cap : Int} {w1 wr w4 : World} {bins bins' : List Bin} {F : Nat → Prop} {A : Option Addr} {c : Nat} (h : RS B s tb cap w1 wr bins F A c) (hs : SorterF (fun k => F k ∨ wr.heap.size ≤ k) B w4 s cap bins') (m4 : Mod F wr w4) :
    RefN (fun g => ¬ growF F wr.heap.size w4.heap.size g) w4 (.agg #[.int .i64 cap, .slice A bins.length c]) cap bins ∧ At w4 tb (.cells #[.int .i64 cap, .slice A bins.length c] 45 (0, 0)) := by
  refine ⟨?_, h.bx.mod m4 h.ft⟩
  refine (h.rf.mono (N' := fun g => ¬ growF F wr.heap.size w4.heap.size g) (fun g hg hF q => ?_)).keep m4 (fun g hg hF => hg (.inl hF))
  rcases q with q | q
  · exact hF q
  · omega
/-- Behind both calls, with the specification's sorter stored. -/
theorem RS.next {B s tb : Nat} {cap : Int} {w1 wr w4 w5 : World} {bins bins' : List Bin} {F : Nat → Prop} {A A' : Option Addr} {c c' : Nat} (h : RS B s tb cap w1 wr bins F A c) (hs : SorterF (fun k => F k ∨ wr.heap.size ≤ k) B w4 s cap bins') (m4 : Mod F wr w4) (hf : Fits cap bins')
    (hr : RefN (NewN (fun g => ¬ growF F wr.heap.size w4.heap.size g) w4) w5 (.agg #[.int .i64 cap, .slice A' bins'.length c']) cap bins') (m5 : Mod (fun _ => False) w4 w5) :
    RS B s tb cap w1 ((w5.setCell ⟨tb, 0, none⟩ (.int .i64 cap)).setCell ⟨tb, 1, none⟩ (.slice A' bins'.length c')) bins' (growF F wr.heap.size w4.heap.size) A' c' := by
  have hb5 : At w5 tb (.cells #[.int .i64 cap, .slice A bins.length c] 45 (0, 0)) := (h.bx.mod m4 h.ft).mod m5 id
  have ms : Mod (fun k => k = tb) w5 ((w5.setCell ⟨tb, 0, none⟩ (.int .i64 cap)).setCell ⟨tb, 1, none⟩ (.slice A' bins'.length c')) := ((Mod.refl _ _).here _ _).here _ _
  have ma : Mod (fun _ => False) w4 w5 := m5
  have hw4 := h.fb
  have hle := h.le
  have hm4 := m4.size
  have hbl := h.bx.lt
  refine ⟨?_, hf, ?_, ?_, ?_, ?_, h.tbB, ?_, h.hB⟩
  · have h1 : SorterF (growF F wr.heap.size w4.heap.size) B w4 s cap bins' := hs.mono (fun k _ hk hq => hq.imp id (fun q => ⟨q, hk⟩))
    refine (h1.mod0 ma).keep ms (fun k _ _ hT e => ?_)
    have e' : k = tb := e
    subst e'
    rcases hT with ⟨c'', t', fr', a1, a2⟩ | ⟨es, cl, a1⟩
    · have := At.inj hb5 a1
      injection this with _ e _
      subst e
      simp at a2
    · have := At.inj hb5 a1
      cases this
  · have h2 : RefN (fun g => ¬ growF F wr.heap.size w4.heap.size g) w5 (.agg #[.int .i64 cap, .slice A' bins'.length c']) cap bins' := hr.mono (fun g _ hg => by
      rcases hg with hg | hg
      · exact hg
      · intro q
        rcases q with q | q
        · have := (hw4 g q).2; omega
        · omega)
    exact h2.res hb5 _ _
  · exact (hb5.put 0 _).put 1 _
  · intro k hk
    have hsz : w4.heap.size ≤ ((w5.setCell ⟨tb, 0, none⟩ (.int .i64 cap)).setCell ⟨tb, 1, none⟩ (.slice A' bins'.length c')).heap.size := Nat.le_trans ma.size ms.size
    rcases hk with hk | hk
    · have := hw4 k hk; omega
    · omega
  · intro hk
    rcases hk with hk | hk
    · exact h.ft hk
    · omega
  · exact (((h.m.noneF m4 (fun k hk => (hw4 k hk).1) h.hB).trans ma)).trans' ms (fun i hi e => by have := h.tbB; have := h.hB; omega)

set_option maxRecDepth 100000 in
set_option maxHeartbeats 6400000 in
theorem sorterRuns_walk (nb cap : Int) (A : Option Addr) (n c : Nat) (f : Nat → Cl) (w : World) (h : Ops w A n f) :
    Calls Try.prog 6 #[.agg #[.int .i64 nb, .int .i64 cap, .slice A n c]] w fun e w' => e = .returned (.bool true) ∧ Below w.heap.size w w' := by
  have hbox := At.new w (.cells #[.int .i64 nb, .int .i64 cap, .slice A n c] 24)
  have m0 : Mod (fun _ => False) w (w.alloc (.cells #[.int .i64 nb, .int .i64 cap, .slice A n c] 24)) := (Mod.refl _ _).alloc _
  have hops := h.mod m0 (fun _ _ _ _ h => h)
  have Hops := hid hops
  have Hbox := hid hbox
  have M0 := hid m0
  clear hbox m0 hops h
  cases hs : smallF n f
  · have Hs := hid hs
    clear hs
    go_enter Try.func6, Try.ntmps6
    go_wp2_with fail
    refine (small_c nb cap A n c f _ Hops.out).mono ?_
    rw [Hs.out]
    rintro e w1 ⟨rfl, m1⟩
    have M1 := hid (M0.out.trans m1)
    go_wp2_with fail
    refine (awake_c _).mono ?_
    rintro e w8 ⟨rfl, m8⟩
    go_wp2_with fail
    go_ret
    exact ⟨rfl, (M1.out.toBelow _ (Nat.le_refl _) (fun _ _ h => h)).trans (m8.mono M1.out.size)⟩
  · obtain ⟨hn150, hsm⟩ := smallF_true hs
    have Hsm := hid hsm
    have Hs := hid hs
    clear hs hsm
    go_enter Try.func6, Try.ntmps6
    go_wp2_with fail
    refine (small_c nb cap A n c f _ Hops.out).mono ?_
    rw [Hs.out]
    rintro e w1 ⟨rfl, m1⟩
    have Hb1 := hid (Hbox.out.mod m1 id)
    have Ho1 := hid (Hops.out.mod m1 (fun _ _ _ _ h => h))
    have M1 := hid (M0.out.trans m1)
    obtain ⟨b0, b1, b2⟩ := At.three Hb1.out
    by_cases hg : 1 ≤ nb ∧ nb ≤ 16 ∧ 1 ≤ cap ∧ cap ≤ 32
    · obtain ⟨h1, h2, h3, h4⟩ := hg
      obtain ⟨L, rfl⟩ := Int.eq_ofNat_of_zero_le (show 0 ≤ nb by omega)
      go_wp2_with fail
      refine (new_good L cap w1 (by omega) (by omega) h3 h4).mono ?_
      rintro e w2 ⟨s, rfl, hsr, hf, m2⟩
      have Hsr := hid hsr
      have Hf := hid hf
      have M2 := hid m2
      obtain ⟨x0, x1, x2⟩ := At.three (Hb1.out.mod m2 id)
      clear hsr hf m2 b0 b1 b2
      go_wp2_with fail
      refine (rnew_good2 L cap w2 (by omega) (by omega) h3 h4).mono ?_
      rintro e w3 ⟨v, rfl, hr, m3⟩
      obtain ⟨A3, c3, hv3⟩ := hr.val
      subst hv3
      rw [empties_len] at hr ⊢
      obtain ⟨w4, hw4⟩ : ∃ w4 : World, w4 = w3.alloc (.cells #[.int .i64 cap, .slice A3 L c3] 45) := ⟨_, rfl⟩
      have m4 : Mod (fun _ => False) w3 w4 := by rw [hw4]; exact (Mod.refl _ _).alloc _
      have hbx4 : At w4 w3.heap.size (.cells #[.int .i64 cap, .slice A3 L c3] 45 (0, 0)) := by rw [hw4]; exact At.new _ _
      have hB2 : w1.heap.size ≤ w2.heap.size := M2.out.size
      have hB3 : w2.heap.size ≤ w3.heap.size := m3.size
      have R4 : Hid (RS w1.heap.size s w3.heap.size cap w1 w4 (empties L) (fun k => w1.heap.size ≤ k ∧ k < w2.heap.size) A3 c3) := by
        refine ⟨(SorterF.start Hsr.out).mod0 (m3.trans m4), Hf.out, ?_, ?_, fun k hk => ⟨hk.1, ?_⟩, fun hk => by omega, by omega, (M2.out.trans m3).trans m4, rfl⟩
        · rw [empties_len]
          exact (hr.mono (fun g _ hg q => by omega)).mod0 m4
        · rw [empties_len]
          exact hbx4
        · have := m4.size; omega
      have Hw4 := hid hw4
      generalize htb : w3.heap.size = tb at R4
      have Htb := hid htb
      have hLe : Hid ((empties L).length = L) := empties_len L
      clear hr hw4 m4 hbx4 htb x0 x1 x2
      go_upto_region 5 with fail
      rw [← Hw4.out, Htb.out]
      go_wp2_with fail
      go_loopw [7] (fun s7 wr => ∃ (i : Nat) (bins : List Bin) (F : Nat → Prop) (A' : Option Addr) (c' : Nat), i ≤ n ∧ s7 = .int .i64 i ∧ Hid (RS w1.heap.size s tb cap w1 wr bins F A' c'))
        (fun s7 _ => n - (intOf s7).toNat)
      case atStart => exact ⟨0, _, _, _, _, by omega, rfl, R4⟩
      case round =>
        obtain ⟨i, bins, F, A', c', hi, rfl, hR⟩ := hrel
        obtain ⟨b0, b1, b2⟩ := At.three (Hb1.out.mod hR.out.m id)
        have hbl := (Hb1.out.mod hR.out.m id).lt
        have Ho := hid (Ho1.out.mod hR.out.m (fun _ _ _ _ h => h))
        by_cases hlt : i < n
        · obtain ⟨b, off, rfl, hb, o0, o1, o2, o3, hm1, hm2⟩ := Ho.out.get hlt
          have Hm2 := hid hm2
          generalize f i = o at o0 o1 o2 o3 Hm2 hm1 hm2
          obtain ⟨wo, hwo⟩ : ∃ wo : World, wo = wr.alloc (.cells #[.int .u8 o.kd, .string o.key, .string o.item, .int .i64 o.bin] 33) := ⟨_, rfl⟩
          have mo : Mod (fun _ => False) wr wo := by rw [hwo]; exact (Mod.refl _ _).alloc _
          have hbo : At wo wr.heap.size (.cells #[.int .u8 o.kd, .string o.key, .string o.item, .int .i64 o.bin] 33 (0, 0)) := by rw [hwo]; exact At.new _ _
          have Rb := hid (hR.out.mod0 mo)
          have Hbo := hid hbo
          have Hwo := hid hwo
          generalize hob : wr.heap.size = ob at hbo Hbo
          have Hob := hid hob
          have p0 : wo.cell? ⟨ob, 0, none⟩ = some (.int .u8 o.kd) := hbo.cell 0
          have p1 : wo.cell? ⟨ob, 1, none⟩ = some (.string o.key) := hbo.cell 1
          have p2 : wo.cell? ⟨ob, 2, none⟩ = some (.string o.item) := hbo.cell 2
          have p3 : wo.cell? ⟨ob, 3, none⟩ = some (.int .i64 o.bin) := hbo.cell 3
          clear hm1 hm2 mo hbo hwo hob
          go_upto_region 13 with fail
          rw [← Hwo.out, Hob.out]
          generalize hKd : o.kd = K at p0
          have hFo : ¬ F ob := fun q => by
            have := (hR.out.fb ob q).2
            rw [Hob.out] at this
            omega
          have HFo := hid hFo
          clear hKd hFo
          by_cases hK : K = 0
          · subst hK
            go_wp2_with fail
            refine (put_f o.key o.item wo Rb.out.sf Rb.out.fits Rb.out.le Hm2.out).mono ?_
            rintro e w4 ⟨rfl, h4, m4⟩
            obtain ⟨hmid, hbx4⟩ := Rb.out.mid h4 m4
            have S4 := hid h4
            have M4 := hid m4
            have F5 := hid (putR_fits Rb.out.fits o.key o.item)
            have Ho4 := Hbo.out.mod m4 HFo.out
            have r1 : w4.cell? ⟨ob, 1, none⟩ = some (.string o.key) := Ho4.cell 1
            have r2 : w4.cell? ⟨ob, 2, none⟩ = some (.string o.item) := Ho4.cell 2
            obtain ⟨d0, d1⟩ := At.two hbx4
            have Hbx4 := hid hbx4
            have Hmid := hid hmid
            clear h4 m4 Ho4 hbx4 hmid p0 p1 p2 p3 b0 b1 b2
            go_wp2_with fail
            refine (rput_any o.key o.item w4 Hmid.out Rb.out.fits).mono ?_
            rintro e w5 ⟨v5, rfl, h5, m5⟩
            obtain ⟨A5, c5, rfl⟩ := h5.val
            have hbx5 := Hbx4.out.mod m5 id
            generalize putR cap bins o.key o.item = rr at S4 F5 h5
            obtain ⟨bins', pp, er⟩ := rr
            simp only at S4 F5 h5 ⊢
            have R6 := (Rb.out.next S4.out M4.out F5.out h5 m5).mod0 ((Mod.refl _ _).alloc (.cells #[.int .i64 cap, .slice A5 bins'.length c5] 45))
            obtain ⟨w6, hw6⟩ : ∃ w6 : World, w6 = (((w5.setCell ⟨tb, 0, none⟩ (.int .i64 cap)).setCell ⟨tb, 1, none⟩ (.slice A5 bins'.length c5)).alloc (.cells #[.int .i64 cap, .slice A5 bins'.length c5] 45)) := ⟨_, rfl⟩
            rw [← hw6] at R6
            have R7 := hid R6
            obtain ⟨d0', d1'⟩ := At.two hbx5
            have df0 := hbx5.free 0
            have df1 := hbx5.free 1
            have dl := hbx5.lt
            have dl1 : tb < w5.heap.size + 1 := by omega
            obtain ⟨f0, f1⟩ := At.two R7.out.bx
            have Hw6 := hid hw6
            clear hw6 R6 h5 m5 hbx5 d0 d1 r1 r2
            go_upto_region 17 with fail
            rw [← Hw6.out]
            clear d0' d1' df0 df1 dl dl1
            go_wp2_with fail
            refine (full_c _ (SorterF.at_ R7.out.sf) R7.out.fits).mono ?_
            rintro e w8 ⟨rfl, m8⟩
            have R8 := hid (R7.out.mod0 m8)
            obtain ⟨g0, g1⟩ := At.two R8.out.bx
            clear f0 f1
            go_wp2_with fail
            refine (rfull_c _ R8.out.rf R8.out.fits).mono ?_
            rintro e w9 ⟨rfl, m9⟩
            have R9 := hid (R8.out.mod0 m9)
            generalize fullI cap bins' = fi
            generalize fullB cap bins' = fb
            go_wp2_with fail
            refine (fullest_c _ (SorterF.at_ R9.out.sf) R9.out.fits).mono ?_
            rintro e w10 ⟨rfl, m10⟩
            have R10 := hid (R9.out.mod0 m10)
            obtain ⟨k0, k1⟩ := At.two R10.out.bx
            clear g0 g1
            go_wp2_with fail
            refine (rfullest_c _ R10.out.rf R10.out.fits).mono ?_
            rintro e w11 ⟨rfl, m11⟩
            have R11 := hid (R10.out.mod0 m11)
            generalize ((big bins' bins'.length).1 : Int) = x1
            generalize (decide (0 < (big bins' bins'.length).2)) = x2
            obtain ⟨t0, t1⟩ := At.two R11.out.bx
            clear k0 k1
            have R11d := hid (R11.out.mod0 (Mod.refl _ w11).drew)
            go_upto_region 28 with fail
            go_region_held3 (fun w' => w'.cell? ⟨tb, 0, none⟩ = some (.int .i64 cap) ∧ w'.cell? ⟨tb, 1, none⟩ = some (.slice A5 bins'.length c5)) (go_keep) (first
              | (go_at_call 14; refine (len_c _ (SorterF.at_ (RS.sf R11d.out)) (RS.fits R11d.out)).mono ?_; rintro e w12 ⟨rfl, m12⟩; have R12 := hid (RS.mod0 R11d.out m12); have q12 := At.two (RS.bx R12.out); obtain ⟨y0, y1⟩ := q12)
              | (go_at_call 23; refine (rlen_c _ (RS.rf R12.out) (RS.fits R12.out)).mono ?_; rintro e w13 ⟨rfl, m13⟩; have R13 := hid (RS.mod0 R12.out m13); have q13 := At.two (RS.bx R13.out); obtain ⟨z0, z1⟩ := q13))
            all_goals
              go_wp2_with fail
              go_roundw
              case rel => exact ⟨i + 1, _, _, _, _, by omega, by go_num, R13⟩
              case measure => simp [intOf]; omega
          · go_wp2_with fail
            refine (take_f o.bin wo Rb.out.sf Rb.out.fits).mono ?_
            rintro e w4 ⟨A4, c4, rfl, hrow4, h4', m4⟩
            have h4 := h4'.mono (G := fun k => F k ∨ wo.heap.size ≤ k) (fun k _ _ q => .inl q)
            obtain ⟨hmid, hbx4⟩ := Rb.out.mid h4 m4
            have S4 := hid h4
            have M4 := hid m4
            have F5 := hid (takeR_fits Rb.out.fits o.bin)
            have hl32 := takeR_l32 Rb.out.fits o.bin
            have Ho4 := Hbo.out.mod m4 HFo.out
            have r3 : w4.cell? ⟨ob, 3, none⟩ = some (.int .i64 o.bin) := Ho4.cell 3
            obtain ⟨d0, d1⟩ := At.two hbx4
            have Hbx4 := hid hbx4
            have Hmid := hid hmid
            have Hrow4 := hid hrow4
            clear h4 h4' m4 Ho4 hbx4 hmid hrow4 p0 p1 p2 p3 b0 b1 b2
            go_wp2_with fail
            refine (rtake_any o.bin w4 Hmid.out Rb.out.fits).mono ?_
            rintro e w5 ⟨v5, A6, c6, rfl, hrow5, h5, m5⟩
            obtain ⟨A5, c5, rfl⟩ := h5.val
            have hbx5 := Hbx4.out.mod m5 id
            generalize takeR bins o.bin = rr at S4 F5 h5 Hrow4 hrow5 hl32
            obtain ⟨bins', kk, l, er⟩ := rr
            simp only at S4 F5 h5 Hrow4 hrow5 hl32 ⊢
            have R6 := (Rb.out.next S4.out M4.out F5.out h5 m5).mod0 ((Mod.refl _ _).alloc (.cells #[.int .i64 cap, .slice A5 bins'.length c5] 45))
            have hr4 := (own_res (own_mod0 Hrow4.out m5) hbx5 (by decide) (.int .i64 cap) (.slice A5 bins'.length c5)).alloc (.cells #[.int .i64 cap, .slice A5 bins'.length c5] 45)
            have hr5 := (own_res hrow5 hbx5 (by decide) (.int .i64 cap) (.slice A5 bins'.length c5)).alloc (.cells #[.int .i64 cap, .slice A5 bins'.length c5] 45)
            obtain ⟨w6, hw6⟩ : ∃ w6 : World, w6 = (((w5.setCell ⟨tb, 0, none⟩ (.int .i64 cap)).setCell ⟨tb, 1, none⟩ (.slice A5 bins'.length c5)).alloc (.cells #[.int .i64 cap, .slice A5 bins'.length c5] 45)) := ⟨_, rfl⟩
            rw [← hw6] at R6 hr4 hr5
            have R6' := hid R6
            have Hr4 := hid hr4
            have Hr5 := hid hr5
            obtain ⟨d0', d1'⟩ := At.two hbx5
            have df0 := hbx5.free 0
            have df1 := hbx5.free 1
            have dl := hbx5.lt
            have dl1 : tb < w5.heap.size + 1 := by omega
            obtain ⟨f0', f1'⟩ := At.two R6'.out.bx
            have Hw6 := hid hw6
            have hsk : (kk.toList == kk.toList) = true := seq_true rfl
            clear hw6 R6 h5 m5 hbx5 d0 d1 r3 hr4 hr5 hrow5
            go_upto_region 22 with fail
            rw [← Hw6.out]
            clear d0' d1' df0 df1 dl dl1
            go_wp2_with fail
            refine (rsame_c A4 A6 c4 c6 l _ _ w6 Hr4.out Hr5.out (by omega)).mono ?_
            rintro e w7 ⟨rfl, m7⟩
            have R7 := hid (R6'.out.mod0 m7)
            obtain ⟨f0, f1⟩ := At.two R7.out.bx
            clear f0' f1'
            go_wp2_with fail
            refine (full_c _ (SorterF.at_ R7.out.sf) R7.out.fits).mono ?_
            rintro e w8 ⟨rfl, m8⟩
            have R8 := hid (R7.out.mod0 m8)
            obtain ⟨g0, g1⟩ := At.two R8.out.bx
            clear f0 f1
            go_wp2_with fail
            refine (rfull_c _ R8.out.rf R8.out.fits).mono ?_
            rintro e w9 ⟨rfl, m9⟩
            have R9 := hid (R8.out.mod0 m9)
            generalize fullI cap bins' = fi
            generalize fullB cap bins' = fb
            go_wp2_with fail
            refine (fullest_c _ (SorterF.at_ R9.out.sf) R9.out.fits).mono ?_
            rintro e w10 ⟨rfl, m10⟩
            have R10 := hid (R9.out.mod0 m10)
            obtain ⟨k0, k1⟩ := At.two R10.out.bx
            clear g0 g1
            go_wp2_with fail
            refine (rfullest_c _ R10.out.rf R10.out.fits).mono ?_
            rintro e w11 ⟨rfl, m11⟩
            have R11 := hid (R10.out.mod0 m11)
            generalize ((big bins' bins'.length).1 : Int) = x1
            generalize (decide (0 < (big bins' bins'.length).2)) = x2
            obtain ⟨t0, t1⟩ := At.two R11.out.bx
            clear k0 k1
            have R11d := hid (R11.out.mod0 (Mod.refl _ w11).drew)
            go_upto_region 28 with fail
            go_region_held3 (fun w' => w'.cell? ⟨tb, 0, none⟩ = some (.int .i64 cap) ∧ w'.cell? ⟨tb, 1, none⟩ = some (.slice A5 bins'.length c5)) (go_keep) (first
              | (go_at_call 14; refine (len_c _ (SorterF.at_ (RS.sf R11d.out)) (RS.fits R11d.out)).mono ?_; rintro e w12 ⟨rfl, m12⟩; have R12 := hid (RS.mod0 R11d.out m12); have q12 := At.two (RS.bx R12.out); obtain ⟨y0, y1⟩ := q12)
              | (go_at_call 23; refine (rlen_c _ (RS.rf R12.out) (RS.fits R12.out)).mono ?_; rintro e w13 ⟨rfl, m13⟩; have R13 := hid (RS.mod0 R12.out m13); have q13 := At.two (RS.bx R13.out); obtain ⟨z0, z1⟩ := q13))
            all_goals
              go_wp2_with fail
              go_roundw
              case rel => exact ⟨i + 1, _, _, _, _, by omega, by go_num, R13⟩
              case measure => simp [intOf]; omega
        · obtain rfl : i = n := by omega
          go_wp2_with fail
          refine (awake_c _).mono ?_
          rintro e w8 ⟨rfl, m8⟩
          go_wp2_with fail
          go_ret
          have mm := M1.out.trans hR.out.m
          exact ⟨rfl, (mm.toBelow _ (Nat.le_refl _) (fun _ _ h => h)).trans (m8.mono mm.size)⟩
    · have hb : nb < 1 ∨ (1 ≤ nb ∧ 16 < nb) ∨ (1 ≤ nb ∧ nb ≤ 16 ∧ cap < 1) ∨ (1 ≤ nb ∧ nb ≤ 16 ∧ 1 ≤ cap ∧ 32 < cap) := by omega
      have Hb := hid hb
      clear hg hb
      go_wp2_with fail
      refine (new_bad nb cap w1 Hb.out).mono ?_
      rintro e w2 ⟨rfl, rfl⟩
      go_wp2_with fail
      refine (rnew_bad nb cap w1 Hb.out).mono ?_
      rintro e w3 ⟨rfl, m3⟩
      go_wp2_with fail
      refine (awake_c _).mono ?_
      rintro e w8 ⟨rfl, m8⟩
      go_wp2_with fail
      go_ret
      have mm := (M1.out.trans m3).alloc (.cells #[.int .i64 0, .slice none 0 0] 45)
      exact ⟨rfl, (mm.toBelow _ (Nat.le_refl _) (fun _ _ h => h)).trans (m8.mono mm.size)⟩
end Go.Proofs.Ytdipncjbobhbjaa
