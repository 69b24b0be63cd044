/- The specification's Put and Take at any arguments. -/
import Derived.Test.YtknijmhhlfooaaaRtake2
namespace Go.Proofs.Ytknijmhhlfooaaa
open Go.RowKit
set_option linter.unusedVariables false
set_option linter.unusedSimpArgs false

/-- The two boxes of Put: the yard's, and the result's. -/
structure PB (w w2 : World) (n : Nat) (cap : Int) (ag : List Pc) (Ab : Option Addr) (cb : Nat) (Aa : Option Addr) (ca : Nat) : Prop where
  eq : w2 = (w.alloc (.cells #[.int .i64 cap, .slice Ab n cb, .slice Aa ag.length ca] 47)).alloc (.cells #[.int .i64 0, .slice none 0 0, .slice none 0 0] 47)
  m : Mod (fun _ => False) w w2
  S : At w2 w.heap.size (.cells #[.int .i64 cap, .slice Ab n cb, .slice Aa ag.length ca] 47 (0, 0))
  R : At w2 (w.heap.size + 1) (.cells #[.int .i64 0, .slice none 0 0, .slice none 0 0] 47 (0, 0))
theorem PB.made (w : World) (n : Nat) (cap : Int) (ag : List Pc) (Ab : Option Addr) (cb : Nat) (Aa : Option Addr) (ca : Nat) : ∃ w2, PB w w2 n cap ag Ab cb Aa ca := by
  refine ⟨_, rfl, ((Mod.refl _ _).alloc _).alloc _, (At.new _ _).alloc _, ?_⟩
  have := At.new (w.alloc (.cells #[.int .i64 cap, .slice Ab n cb, .slice Aa ag.length ca] 47)) (.cells #[.int .i64 0, .slice none 0 0, .slice none 0 0] 47)
  simpa using this
theorem res_store {w w3 : World} {R : Nat} {cap : Int} {bays : List (List Pc)} {ag : List Pc} {v u0 u1 u2 : Value} (m : Mod (fun _ => False) w w3) (hR : w.heap.size ≤ R) {cs : Array Value} (ha : At w3 R (.cells cs 47 (0, 0))) (h : RefAt w3 v cap bays ag) :
    RefAt (((w3.setCell ⟨R, 0, none⟩ u0).setCell ⟨R, 1, none⟩ u1).setCell ⟨R, 2, none⟩ u2) v cap bays ag ∧ Mod (fun _ => False) w (((w3.setCell ⟨R, 0, none⟩ u0).setCell ⟨R, 1, none⟩ u1).setCell ⟨R, 2, none⟩ u2) := by
  have ms : Mod (fun k => k = R) w3 (((w3.setCell ⟨R, 0, none⟩ u0).setCell ⟨R, 1, none⟩ u1).setCell ⟨R, 2, none⟩ u2) := (((Mod.refl _ _).here _ _).here _ _).here _ _
  exact ⟨h.own ha ms, m.none_of ms hR⟩

set_option maxHeartbeats 3200000 in
theorem rput_no {v : Value} {cap puts : Int} {bays : List (List Pc)} {ag : List Pc} (b : Int) (it : ByteArray) (w : World) (h : RefAt w v cap bays ag) (hf : Fits cap puts bays) (hne : (putF cap puts bays b it).1 ≠ 0) :
    Calls Try.prog 20 #[v, .int .i64 b, .string it] w fun e w' => ∃ v', e = .returned (.tuple #[v', .int .i64 (putF cap puts bays b it).1]) ∧ RefAt w' v' cap bays ag ∧ Mod (fun _ => False) w w' := by
  have HR := hid h
  obtain ⟨Ab, cb, Aa, ca, rfl, _, _⟩ := h.parts
  have HF := hid hf
  have hn := hf.n2
  obtain ⟨w2, hP⟩ := PB.made w bays.length cap ag Ab cb Aa ca
  have HP := hid hP
  have HR2 := hid (HR.out.mod0 hP.m)
  obtain ⟨s0, s1, s2⟩ := At.three hP.S
  obtain ⟨r0, r1, r2⟩ := At.three hP.R
  have rf0 := hP.R.free 0
  have rf1 := hP.R.free 1
  have rf2 := hP.R.free 2
  have hle : w.heap.size ≤ w.heap.size + 1 := Nat.le_succ _
  clear h hf hP
  unfold putF at hne ⊢
  split at hne
  · rename_i hb
    rw [if_pos hb]
    have hb' : b < 0 ∨ (0 ≤ b ∧ (bays.length : Int) ≤ b) := by omega
    clear hne hb
    rcases hb' with hb | ⟨hb0, hb⟩
    · go_enter Try.func20, Try.ntmps20
      go_upto_region 1 with fail
      rw [← HP.out.eq]
      go_wp2_with fail
      obtain ⟨k1, k2⟩ := res_store (u0 := .int .i64 cap) (u1 := .slice Ab bays.length cb) (u2 := .slice Aa ag.length ca) HP.out.m hle HP.out.R HR2.out
      exact bodyPost_ret (v := .tuple #[.agg #[.int .i64 cap, .slice Ab bays.length cb, .slice Aa ag.length ca], .int .i64 9]) (by simp [results, Try.results20, go_sem, r0, r1, r2]) rfl ⟨_, rfl, k1, k2⟩
    · have hb1 : ¬ b < 0 := by omega
      go_enter Try.func20, Try.ntmps20
      go_upto_region 1 with fail
      rw [← HP.out.eq]
      go_wp2_with fail
      obtain ⟨k1, k2⟩ := res_store (u0 := .int .i64 cap) (u1 := .slice Ab bays.length cb) (u2 := .slice Aa ag.length ca) HP.out.m hle HP.out.R HR2.out
      exact bodyPost_ret (v := .tuple #[.agg #[.int .i64 cap, .slice Ab bays.length cb, .slice Aa ag.length ca], .int .i64 9]) (by simp [results, Try.results20, go_sem, r0, r1, r2]) rfl ⟨_, rfl, k1, k2⟩
  · rename_i hb
    rw [if_neg hb]
    obtain ⟨k, rfl⟩ := Int.eq_ofNat_of_zero_le (show 0 ≤ b by omega)
    have hk0 : ¬ (k : Int) < 0 := by omega
    have hk1 : ¬ (bays.length : Int) ≤ k := by omega
    have hk2 : (k : Int) < bays.length := by omega
    have hkn : k < bays.length := by omega
    rw [Int.toNat_natCast] at hne ⊢
    split at hne
    · rename_i hi
      rw [if_pos hi]
      have q1 : it.toList.isEmpty = true := by rw [hi]; rfl
      clear hne hb hi
      go_enter Try.func20, Try.ntmps20
      go_upto_region 1 with fail
      rw [← HP.out.eq]
      go_wp2_with fail
      obtain ⟨k1, k2⟩ := res_store (u0 := .int .i64 cap) (u1 := .slice Ab bays.length cb) (u2 := .slice Aa ag.length ca) HP.out.m hle HP.out.R HR2.out
      exact bodyPost_ret (v := .tuple #[.agg #[.int .i64 cap, .slice Ab bays.length cb, .slice Aa ag.length ca], .int .i64 6]) (by simp [results, Try.results20, go_sem, r0, r1, r2]) rfl ⟨_, rfl, k1, k2⟩
    · rename_i hi
      rw [if_neg hi]
      have q1 : it.toList.isEmpty = false := by simpa using hi
      split at hne
      · rename_i hx
        rw [if_pos hx]
        have Hx := hid hx
        clear hne hb hi hx
        go_enter Try.func20, Try.ntmps20
        go_upto_region 1 with fail
        rw [← HP.out.eq]
        go_wp2_with fail
        refine (rfind_c it w2 HR2.out hn HF.out.len32).mono ?_
        rw [Hx.out]
        rintro e w3 ⟨rfl, m3⟩
        obtain ⟨a0, a1, a2⟩ := At.three (HP.out.S.mod m3 id)
        have hR3 := HP.out.R.mod m3 id
        obtain ⟨b0, b1, b2⟩ := At.three hR3
        have bf0 := hR3.free 0
        have bf1 := hR3.free 1
        have bf2 := hR3.free 2
        clear s0 s1 s2 r0 r1 r2 rf0 rf1 rf2
        go_wp2_with fail
        obtain ⟨k1, k2⟩ := res_store (u0 := .int .i64 cap) (u1 := .slice Ab bays.length cb) (u2 := .slice Aa ag.length ca) (HP.out.m.trans m3) hle hR3 (HR2.out.mod0 m3)
        exact bodyPost_ret (v := .tuple #[.agg #[.int .i64 cap, .slice Ab bays.length cb, .slice Aa ag.length ca], .int .i64 7]) (by simp [results, Try.results20, go_sem, b0, b1, b2]) rfl ⟨_, rfl, k1, k2⟩
      · rename_i hx
        rw [if_neg hx]
        have Hx : Hid ((find bays it).2.2 = false) := by show _ = _; simpa using hx
        split at hne
        · rename_i hc
          rw [if_pos hc]
          have Hkn := hid hkn
          clear hne hb hi hx
          go_enter Try.func20, Try.ntmps20
          go_upto_region 1 with fail
          rw [← HP.out.eq]
          go_wp2_with fail
          refine (rfind_c it w2 HR2.out hn HF.out.len32).mono ?_
          rw [Hx.out]
          rintro e w3 ⟨rfl, m3⟩
          obtain ⟨a0, a1, a2⟩ := At.three (HP.out.S.mod m3 id)
          have hR3 := HP.out.R.mod m3 id
          obtain ⟨b0, b1, b2⟩ := At.three hR3
          have bf0 := hR3.free 0
          have bf1 := hR3.free 1
          have bf2 := hR3.free 2
          have HR3 := hid (HR2.out.mod0 m3)
          obtain ⟨Ab', cb', Aa', ca', hv, hB3, _⟩ := HR3.out.parts
          injection hv with hv
          injection hv with hv
          simp only [List.cons.injEq, Value.slice.injEq, and_true, true_and] at hv
          obtain ⟨⟨rfl, rfl⟩, rfl, rfl⟩ := hv
          obtain ⟨g, x, rfl, hxc, hrow⟩ := hB3.at_ k Hkn.out
          obtain ⟨A1, c1, rfl⟩ := hrow.val
          have hl32 := HF.out.len32 k Hkn.out
          have hsl := (HP.out.S.mod m3 id).lt
          have M3 := hid (HP.out.m.trans m3)
          have HR3' := hid hR3
          have HS3 := hid (HP.out.S.mod m3 id)
          have hd : ∃ L, L = (bays.getD k []).length := ⟨_, rfl⟩
          generalize (bays.getD k []).length = L at hxc hl32 hc
          clear s0 s1 s2 r0 r1 r2 rf0 rf1 rf2 hB3 hrow hd m3 hR3
          go_wp2_with fail
          go_quiet (fail)
          obtain ⟨w4, hw4⟩ : ∃ w4 : World, w4 = w3.drewN nq := ⟨_, rfl⟩
          rw [← hw4]
          have m4 : Mod (fun _ => False) w3 w4 := by rw [hw4]; exact (Mod.refl _ _).drewN _
          obtain ⟨a0, a1, a2⟩ := At.three (HS3.out.mod m4 id)
          have hR4 := HR3'.out.mod m4 id
          obtain ⟨b0, b1, b2⟩ := At.three hR4
          have bf0 := hR4.free 0
          have bf1 := hR4.free 1
          have bf2 := hR4.free 2
          clear hw4 hxc
          go_wp2_with fail
          obtain ⟨k1, k2⟩ := res_store (u0 := .int .i64 cap) (u1 := .slice (some ⟨g, 0, none⟩) bays.length cb) (u2 := .slice Aa ag.length ca) (M3.out.trans m4) hle hR4 (HR3.out.mod0 m4)
          exact bodyPost_ret (v := .tuple #[.agg #[.int .i64 cap, .slice (some ⟨g, 0, none⟩) bays.length cb, .slice Aa ag.length ca], .int .i64 12]) (by simp [results, Try.results20, go_sem, b0, b1, b2]) rfl ⟨_, rfl, k1, k2⟩
        · exact absurd rfl hne
end Go.Proofs.Ytknijmhhlfooaaa
