/- The specification's Put: its contract. -/
import Derived.Test.YtdipncjbobhbjaaRef5
import Derived.Deep.RegionLawGrows
namespace Go.Proofs.Ytdipncjbobhbjaa
open Go.RowKit Go.Maps
set_option linter.unusedVariables false
set_option linter.unusedSimpArgs false

theorem strs_one (l : List ByteArray) : ∀ u ∈ (l.map Value.string), u.oneCell' = true := by
  intro u hu
  obtain ⟨x, _, rfl⟩ := List.mem_map.1 hu
  rfl
theorem info9' : ∃ i, Try.prog.info? 9 = some i ∧ i.zero = some (.string ByteArray.empty) ∧ i.size = 1 ∧ i.bytes = 16 := by
  obtain ⟨i0, h0, h1, h2, h3⟩ := info_parts info9
  exact ⟨i0, h0, h1, h2, h3⟩
/-- A row of strings is copied behind an empty one. -/
theorem step_copy {ops : Array Oper} {o : Oper} {a : Act} {w W : World} {K : Act → World → Prop} {Q : Exit → Act → World → Prop} {E : Prop} (m : Mod (fun _ => False) w W)
    (hgd : o.guard = none) (s x : Operand) (ho : o.op = .call { callee := .builtin .append, args := #[s, x], argTypes := #[38, 38] })
    (A : Option Addr) (c : Nat) (l : List ByteArray) (hl : 0 < l.length) (hl2 : l.length ≤ 32) (hrow : w.ownsRow 0 9 1 (.slice A l.length c) l.length (l.map .string)) (b : Addr) (hs : a.eval s = .slice (some b) 0 0) (hx : a.eval x = .slice A l.length c)
    (hK : ∀ g c' w', Hid (w'.ownsRow w.heap.size 9 1 (.slice (some ⟨g, 0, none⟩) l.length c') l.length (l.map .string)) → Hid (Mod (fun _ => False) w w') → Hid (Mod (fun _ => False) W w') → K (a.put o.dst (.slice (some ⟨g, 0, none⟩) l.length c')) w') :
    if Region.wanted o (yielded ops a.tmps) = true then Oper.wp Try.prog o a W K Q else E := by
  obtain ⟨i0, hi0, hz0, hz1, hz2⟩ := info9'
  obtain ⟨g, cap, hv, _, hg⟩ := hrow.form (by omega)
  have hA : A = some ⟨g, 0, none⟩ := by injection hv
  subst hA
  refine step_append_grows hgd s x 38 ho 9 i0 (.string ByteArray.empty) 1 16 Try.underlying38 hi0 hz0 hz1 hz2 rfl (by decide) (some b) 0 0 [] hs (fun h => by cases h) rfl (fun _ _ j u h => by simp at h) ⟨g, 0, none⟩ l.length c (l.map .string) hx (by simp) ?_ (strs_one l) (by omega) (by unfold maxLen; omega) (by omega) ?_
  · intro j u hj
    have := hrow.cells (g := g) rfl j u hj
    rw [add_plain] at this ⊢
    exact m.keep0 this
  · intro v' w' hown hgr
    rw [Nat.zero_add, List.nil_append] at hown
    obtain ⟨g', c', hv', _, _⟩ := hown.form (by omega)
    subst hv'
    have mg : Mod (fun _ => False) W w' := ⟨hgr.os, hgr.tape, hgr.output, hgr.size, fun k hk _ => hgr.block k hk (by simp)⟩
    exact hK g' c' w' (own_weaken hown m.size) (m.trans mg) mg
/-- Nothing is copied behind an empty row. -/
theorem step_copy0 {ops : Array Oper} {o : Oper} {a : Act} {W : World} {K : Act → World → Prop} {Q : Exit → Act → World → Prop} {E : Prop}
    (hgd : o.guard = none) (s x : Operand) (ho : o.op = .call { callee := .builtin .append, args := #[s, x], argTypes := #[38, 38] })
    (b : Addr) (hs : a.eval s = .slice (some b) 0 0) (hx : a.eval x = .slice none 0 0) (hK : K (a.put o.dst (.slice (some b) 0 0)) W) :
    if Region.wanted o (yielded ops a.tmps) = true then Oper.wp Try.prog o a W K Q else E := by
  obtain ⟨i0, hi0, hz0, hz1, hz2⟩ := info9'
  have hw : Region.wanted o (yielded ops a.tmps) = true := by simp [Region.wanted, hgd]
  rw [if_pos hw]
  have hrun : (Builtin.append_ #[38, 38] o.type #[.slice (some b) 0 0, .slice none 0 0]).run Try.prog W = .ok (.slice (some b) 0 0) W := by
    simp [Builtin.append_, run_underlying Try.underlying38, sizeOf, typeInfo, hi0, Builtin.lenOf, Builtin.firstCells, storeCells]
  unfold Oper.wp
  simp [execOp, ho, resolve, invoke, builtin, hs, hx, hrun, Result.andThen]
  exact hK
/-- One string is added to a fresh row. -/
theorem step_add {ops : Array Oper} {o : Oper} {a : Act} {w W : World} {K : Act → World → Prop} {Q : Exit → Act → World → Prop} {E : Prop} (m : Mod (fun _ => False) w W)
    (hgd : o.guard = none) (s x : Operand) (ho : o.op = .call { callee := .builtin .append, args := #[s, x], argTypes := #[38, 38] })
    (v : Value) (l : List ByteArray) (hl2 : l.length ≤ 32) (hrow : W.ownsRow w.heap.size 9 1 v l.length (l.map .string)) (it : ByteArray) (bI : Nat) (hI : At W bI (.cells #[.string it] 9 (0, 0))) (hs : a.eval s = v) (hx : a.eval x = .slice (some ⟨bI, 0, none⟩) 1 1)
    (hK : ∀ g c' w', Hid (w'.ownsRow w.heap.size 9 1 (.slice (some ⟨g, 0, none⟩) (l.length + 1) c') (l.length + 1) ((l ++ [it]).map .string)) → Hid (Mod (fun _ => False) w w') → K (a.put o.dst (.slice (some ⟨g, 0, none⟩) (l.length + 1) c')) w') :
    if Region.wanted o (yielded ops a.tmps) = true then Oper.wp Try.prog o a W K Q else E := by
  obtain ⟨i0, hi0, hz0, hz1, hz2⟩ := info9'
  refine step_append_lies W hgd s x 38 ho w.heap.size 9 i0 (.string ByteArray.empty) 1 16 Try.underlying38 hi0 hz0 hz1 hz2 rfl (by decide) v l.length (l.map .string) hs hrow ⟨bI, 0, none⟩ 1 1 [.string it] hx rfl ?_ (fun u hu => by simp at hu; subst hu; rfl) (by omega) (by unfold maxLen; omega) (by omega) m.size _ rfl ?_
  · intro j u hj
    rw [add_plain, hI.cell]
    simpa using hj
  · intro g c' w' hown hgr _ _
    have e : (l.map Value.string) ++ [.string it] = (l ++ [it]).map .string := by simp
    rw [e] at hown
    exact hK g c' w' hown (grown_fresh m hrow hgr)

theorem step_add0 {ops : Array Oper} {o : Oper} {a : Act} {w W : World} {K : Act → World → Prop} {Q : Exit → Act → World → Prop} {E : Prop} (m : Mod (fun _ => False) w W)
    (hgd : o.guard = none) (s x : Operand) (ho : o.op = .call { callee := .builtin .append, args := #[s, x], argTypes := #[38, 38] })
    (v : Value) (hrow : W.ownsRow w.heap.size 9 1 v 0 []) (it : ByteArray) (bI : Nat) (hI : At W bI (.cells #[.string it] 9 (0, 0))) (hs : a.eval s = v) (hx : a.eval x = .slice (some ⟨bI, 0, none⟩) 1 1)
    (hK : ∀ g c' w', Hid (w'.ownsRow w.heap.size 9 1 (.slice (some ⟨g, 0, none⟩) 1 c') 1 ([it].map .string)) → Hid (Mod (fun _ => False) w w') → K (a.put o.dst (.slice (some ⟨g, 0, none⟩) 1 c')) w') :
    if Region.wanted o (yielded ops a.tmps) = true then Oper.wp Try.prog o a W K Q else E :=
  step_add m hgd s x ho v [] (by simp) hrow it bI hI hs hx hK
theorem own_zero1 (w : World) (o : Obj) (e : TypeId) (size : Nat) : ((w.alloc o).alloc (.cells #[] e)).ownsRow w.heap.size e size (.slice (some ⟨w.heap.size + 1, 0, none⟩) 0 0) 0 [] := by
  have := own_weaken (own_zero (w.alloc o) e size) (base' := w.heap.size) (by simp)
  simpa using this
theorem At.new1 (w : World) (o o' : Obj) : At ((w.alloc o).alloc o') (w.heap.size + 1) o' := by
  have := At.new (w.alloc o) o'
  simpa using this
theorem fresh_row {w5 w8 : World} {g c : Nat} {l : List ByteArray} {it : ByteArray} (h : Hid (w8.ownsRow w5.heap.size 9 1 (.slice (some ⟨g, 0, none⟩) (l.length + 1) c) (l.length + 1) ((l ++ [it]).map .string))) :
    w8.ownsRow 0 9 1 (.slice (some ⟨g, 0, none⟩) (l.length + 1) c) (l ++ [it]).length ((l ++ [it]).map .string) := by
  rw [List.length_append]
  exact own_weaken0 h.out
theorem fresh_N {N : Nat → Prop} {w w5 w8 : World} {g n c : Nat} {xs : List Value} (h : Hid (w8.ownsRow w5.heap.size 9 1 (.slice (some ⟨g, 0, none⟩) n c) n xs)) (hw : w.heap.size ≤ w5.heap.size) : ∀ q, (Value.slice (some ⟨g, 0, none⟩) n c).ownBlock = some q → NewN N w q := fun q hq =>
  .inr (Nat.le_trans hw (own_base h.out hq))
theorem snoc_ne {l : List ByteArray} {it : ByteArray} {x : Value} : l ++ [it] = [] → x = .slice none 0 0 := fun h => by simp at h

set_option maxHeartbeats 6400000 in
theorem rput_any {N : Nat → Prop} {v : Value} {cap : Int} {bins : List Bin} (key it : ByteArray) (w : World) (h : RefN N w v cap bins) (hf : Fits cap bins) :
    Calls Try.prog 18 #[v, .string key, .string it] w fun e w' => ∃ v', e = .returned (.tuple #[v', .int .i64 (putR cap bins key it).2.1, .int .i64 (putR cap bins key it).2.2]) ∧
      RefN (NewN N w) w' v' cap (putR cap bins key it).1 ∧ Mod (fun _ => False) w w' := by
  obtain ⟨A, c, rfl⟩ := h.val
  have hn16 := hf.n2
  have hlen := hf.len32
  have Hlen := hid hlen
  have HF := hid hf
  clear hf hlen
  have H := hid h
  clear h
  obtain ⟨w2, hw2⟩ : ∃ w2 : World, w2 = (w.alloc (.cells #[.int .i64 cap, .slice A bins.length c] 45)).alloc (.cells #[.int .i64 0, .slice none 0 0] 45) := ⟨_, rfl⟩
  have m2 : Mod (fun _ => False) w w2 := by rw [hw2]; exact ((Mod.refl _ _).alloc _).alloc _
  have hS2 : At w2 w.heap.size (.cells #[.int .i64 cap, .slice A bins.length c] 45 (0, 0)) := by rw [hw2]; exact (At.new _ _).alloc _
  have hR2 : At w2 (w.heap.size + 1) (.cells #[.int .i64 0, .slice none 0 0] 45 (0, 0)) := by
    rw [hw2]
    have := At.new (w.alloc (.cells #[.int .i64 cap, .slice A bins.length c] 45)) (.cells #[.int .i64 0, .slice none 0 0] 45)
    simpa using this
  have hsz2 : w2.heap.size = w.heap.size + 2 := by rw [hw2]; simp
  have Hsz2 := hid hsz2
  have M2 := hid m2
  have H2 := hid (H.out.mod0 m2)
  have HR2 := hid hR2
  have HS2 := hid hS2
  have Hw2 := hid hw2
  obtain ⟨s0, s1⟩ := At.two hS2
  obtain ⟨r0, r1⟩ := At.two hR2
  have rf0 := hR2.free 0
  have rf1 := hR2.free 1
  clear hw2 m2 hS2 hR2 hsz2
  by_cases hn : key.size = 0 ∨ it.size = 0
  · have e : putR cap bins key it = (bins, 0, 6) := by rw [putR, if_pos hn]
    rw [e]
    clear e
    by_cases hk : key.size = 0
    · have q1 : key.toList.isEmpty = true := by rw [size0.2 hk]; rfl
      clear hk hn
      go_enter Try.func18, Try.ntmps18
      go_upto_region 1 with fail
      rw [← Hw2.out]
      go_wp2_with fail
      refine bodyPost_ret (v := .tuple #[.agg #[.int .i64 cap, .slice A bins.length c], .int .i64 0, .int .i64 6]) (by simp [results, Try.results18, go_sem, r0, r1]) rfl ⟨_, rfl, (H2.out.mono (fun g _ q => .inl q)).res HR2.out _ _, put_res M2.out (by omega) _ _⟩
    · have q1 : it.toList.isEmpty = true := by rw [size0.2 (hn.resolve_left hk)]; rfl
      have q0 : key.toList.isEmpty = false := by
        rw [Bool.eq_false_iff]
        exact fun q => hk (size0.1 (List.isEmpty_iff.1 q))
      clear hk hn
      go_enter Try.func18, Try.ntmps18
      go_upto_region 1 with fail
      rw [← Hw2.out]
      go_wp2_with fail
      refine bodyPost_ret (v := .tuple #[.agg #[.int .i64 cap, .slice A bins.length c], .int .i64 0, .int .i64 6]) (by simp [results, Try.results18, go_sem, r0, r1]) rfl ⟨_, rfl, (H2.out.mono (fun g _ q => .inl q)).res HR2.out _ _, put_res M2.out (by omega) _ _⟩
  · have q0 : key.toList.isEmpty = false := by
      rw [Bool.eq_false_iff]
      exact fun q => hn (.inl (size0.1 (List.isEmpty_iff.1 q)))
    have q1 : it.toList.isEmpty = false := by
      rw [Bool.eq_false_iff]
      exact fun q => hn (.inr (size0.1 (List.isEmpty_iff.1 q)))
    have Hn := hid hn
    clear hn
    cases hx : thereF bins it bins.length
    rotate_left
    · have hb : hasB bins it = true := hasB_iff.2 (by obtain ⟨j, h1, h2⟩ := (thereF_of _).1 hx; exact ⟨j, h1, h2⟩)
      have e : putR cap bins key it = (bins, 0, 7) := by rw [putR, if_neg Hn.out, if_pos hb]
      rw [e]
      have Hx := hid hx
      clear e hb hx
      go_enter Try.func18, Try.ntmps18
      go_upto_region 1 with fail
      rw [← Hw2.out]
      go_wp2_with fail
      refine (has_c it w2 H2.out HF.out).mono ?_
      rw [Hx.out]
      rintro e w3 ⟨rfl, m3⟩
      obtain ⟨a0, a1⟩ := At.two (HS2.out.mod m3 id)
      have hR3 := HR2.out.mod m3 id
      obtain ⟨b0, b1⟩ := At.two hR3
      have bf0 := hR3.free 0
      have bf1 := hR3.free 1
      clear s0 s1 r0 r1 rf0 rf1
      go_wp2_with fail
      refine bodyPost_ret (v := .tuple #[.agg #[.int .i64 cap, .slice A bins.length c], .int .i64 0, .int .i64 7]) (by simp [results, Try.results18, go_sem, b0, b1]) rfl ⟨_, rfl, ((H2.out.mod0 m3).mono (fun g _ q => .inl q)).res hR3 _ _, put_res (M2.out.trans m3) (by omega) _ _⟩
    · have hb : ¬ hasB bins it = true := fun q => by
        obtain ⟨j, h1, h2⟩ := hasB_iff.1 q
        rw [(thereF_of _).2 ⟨j, h1, h2⟩] at hx
        cases hx
      have Hx := hid hx
      clear hx
      by_cases ht : toOf cap bins key < 0
      · have e : putR cap bins key it = (bins, 0, 12) := by rw [putR, if_neg Hn.out, if_neg hb, if_pos ht]
        rw [e]
        clear e hb
        generalize hto : toOf cap bins key = T at ht
        have Hto := hid hto
        clear hto
        go_enter Try.func18, Try.ntmps18
        go_upto_region 1 with fail
        rw [← Hw2.out]
        go_wp2_with fail
        refine (has_c it w2 H2.out HF.out).mono ?_
        rw [Hx.out]
        rintro e w3 ⟨rfl, m3⟩
        have H3 := hid (H2.out.mod0 m3)
        obtain ⟨a0, a1⟩ := At.two (HS2.out.mod m3 id)
        clear s0 s1 r0 r1 rf0 rf1
        go_wp2_with fail
        refine (bin_c key w3 H3.out HF.out).mono ?_
        rw [Hto.out]
        rintro e w4 ⟨rfl, m4⟩
        obtain ⟨c0, c1⟩ := At.two ((HS2.out.mod m3 id).mod m4 id)
        have hR4 := (HR2.out.mod m3 id).mod m4 id
        obtain ⟨b0, b1⟩ := At.two hR4
        have bf0 := hR4.free 0
        have bf1 := hR4.free 1
        clear a0 a1
        go_wp2_with fail
        refine bodyPost_ret (v := .tuple #[.agg #[.int .i64 cap, .slice A bins.length c], .int .i64 0, .int .i64 12]) (by simp [results, Try.results18, go_sem, b0, b1]) rfl ⟨_, rfl, ((H3.out.mod0 m4).mono (fun g _ q => .inl q)).res hR4 _ _, put_res ((M2.out.trans m3).trans m4) (by omega) _ _⟩
      · have e : putR cap bins key it = (bins.set (toOf cap bins key).toNat (key, bi bins (toOf cap bins key).toNat ++ [it]), toOf cap bins key, 0) := by rw [putR, if_neg Hn.out, if_neg hb, if_neg ht]
        rw [e]
        have hlt := toOf_lt cap bins key
        clear e hb
        obtain ⟨k, hk⟩ := Int.eq_ofNat_of_zero_le (show 0 ≤ toOf cap bins key by omega)
        rw [hk] at hlt ⊢
        rw [Int.toNat_natCast]
        have Hk := hid hk
        have hkb : k < bins.length := by omega
        have hk0 : ¬ (k : Int) < 0 := by omega
        clear hk ht
        have hl32 := Hlen.out k hkb
        obtain ⟨g, A', cc, rfl, hg, _, hp1, hrow⟩ := H.out.row hkb
        have hHz : bi bins k = [] → (Value.slice A' (bi bins k).length cc) = .slice none 0 0 := by
          intro q
          obtain ⟨A9, c9, xs9, hv9, ho9, _, hh9⟩ := H.out
          injection hv9 with hv9
          injection hv9 with hv9
          simp only [List.cons.injEq, Value.slice.injEq, and_true, true_and] at hv9
          obtain ⟨rfl, rfl⟩ := hv9
          obtain ⟨x9, _, e9, _, _, z9⟩ := hh9 k hkb
          have hc9 := ho9.cells (g := g) rfl _ _ e9
          rw [add_plain, hp1] at hc9
          rw [Option.some.inj hc9]
          exact z9 q
        generalize hL : bi bins k = l at hrow hp1 hl32 hHz ⊢
        have HL := hid hL
        have Hrow := hid hrow
        have Hz := hid hHz
        have hp2 := M2.out.keep0 hp1
        clear hL hrow hHz hp1
        go_enter Try.func18, Try.ntmps18
        go_upto_region 1 with fail
        rw [← Hw2.out]
        go_wp2_with fail
        refine (has_c it w2 H2.out HF.out).mono ?_
        rw [Hx.out]
        rintro e w3 ⟨rfl, m3⟩
        have H3 := hid (H2.out.mod0 m3)
        obtain ⟨a0, a1⟩ := At.two (HS2.out.mod m3 id)
        clear s0 s1 r0 r1 rf0 rf1
        go_wp2_with fail
        refine (bin_c key w3 H3.out HF.out).mono ?_
        rw [Hk.out]
        rintro e w5 ⟨rfl, m5⟩
        have M5 := hid ((M2.out.trans m3).trans m5)
        have HS5 := hid ((HS2.out.mod m3 id).mod m5 id)
        have HR5 := hid ((HR2.out.mod m3 id).mod m5 id)
        have hp5 := m5.keep0 (m3.keep0 hp2)
        obtain ⟨c0, c1⟩ := At.two HS5.out
        have hgs : g < w.heap.size := hg
        have hs5 : w.heap.size + 2 ≤ w5.heap.size := by have := M5.out.size; have := m3.size; have := m5.size; have := Hsz2.out; omega
        have hSl := HS5.out.lt
        clear a0 a1 hp2
        go_upto_region 8 with fail
        have md : Mod (fun _ => False) w5 w5.drew := (Mod.refl _ _).drew
        have Hrow5 := hid (own_mod0 Hrow.out (M5.out.trans md))
        have H5 := hid (((H.out.mono (fun q _ hq => (Or.inl hq : NewN N w q))).mod0 (M5.out.trans md)))
        have HSd := hid (HS5.out.mod md id)
        have HRd := hid (HR5.out.mod md id)
        have hpd : w5.drew.cell? ⟨g, k * 2 + 1, none⟩ = some (.slice A' l.length cc) := md.keep0 hp5
        have Hpd := hid hpd
        have hws : w.heap.size ≤ w5.drew.heap.size := by show w.heap.size ≤ w5.heap.size; omega
        have Hws := hid hws
        have Md := hid (M5.out.trans md)
        have nb1 : w.heap.size ≠ w.heap.size + 1 := by omega
        have nb2 : g ≠ w.heap.size + 1 := by omega
        have nb2b : w.heap.size + 1 ≠ g := by omega
        have nb3 : w5.heap.size ≠ w.heap.size := by omega
        have nb4 : w5.heap.size ≠ g := by omega
        have nb5 : g < w5.heap.size := by omega
        have nb6 : g < w5.heap.size + 1 := by omega
        have nb7 : w.heap.size < w5.heap.size + 1 := by omega
        clear hpd hws md
        by_cases hl0 : l = []
        · subst hl0
          have hxz := Hz.out rfl
          injection hxz with hA' _ hcc
          subst hA'
          subst hcc
          simp only [List.length_nil] at hp5 Hpd
          go_region_held3 (fun w' => w'.cell? ⟨w.heap.size, 0, none⟩ = some (.int .i64 cap) ∧ w'.cell? ⟨w.heap.size, 1, none⟩ = some (.slice (some ⟨g, 0, none⟩) bins.length c) ∧ w'.cell? ⟨g, k * 2 + 1, none⟩ = some (.slice none 0 0)) (go_keep) (first
            | (refine step_copy0 rfl (.tmp 30) (.tmp 36) rfl ⟨w5.heap.size, 0, none⟩ ?_ ?_ ?_; simp [Act.eval, Act.put]; simp [Act.eval, Act.put])
            | (refine step_copy0 rfl (.tmp 30) (.tmp 36) rfl ⟨w5.heap.size + 1, 0, none⟩ ?_ ?_ ?_; simp [Act.eval, Act.put]; simp [Act.eval, Act.put])
            | (refine step_add0 (w := w5.drew) (((Mod.refl _ _).alloc _).alloc _) rfl (.tmp 37) (.tmp 39) rfl (.slice (some ⟨w5.heap.size, 0, none⟩) 0 0) (World.ownsRow.alloc (own_zero w5.drew 9 1) _) it (w5.heap.size + 1) (At.new1 _ _ _) ?_ ?_ ?_; simp [Act.eval, Act.put]; simp [Act.eval, Act.put]; intro g8 c8 w8 hr8 m8; have q8 := At.two (At.mod HSd.out m8.out id); obtain ⟨q8a, q8b⟩ := q8; have q8c := Mod.keep0 m8.out Hpd.out)
            | (refine step_add0 (w := w5.drew) (((Mod.refl _ _).alloc _).alloc _) rfl (.tmp 37) (.tmp 39) rfl (.slice (some ⟨w5.heap.size + 1, 0, none⟩) 0 0) (own_zero1 w5.drew _ 9 1) it w5.heap.size (At.alloc (At.new w5.drew _) _) ?_ ?_ ?_; simp [Act.eval, Act.put]; simp [Act.eval, Act.put]; intro g8 c8 w8 hr8 m8; have q8 := At.two (At.mod HSd.out m8.out id); obtain ⟨q8a, q8b⟩ := q8; have q8c := Mod.keep0 m8.out Hpd.out)
            | (go_at_call 26; refine (with_c k key (([] : List ByteArray) ++ [it]) (.slice (some ⟨g8, 0, none⟩) 1 c8) _ (RefN.mod0 H5.out m8.out) hkb hn16 (fresh_row (l := []) hr8) (fresh_N hr8 Hws.out) snoc_ne).mono ?_; rintro e w9 ⟨v9, rfl, h9, m9⟩; obtain ⟨A9, c9, rfl⟩ := RefN.val h9; have m89 := Mod.trans m8.out m9; have q9 := At.two (At.mod HSd.out m89 id); obtain ⟨q9a, q9b⟩ := q9; have q9c := Mod.keep0 m89 Hpd.out; have hR9 := At.mod HRd.out m89 id; have hR9' := At.two hR9; obtain ⟨y0, y1⟩ := hR9'; have z0 := At.free hR9 0; have z1 := At.free hR9 1; have H9 := hid h9; have M9 := hid m9))
          all_goals
            go_wp2_with fail
            have H9' := H9.out
            simp only [List.length_set] at H9'
            refine bodyPost_ret (v := .tuple #[.agg #[.int .i64 cap, .slice A9 bins.length c9], .int .i64 (k : Int), .int .i64 0]) (by simp [results, Try.results18, go_sem, y0, y1]) rfl ⟨_, rfl, ?_, put_res ((Md.out.trans m8.out).trans M9.out) (by omega) _ _⟩
            refine (H9'.mono (fun q _ hq => ?_)).res hR9 _ _
            rcases hq with hq | hq
            · exact hq
            · exact .inr (Nat.le_trans (Md.out.trans m8.out).size hq)
        · have hpos : 0 < l.length := List.length_pos_iff.2 hl0
          clear hl0
          go_region_held3 (fun w' => w'.cell? ⟨w.heap.size, 0, none⟩ = some (.int .i64 cap) ∧ w'.cell? ⟨w.heap.size, 1, none⟩ = some (.slice (some ⟨g, 0, none⟩) bins.length c) ∧ w'.cell? ⟨g, k * 2 + 1, none⟩ = some (.slice A' l.length cc)) (go_keep) (first
            | (refine step_copy (w := w5.drew) ((Mod.refl _ _).alloc _) rfl (.tmp 30) (.tmp 36) rfl A' cc l hpos hl32 Hrow5.out ⟨w5.heap.size, 0, none⟩ (by simp [Act.eval, Act.put]) (by simp [Act.eval, Act.put]) ?_; intro g7 c7 w7 hr7 m7 mW7; have q7 := At.two (At.mod HSd.out m7.out id); obtain ⟨q7a, q7b⟩ := q7; have q7c := Mod.keep0 m7.out Hpd.out)
            | (refine step_copy (w := w5.drew) (((Mod.refl _ _).alloc _).alloc _) rfl (.tmp 30) (.tmp 36) rfl A' cc l hpos hl32 Hrow5.out ⟨w5.heap.size, 0, none⟩ (by simp [Act.eval, Act.put]) (by simp [Act.eval, Act.put]) ?_; intro g7 c7 w7 hr7 m7 mW7; have q7 := At.two (At.mod HSd.out m7.out id); obtain ⟨q7a, q7b⟩ := q7; have q7c := Mod.keep0 m7.out Hpd.out; have hI7 := At.mod (At.new1 w5.drew (.cells #[] 9) (.cells #[.string it] 9)) mW7.out id)
            | (refine step_copy (w := w5.drew) (((Mod.refl _ _).alloc _).alloc _) rfl (.tmp 30) (.tmp 36) rfl A' cc l hpos hl32 Hrow5.out ⟨w5.heap.size + 1, 0, none⟩ (by simp [Act.eval, Act.put]) (by simp [Act.eval, Act.put]) ?_; intro g7 c7 w7 hr7 m7 mW7; have q7 := At.two (At.mod HSd.out m7.out id); obtain ⟨q7a, q7b⟩ := q7; have q7c := Mod.keep0 m7.out Hpd.out; have hI7 := At.mod (At.alloc (At.new w5.drew (.cells #[.string it] 9)) (.cells #[] 9)) mW7.out id)
            | (refine step_add (w := w5.drew) (Mod.alloc m7.out _) rfl (.tmp 37) (.tmp 39) rfl (.slice (some ⟨g7, 0, none⟩) l.length c7) l hl32 (World.ownsRow.alloc hr7.out _) it w7.heap.size (At.new _ _) (by simp [Act.eval, Act.put]) (by simp [Act.eval, Act.put]) ?_; intro g8 c8 w8 hr8 m8; have q8 := At.two (At.mod HSd.out m8.out id); obtain ⟨q8a, q8b⟩ := q8; have q8c := Mod.keep0 m8.out Hpd.out)
            | (refine step_add (w := w5.drew) m7.out rfl (.tmp 37) (.tmp 39) rfl (.slice (some ⟨g7, 0, none⟩) l.length c7) l hl32 hr7.out it _ hI7 (by simp [Act.eval, Act.put]) (by simp [Act.eval, Act.put]) ?_; intro g8 c8 w8 hr8 m8; have q8 := At.two (At.mod HSd.out m8.out id); obtain ⟨q8a, q8b⟩ := q8; have q8c := Mod.keep0 m8.out Hpd.out)
            | (go_at_call 26; refine (with_c k key (l ++ [it]) (.slice (some ⟨g8, 0, none⟩) (l.length + 1) c8) _ (RefN.mod0 H5.out m8.out) hkb hn16 (fresh_row hr8) (fresh_N hr8 Hws.out) snoc_ne).mono ?_; rintro e w9 ⟨v9, rfl, h9, m9⟩; obtain ⟨A9, c9, rfl⟩ := RefN.val h9; have m89 := Mod.trans m8.out m9; have q9 := At.two (At.mod HSd.out m89 id); obtain ⟨q9a, q9b⟩ := q9; have q9c := Mod.keep0 m89 Hpd.out; have hR9 := At.mod HRd.out m89 id; have hR9' := At.two hR9; obtain ⟨y0, y1⟩ := hR9'; have z0 := At.free hR9 0; have z1 := At.free hR9 1; have H9 := hid h9; have M9 := hid m9))
          all_goals
            go_wp2_with fail
            have H9' := H9.out
            simp only [List.length_set] at H9'
            refine bodyPost_ret (v := .tuple #[.agg #[.int .i64 cap, .slice A9 bins.length c9], .int .i64 (k : Int), .int .i64 0]) (by simp [results, Try.results18, go_sem, y0, y1]) rfl ⟨_, rfl, ?_, put_res ((Md.out.trans m8.out).trans M9.out) (by omega) _ _⟩
            refine (H9'.mono (fun q _ hq => ?_)).res hR9 _ _
            rcases hq with hq | hq
            · exact hq
            · exact .inr (Nat.le_trans (Md.out.trans m8.out).size hq)
end Go.Proofs.Ytdipncjbobhbjaa
