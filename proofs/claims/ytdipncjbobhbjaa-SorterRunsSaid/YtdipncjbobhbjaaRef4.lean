/- The specification's with: its contract. -/
import Derived.Test.YtdipncjbobhbjaaRef3
import Derived.Deep.DeepCutAuto
namespace Go.Proofs.Ytdipncjbobhbjaa
open Go.RowKit Go.Maps
set_option linter.unusedVariables false
set_option linter.unusedSimpArgs false

theorem Mod.none_of {R : Nat} {w a b : World} (h : Mod (fun _ => False) w a) (m : Mod (fun k => k = R) a b) (hR : w.heap.size ≤ R) : Mod (fun _ => False) w b := h.trans' m (fun i hi e => by omega)
theorem refn_one {w : World} {N : Nat → Prop} {bins : List Bin} {xs : List Value} (hl : xs.length = bins.length * 2)
    (h : ∀ i, i < bins.length → ∃ x, xs[i * 2]? = some (.string (bk bins i)) ∧ xs[i * 2 + 1]? = some x ∧ w.ownsRow 0 9 1 x (bi bins i).length ((bi bins i).map .string) ∧ (∀ g, x.ownBlock = some g → N g) ∧ (bi bins i = [] → x = .slice none 0 0)) : ∀ u ∈ xs, u.oneCell' = true := by
  intro u hu
  obtain ⟨j, hj, rfl⟩ := List.mem_iff_getElem.1 hu
  obtain ⟨x, a, b, d, _⟩ := h (j / 2) (by omega)
  have e : j = j / 2 * 2 ∨ j = j / 2 * 2 + 1 := by omega
  have hg : xs[j]? = some xs[j] := List.getElem?_eq_getElem hj
  rcases e with e | e
  · rw [← e, hg] at a
    rw [Option.some.inj a]
    rfl
  · rw [← e, hg] at b
    rw [Option.some.inj b]
    obtain ⟨A, c, rfl⟩ := own_val d
    rfl
theorem own_one {w : World} {base : Nat} {e : TypeId} {size n : Nat} {v : Value} {xs : List Value} (h : w.ownsRow base e size v n xs) : xs.length = n * size := h.1

set_option maxHeartbeats 1600000 in
theorem with_c {N : Nat → Prop} {v : Value} {cap : Int} {bins : List Bin} (i : Nat) (k : ByteArray) (l : List ByteArray) (x : Value) (w : World) (h : RefN N w v cap bins) (hi : i < bins.length) (hn : bins.length ≤ 16)
    (hx : w.ownsRow 0 9 1 x l.length (l.map .string)) (hxN : ∀ g, x.ownBlock = some g → N g) (hxz : l = [] → x = .slice none 0 0) :
    Calls Try.prog 26 #[v, .int .i64 (i : Int), .agg #[.string k, x]] w fun e w' => ∃ v', e = .returned v' ∧ RefN (fun g => N g ∨ w.heap.size ≤ g) w' v' cap (bins.set i (k, l)) ∧ Mod (fun _ => False) w w' := by
  obtain ⟨i0, hi0, hz0, hz1, hz2⟩ := info_parts info70
  obtain ⟨A, c, xs, rfl, ho, hoN, hr⟩ := h
  have Hone := hid (refn_one (own_one ho) hr)
  obtain ⟨Ax, cx, rfl⟩ := own_val hx
  obtain ⟨ga, capa, hva, _, hgal⟩ := ho.form (by omega)
  have hA : A = some ⟨ga, 0, none⟩ := by injection hva
  subst hA
  have Hx := hid hx
  have Ho := hid ho
  have Hr := hid hr
  have hlen := own_one ho
  have Hlen := hid hlen
  generalize hll : l.length = ll at hx Hx
  have HLl := hid hll
  generalize hbn : bins.length = n at *
  have Hbn := hid hbn
  clear hx ho hr hlen hbn hva hll
  have hw3 : ∃ w3 : World, w3 = ((w.alloc (.cells #[.int .i64 cap, .slice (some ⟨ga, 0, none⟩) n c] 45)).alloc (.cells #[.string k, .slice Ax ll cx] 70)).alloc (.cells #[.int .i64 0, .slice none 0 0] 45) := ⟨_, rfl⟩
  obtain ⟨w3, hw3⟩ := hw3
  have m3 : Mod (fun _ => False) w w3 := by rw [hw3]; exact (((Mod.refl _ _).alloc _).alloc _).alloc _
  have hS3 : At w3 w.heap.size (.cells #[.int .i64 cap, .slice (some ⟨ga, 0, none⟩) n c] 45 (0, 0)) := by rw [hw3]; exact ((At.new _ _).alloc _).alloc _
  have hB3 : At w3 (w.heap.size + 1) (.cells #[.string k, .slice Ax ll cx] 70 (0, 0)) := by
    rw [hw3]
    have := (At.new (w.alloc (.cells #[.int .i64 cap, .slice (some ⟨ga, 0, none⟩) n c] 45)) (.cells #[.string k, .slice Ax ll cx] 70)).alloc (.cells #[.int .i64 0, .slice none 0 0] 45)
    simpa using this
  have hR3 : At w3 (w.heap.size + 2) (.cells #[.int .i64 0, .slice none 0 0] 45 (0, 0)) := by
    rw [hw3]
    have := At.new ((w.alloc (.cells #[.int .i64 cap, .slice (some ⟨ga, 0, none⟩) n c] 45)).alloc (.cells #[.string k, .slice Ax ll cx] 70)) (.cells #[.int .i64 0, .slice none 0 0] 45)
    simpa using this
  have hsz3 : w3.heap.size = w.heap.size + 3 := by rw [hw3]; simp
  have Hw3 := hid hw3
  have Hsz3 := hid hsz3
  have hl3 : w.heap.size < w3.heap.size := by omega
  clear hw3 hsz3
  obtain ⟨s0, s1⟩ := At.two hS3
  have hnil := own_zero w3 70 2
  have hcells : ∀ j u, xs[j]? = some u → (w3.alloc (.cells #[] 70)).cell? (Addr.add ⟨ga, 0, none⟩ j) = some u := fun j u hj => by
    rw [add_plain]
    have := Ho.out.cells (g := ga) rfl j u hj
    rw [add_plain] at this
    exact (m3.alloc _).keep0 this
  have Hcells := hid hcells
  clear hcells
  have hl31 : w.heap.size < w3.heap.size + 1 := by omega
  go_enter Try.func26, Try.ntmps26
  go_upto_region 1 with fail
  rw [← Hw3.out]
  go_wp2_with (first
    | (at_builtin; refine wpList_append_own _ rfl (.tmp 7) (.tmp 9) 43 rfl w3.heap.size 70 i0 (.agg #[.string ByteArray.empty, .slice none 0 0]) 2 40 Try.underlying43 hi0 hz0 hz1 hz2 rfl (by decide) (.slice (some ⟨w3.heap.size, 0, none⟩) 0 0) 0 [] rfl hnil ⟨ga, 0, none⟩ n c xs rfl ?d0 ?d1 ?d2 ?d3 ?d4 ?d5 ?_))
  case d0 => exact Hlen.out
  case d1 => exact Hcells.out
  case d2 => exact Hone.out
  case d3 => unfold maxLen; omega
  case d4 => omega
  case d5 => simp
  · intro v' w4 hown4 hgr _
    obtain ⟨g4, c4, hv4, hg43, hg4l⟩ := hown4.form (by omega)
    subst hv4
    have mg : Mod (fun q => w3.heap.size = q) (w3.alloc (.cells #[] 70)) w4 := ⟨hgr.os, hgr.tape, hgr.output, hgr.size, fun q hq hn => hgr.block q hq (fun e => hn (Option.some.inj e).symm)⟩
    have m4 : Mod (fun _ => False) w3 w4 := ((Mod.refl _ _).alloc _).trans' mg (fun q hq e => by omega)
    have hsz4 := m4.size
    have hSS := Hsz3.out
    have n1 : w.heap.size ≠ g4 := by omega
    have n2 : w.heap.size + 1 ≠ g4 := by omega
    have n3 : w.heap.size + 2 ≠ g4 := by omega
    have n4 : w.heap.size + 1 ≠ w.heap.size := by omega
    have n5 : w.heap.size + 2 ≠ w.heap.size := by omega
    have hS4 := hS3.mod m4 id
    have hB4 := hB3.mod m4 id
    have hR4 := hR3.mod m4 id
    obtain ⟨p0, p1⟩ := At.two hS4
    have pf1 := hS4.free 1
    have hSl := hS4.lt
    have Hown4 := hid hown4
    have M4 := hid (m3.trans m4)
    have HB4 := hid hB4
    have HR4 := hid hR4
    have HS4 := hid hS4
    have Hn := hid (And.intro n1 (And.intro n2 (And.intro n3 (And.intro n4 n5))))
    clear hown4 hgr mg m4 hS4 hB4 hR4 hSS n1 n2 n3 n4 n5 s0 s1 hnil hS3 hB3 hR3 m3
    go_upto_region 2 with fail
    obtain ⟨w5, hw5⟩ : ∃ w5 : World, w5 = w4.setCell ⟨w.heap.size, 1, none⟩ (.slice (some ⟨g4, 0, none⟩) n c4) := ⟨_, rfl⟩
    rw [← hw5]
    obtain ⟨n1, n2, n3, n4, n5⟩ := Hn.out
    have m5 : Mod (fun q => q = w.heap.size) w4 w5 := by rw [hw5]; exact (Mod.refl _ _).here _ _
    have hS5 : At w5 w.heap.size (.cells #[.int .i64 cap, .slice (some ⟨g4, 0, none⟩) n c4] 45 (0, 0)) := by rw [hw5]; exact HS4.out.put 1 _
    have hB5 := HB4.out.mod m5 n4
    have hR5 := HR4.out.mod m5 n5
    have hown5 := own_mod Hown4.out m5 (fun g hg e => n1 (by rw [← e]; exact (Option.some.inj hg).symm))
    have M5 := hid (M4.out.none_of m5 (Nat.le_refl _))
    obtain ⟨q0, q1⟩ := At.two hS5
    obtain ⟨q2, q3⟩ := At.two hB5
    obtain ⟨t0, t1⟩ : (∃ u, w5.cell? ⟨g4, i * 2, none⟩ = some u) ∧ ∃ u, w5.cell? ⟨g4, i * 2 + 1, none⟩ = some u := by
      obtain ⟨y, a, b, _, _⟩ := Hr.out i hi
      have hc := hown5.cells (g := g4) rfl
      have ca := hc _ _ a
      have cb := hc _ _ b
      rw [add_plain] at ca cb
      exact ⟨⟨_, ca⟩, ⟨_, cb⟩⟩
    obtain ⟨u0, t0⟩ := t0
    obtain ⟨u1, t1⟩ := t1
    have tf0 := hown5.frozenAt (i * 2)
    have tf1 := hown5.frozenAt (i * 2 + 1)
    have hin : (i : Int) < n := by omega
    have HS5 := hid hS5
    have HB5 := hid hB5
    have HR5 := hid hR5
    have Hown5 := hid hown5
    have hl5 := hS5.lt
    clear hw5 m5 hS5 hB5 hR5 hown5 p0 p1 pf1 n1 n2 n3 n4 n5
    go_upto_region 3 with fail
    obtain ⟨w6, hw6⟩ : ∃ w6 : World, w6 = (w5.setCell ⟨g4, i * 2, none⟩ (.string k)).setCell ⟨g4, i * 2 + 1, none⟩ (.slice Ax ll cx) := ⟨_, rfl⟩
    rw [← hw6]
    obtain ⟨n1, n2, n3, n4, n5⟩ := Hn.out
    have m6 : Mod (fun q => q = g4) w5 w6 := by rw [hw6]; exact ((Mod.refl _ _).here _ _).here _ _
    have hS6 := HS5.out.mod m6 n1
    have hR6 := HR5.out.mod m6 n3
    have hown6 : w6.ownsRow w3.heap.size 70 2 (.slice (some ⟨g4, 0, none⟩) n c4) n ((xs.set (i * 2) (.string k)).set (i * 2 + 1) (.slice Ax ll cx)) := by
      rw [hw6]
      exact ((Hown5.out.stored (i * 2) (.string k)).1.stored (i * 2 + 1) (.slice Ax ll cx)).1
    have M6 := hid (M5.out.none_of m6 (by have := Hsz3.out; omega))
    obtain ⟨q0', q1'⟩ := At.two hS6
    obtain ⟨r0, r1⟩ := At.two hR6
    have rf0 := hR6.free 0
    have rf1 := hR6.free 1
    have HR6 := hid hR6
    have Hown6 := hid hown6
    clear hw6 m6 hS6 hR6 hown6 q0 q1 q2 q3 t0 t1 tf0 tf1 n1 n2 n3 n4 n5
    go_wp2_with fail
    have m7 : Mod (fun q => q = w.heap.size + 2) w6 ((w6.setCell ⟨w.heap.size + 2, 0, none⟩ (.int .i64 cap)).setCell ⟨w.heap.size + 2, 1, none⟩ (.slice (some ⟨g4, 0, none⟩) n c4)) := ((Mod.refl _ _).here _ _).here _ _
    have M7 := M6.out.none_of m7 (by omega)
    have hown7 := own_mod Hown6.out m7 (fun g hg e => Hn.out.2.2.1 (by rw [← e]; exact (Option.some.inj hg).symm))
    refine bodyPost_ret (v := .agg #[.int .i64 cap, .slice (some ⟨g4, 0, none⟩) n c4]) (by simp [results, Try.results26, go_sem, r0, r1]) rfl ⟨_, rfl, ⟨some ⟨g4, 0, none⟩, c4, (xs.set (i * 2) (.string k)).set (i * 2 + 1) (.slice Ax ll cx), ?_, ?_, ?_, ?_⟩, M7⟩
    rotate_left
    · rw [List.length_set, Hbn.out]
      exact own_weaken0 hown7
    · intro g hg
      have e : g4 = g := by simpa [Value.ownBlock] using hg
      have := Hsz3.out
      exact .inr (by omega)
    · intro j hj
      rw [List.length_set, Hbn.out] at hj
      have hib : i < bins.length := by rw [Hbn.out]; exact hi
      rw [bk_set hib, bi_set hib]
      have hxl := Hlen.out
      by_cases e : j = i
      · subst e
        simp only [if_true]
        refine ⟨.slice Ax ll cx, ?_, ?_, ?_, fun g hg => .inl (hxN g (by rw [HLl.out]; exact hg)), fun q => by rw [← hxz q, HLl.out]⟩
        · rw [List.getElem?_set_ne (by omega), List.getElem?_set_self (by omega)]
        · rw [List.getElem?_set_self (by rw [List.length_set]; omega)]
        · have := own_mod0 Hx.out M7
          rw [HLl.out]
          exact this
      · simp only [if_neg e]
        obtain ⟨y, a, b, d, f, z⟩ := Hr.out j hj
        refine ⟨y, ?_, ?_, own_mod0 d M7, fun g hg => .inl (f g hg), z⟩
        · rw [List.getElem?_set_ne (by omega), List.getElem?_set_ne (by omega)]
          exact a
        · rw [List.getElem?_set_ne (by omega), List.getElem?_set_ne (by omega)]
          exact b
    · rw [List.length_set, Hbn.out]
end Go.Proofs.Ytdipncjbobhbjaa
