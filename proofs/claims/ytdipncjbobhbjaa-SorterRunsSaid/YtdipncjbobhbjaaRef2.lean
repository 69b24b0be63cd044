/- The specification's has, bin, Full, Fullest, Len, Same: their contracts. -/
import Derived.Test.YtdipncjbobhbjaaKeeps
namespace Go.Proofs.Ytdipncjbobhbjaa
open Go.RowKit Go.Maps
set_option linter.unusedVariables false
set_option linter.unusedSimpArgs false

/-- The specification's sorter, its rows in blocks of N. -/
def RefN (N : Nat → Prop) (w : World) (v : Value) (cap : Int) (bins : List Bin) : Prop :=
  ∃ A c xs, v = .agg #[.int .i64 cap, .slice A bins.length c] ∧ w.ownsRow 0 70 2 (.slice A bins.length c) bins.length xs ∧ (∀ g, (Value.slice A bins.length c).ownBlock = some g → N g) ∧
    ∀ i, i < bins.length → ∃ x, xs[i * 2]? = some (.string (bk bins i)) ∧ xs[i * 2 + 1]? = some x ∧ w.ownsRow 0 9 1 x (bi bins i).length ((bi bins i).map .string) ∧ (∀ g, x.ownBlock = some g → N g) ∧ (bi bins i = [] → x = .slice none 0 0)
theorem RefN.keep {N S : Nat → Prop} {w w' : World} {v : Value} {cap : Int} {bins : List Bin} (h : RefN N w v cap bins) (m : Mod S w w') (hS : ∀ g, N g → ¬ S g) : RefN N w' v cap bins := by
  obtain ⟨A, c, xs, rfl, h1, h1', h2⟩ := h
  refine ⟨A, c, xs, rfl, own_mod h1 m (fun g hg => hS g (h1' g hg)), h1', fun i hi => ?_⟩
  obtain ⟨x, a, b, d, e, z⟩ := h2 i hi
  exact ⟨x, a, b, own_mod d m (fun g hg => hS g (e g hg)), e, z⟩
theorem RefN.mod0 {N : Nat → Prop} {w w' : World} {v : Value} {cap : Int} {bins : List Bin} (h : RefN N w v cap bins) (m : Mod (fun _ => False) w w') : RefN N w' v cap bins := h.keep m (fun _ _ h => h)
theorem RefN.mono {N N' : Nat → Prop} {w : World} {v : Value} {cap : Int} {bins : List Bin} (h : RefN N w v cap bins) (hN : ∀ g, g < w.heap.size → N g → N' g) : RefN N' w v cap bins := by
  obtain ⟨A, c, xs, rfl, h1, h1', h2⟩ := h
  refine ⟨A, c, xs, rfl, h1, fun g hg => hN g ?_ (h1' g hg), fun i hi => ?_⟩
  · obtain ⟨cur, hc⟩ := own_at h1 hg
    exact hc.lt
  · obtain ⟨x, a, b, d, e, z⟩ := h2 i hi
    refine ⟨x, a, b, d, fun g hg => hN g ?_ (e g hg), z⟩
    obtain ⟨cur, hc⟩ := own_at d hg
    exact hc.lt
theorem RefN.val {N : Nat → Prop} {w : World} {v : Value} {cap : Int} {bins : List Bin} (h : RefN N w v cap bins) : ∃ A c, v = .agg #[.int .i64 cap, .slice A bins.length c] := by
  obtain ⟨A, c, xs, rfl, _⟩ := h
  exact ⟨A, c, rfl⟩
theorem RefN.row {N : Nat → Prop} {w : World} {A : Option Addr} {c : Nat} {cap : Int} {bins : List Bin} (h : RefN N w (.agg #[.int .i64 cap, .slice A bins.length c]) cap bins) {i : Nat} (hi : i < bins.length) :
    ∃ g A' cc, A = some ⟨g, 0, none⟩ ∧ g < w.heap.size ∧ w.cell? ⟨g, i * 2, none⟩ = some (.string (bk bins i)) ∧ w.cell? ⟨g, i * 2 + 1, none⟩ = some (.slice A' (bi bins i).length cc) ∧
      w.ownsRow 0 9 1 (.slice A' (bi bins i).length cc) (bi bins i).length ((bi bins i).map .string) := by
  obtain ⟨A0, c0, xs, hv, h1, _, h2⟩ := h
  injection hv with hv
  injection hv with hv
  simp only [List.cons.injEq, Value.slice.injEq, and_true, true_and] at hv
  obtain ⟨rfl, rfl⟩ := hv
  obtain ⟨x, a, b, d, _⟩ := h2 i hi
  obtain ⟨g, cap', hv, _, hlt⟩ := h1.form (by omega)
  have hA : A = some ⟨g, 0, none⟩ := by injection hv
  subst hA
  obtain ⟨A', cc, rfl⟩ := own_val d
  have p := h1.cells (g := g) rfl _ _ a
  have q := h1.cells (g := g) rfl _ _ b
  rw [add_plain] at p q
  exact ⟨g, A', cc, rfl, hlt, p, q, d⟩

theorem rlen_c {N : Nat → Prop} {v : Value} {cap : Int} {bins : List Bin} (w : World) (h : RefN N w v cap bins) (hf : Fits cap bins) :
    Calls Try.prog 23 #[v] w fun e w' => e = .returned (.int .i64 (tot bins bins.length : Int)) ∧ Mod (fun _ => False) w w' := by
  obtain ⟨A, c, rfl⟩ := h.val
  have hn := hf.n2
  have HF := hid hf
  have H := hid (h.mod0 ((Mod.refl _ _).alloc (.cells #[.int .i64 cap, .slice A bins.length c] 45)))
  clear h hf
  go_enter Try.func23, Try.ntmps23
  go_wp2_with fail
  go_loopw [4, 3] (fun s4 s3 wr => ∃ i : Nat, i ≤ bins.length ∧ s4 = .int .i64 i ∧ s3 = .int .i64 (tot bins i : Int) ∧ wr = w.alloc (.cells #[.int .i64 cap, .slice A bins.length c] 45))
    (fun s4 _ _ => bins.length - (intOf s4).toNat)
  case atStart => exact ⟨0, by omega, rfl, rfl, rfl⟩
  case round =>
    obtain ⟨i, hi, rfl, rfl, rfl⟩ := hrel
    by_cases hlt : i < bins.length
    · obtain ⟨g, A', cc, rfl, hg, r0, r1, _⟩ := H.out.row hlt
      have ht := HF.out.tot i hi
      have hl := HF.out.len32 i hlt
      go_wp2_with fail
      go_roundw
      case rel => exact ⟨i + 1, by omega, by go_num, by simp only [tot]; go_num, by first | rfl | trivial⟩
      case measure => simp [intOf]; omega
    · obtain rfl : i = bins.length := by omega
      go_wp2_with fail
      go_ret
      exact ⟨rfl, (Mod.refl _ _).alloc _⟩
theorem rfull_c {N : Nat → Prop} {v : Value} {cap : Int} {bins : List Bin} (w : World) (h : RefN N w v cap bins) (hf : Fits cap bins) :
    Calls Try.prog 21 #[v] w fun e w' => e = .returned (.tuple #[.int .i64 (fullI cap bins), .bool (fullB cap bins)]) ∧ Mod (fun _ => False) w w' := by
  obtain ⟨A, c, rfl⟩ := h.val
  have hn := hf.n2
  have HF := hid hf
  have m0 : Mod (fun _ => False) w (w.alloc (.cells #[.int .i64 cap, .slice A bins.length c] 45)) := (Mod.refl _ _).alloc _
  have H := hid (h.mod0 m0)
  have M0 := hid m0
  have Hbx := hid (At.new w (.cells #[.int .i64 cap, .slice A bins.length c] 45))
  clear h hf m0
  go_enter Try.func21, Try.ntmps21
  go_wp2_with fail
  go_loopw [4] (fun s4 wr => ∃ i : Nat, i ≤ bins.length ∧ s4 = .int .i64 i ∧ Hid (∀ j, j < i → isFull cap bins j = false) ∧ Hid (Mod (fun _ => False) (w.alloc (.cells #[.int .i64 cap, .slice A bins.length c] 45)) wr))
    (fun s4 _ => bins.length - (intOf s4).toNat)
  case atStart => exact ⟨0, by omega, rfl, fun j hj => by omega, Mod.refl _ _⟩
  case round =>
    obtain ⟨i, hi, rfl, Hno, hm⟩ := hrel
    have Hq := hid (H.out.mod0 hm.out)
    have hbx := Hbx.out.mod hm.out id
    obtain ⟨d0, d1⟩ := At.two hbx
    have hbl := hbx.lt
    have M2 := hid (M0.out.trans hm.out)
    clear hbx
    by_cases hlt : i < bins.length
    · obtain ⟨g, A', cc, rfl, hg, r0, r1, _⟩ := Hq.out.row hlt
      have hl := HF.out.len32 i hlt
      generalize hL : (bi bins i).length = L at r1 hl
      have HL := hid hL
      clear hL
      by_cases he : (L : Int) = cap
      · go_wp2_with fail
        go_quiet (fail)
        go_wp2_with fail
        go_ret2
        have hp : isFull cap bins i = true := by simp [isFull, HL.out, he]
        obtain ⟨e1, e2⟩ := full_yes hlt hp Hno.out
        exact ⟨by rw [e1, e2]; rfl, M2.out.drewN _⟩
      · go_wp2_with fail
        go_quiet (fail)
        go_wp2_with fail
        go_roundw
        case rel =>
          refine ⟨i + 1, by omega, by go_num, fun j hj => ?_, hm.out.drewN _⟩
          by_cases e : j = i
          · subst e; simp [isFull, HL.out, he]
          · exact Hno.out j (by omega)
        case measure => simp [intOf]; omega
    · obtain rfl : i = bins.length := by omega
      go_wp2_with fail
      go_ret2
      obtain ⟨e1, e2⟩ := full_no Hno.out
      exact ⟨by rw [e1, e2]; rfl, M2.out⟩
theorem rfullest_c {N : Nat → Prop} {v : Value} {cap : Int} {bins : List Bin} (w : World) (h : RefN N w v cap bins) (hf : Fits cap bins) :
    Calls Try.prog 22 #[v] w fun e w' => e = .returned (.tuple #[.int .i64 ((big bins bins.length).1 : Int), .bool (decide (0 < (big bins bins.length).2))]) ∧ Mod (fun _ => False) w w' := by
  obtain ⟨A, c, rfl⟩ := h.val
  have hn := hf.n2
  have HF := hid hf
  have m0 : Mod (fun _ => False) w (w.alloc (.cells #[.int .i64 cap, .slice A bins.length c] 45)) := (Mod.refl _ _).alloc _
  have H := hid (h.mod0 m0)
  have M0 := hid m0
  have Hbx := hid (At.new w (.cells #[.int .i64 cap, .slice A bins.length c] 45))
  clear h hf m0
  go_enter Try.func22, Try.ntmps22
  go_wp2_with fail
  go_loopw [6, 4, 5] (fun s6 s4 s5 wr => ∃ i : Nat, i ≤ bins.length ∧ s6 = .int .i64 i ∧ s4 = .int .i64 ((big bins i).1 : Int) ∧ s5 = .int .i64 ((big bins i).2 : Int) ∧ Hid (Mod (fun _ => False) (w.alloc (.cells #[.int .i64 cap, .slice A bins.length c] 45)) wr))
    (fun s6 _ _ _ => bins.length - (intOf s6).toNat)
  case atStart => exact ⟨0, by omega, rfl, rfl, rfl, Mod.refl _ _⟩
  case round =>
    obtain ⟨i, hi, rfl, rfl, rfl, hm⟩ := hrel
    have Hq := hid (H.out.mod0 hm.out)
    have hbx := Hbx.out.mod hm.out id
    obtain ⟨d0, d1⟩ := At.two hbx
    have hbl := hbx.lt
    have M2 := hid (M0.out.trans hm.out)
    obtain ⟨hb1, hb2⟩ := HF.out.big i hi
    generalize hx : (big bins i).1 = x at hb1
    generalize hy : (big bins i).2 = y at hb2
    have Hx := hid hx
    have Hy := hid hy
    clear hbx hx hy
    by_cases hlt : i < bins.length
    · obtain ⟨g, A', cc, rfl, hg, r0, r1, _⟩ := Hq.out.row hlt
      have hl := HF.out.len32 i hlt
      generalize hL : (bi bins i).length = L at r1 hl
      have HL := hid hL
      clear hL
      by_cases he : y < L
      · have he' : (y : Int) < L := by omega
        go_wp2_with fail
        go_quiet (fail)
        go_wp2_with fail
        go_roundw
        case rel =>
          refine ⟨i + 1, by omega, by go_num, ?_, ?_, hm.out.drewN _⟩
          · simp [big, Hy.out, HL.out, he]
          · simp [big, Hy.out, HL.out, he]
        case measure => simp [intOf]; omega
      · have he' : ¬ (y : Int) < L := by omega
        go_wp2_with fail
        go_roundw
        case rel =>
          refine ⟨i + 1, by omega, by go_num, ?_, ?_, hm⟩
          · simp [big, Hy.out, HL.out, he, Hx.out]
          · simp [big, Hy.out, HL.out, he]
        case measure => simp [intOf]; omega
    · obtain rfl : i = bins.length := by omega
      by_cases hy0 : 0 < y
      · have hy1 : (0 : Int) < y := by omega
        go_wp2_with fail
        go_ret2
        refine ⟨?_, M2.out⟩
        simp [Hx.out, Hy.out, hy0]
      · have hy1 : ¬ (0 : Int) < y := by omega
        go_wp2_with fail
        go_ret2
        refine ⟨?_, M2.out⟩
        simp [Hx.out, Hy.out, hy0]
/-- Two equal rows are told to be the same. -/
theorem rsame_c (A A' : Option Addr) (c c' : Nat) (l : List ByteArray) (B B' : Nat) (w : World) (h : w.ownsRow B 9 1 (.slice A l.length c) l.length (l.map .string)) (h' : w.ownsRow B' 9 1 (.slice A' l.length c') l.length (l.map .string)) (hl : l.length ≤ 1000) :
    Calls Try.prog 20 #[.slice A l.length c, .slice A' l.length c'] w fun e w' => e = .returned (.bool true) ∧ Mod (fun _ => False) w w' := by
  have H := hid h
  have H' := hid h'
  clear h h'
  go_enter Try.func20, Try.ntmps20
  go_wp2_with fail
  go_loopw [5] (fun s5 wr => ∃ i : Nat, i ≤ l.length ∧ s5 = .int .i64 i ∧ Hid (Mod (fun _ => False) w wr))
    (fun s5 _ => l.length - (intOf s5).toNat)
  case atStart => exact ⟨0, by omega, rfl, Mod.refl _ _⟩
  case round =>
    obtain ⟨i, hi, rfl, hm⟩ := hrel
    by_cases hlt : i < l.length
    · obtain ⟨g, rfl, hg, r0⟩ := row_get (own_mod0 H.out hm.out) hlt
      obtain ⟨g', rfl, hg', r0'⟩ := row_get (own_mod0 H'.out hm.out) hlt
      generalize l.getD i ByteArray.empty = x at r0 r0'
      have hq : (x.toList == x.toList) = true := seq_true rfl
      generalize l.length = L at hlt hi hl
      go_wp2_with fail
      go_quiet (fail)
      go_wp2_with fail
      go_roundw
      case rel => exact ⟨i + 1, by omega, by go_num, hm.out.drewN _⟩
      case measure => simp [intOf]; omega
    · obtain rfl : i = l.length := by omega
      go_wp2_with fail
      go_ret
      exact ⟨rfl, hm.out⟩
end Go.Proofs.Ytdipncjbobhbjaa
