/- Len, Full, Fullest: their contracts. -/
import Derived.Test.YtdipncjbobhbjaaSt
import Derived.StillTailTactics
namespace Go.Proofs.Ytdipncjbobhbjaa
open Go.RowKit Go.Maps
set_option linter.unusedVariables false
set_option linter.unusedSimpArgs false

theorem At.two {w : World} {b : Nat} {t : TypeId} {fr : Nat × Nat} {v0 v1 : Value} (h : At w b (.cells #[v0, v1] t fr)) : w.cell? ⟨b, 0, none⟩ = some v0 ∧ w.cell? ⟨b, 1, none⟩ = some v1 := ⟨h.cell 0, h.cell 1⟩
theorem At.three {w : World} {b : Nat} {t : TypeId} {fr : Nat × Nat} {v0 v1 v2 : Value} (h : At w b (.cells #[v0, v1, v2] t fr)) : w.cell? ⟨b, 0, none⟩ = some v0 ∧ w.cell? ⟨b, 1, none⟩ = some v1 ∧ w.cell? ⟨b, 2, none⟩ = some v2 := ⟨h.cell 0, h.cell 1, h.cell 2⟩
theorem arr_cell {w : World} {R : Nat} {arr : Array Value} {t : TypeId} {fr : Nat × Nat} {i : Nat} {v : Value} (h : At w R (.cells arr t fr)) (hi : arr[i]? = some v) : w.cell? ⟨R, i, none⟩ = some v := (h.cell i).trans hi
theorem SIn.row {B : Nat} {w : World} {s : Nat} {cap : Int} {bins : List Bin} {R c : Nat} {vs : Nat → Value} {ms : Nat → Nat} (h : SIn B w s cap bins R c vs ms) {i : Nat} (hi : i < bins.length) :
    ∃ A cc, vs i = .slice A (bi bins i).length cc ∧ w.cell? ⟨R, i * 3, none⟩ = some (.string (bk bins i)) ∧ w.cell? ⟨R, i * 3 + 1, none⟩ = some (.slice A (bi bins i).length cc) ∧ w.cell? ⟨R, i * 3 + 2, none⟩ = some (.map (some (ms i))) := by
  obtain ⟨arr, hR, hp⟩ := h.hR
  obtain ⟨p0, p1, p2⟩ := hp i hi
  obtain ⟨A, cc, hv⟩ := own_val (h.ho i hi)
  exact ⟨A, cc, hv, arr_cell hR p0, hv ▸ arr_cell hR p1, arr_cell hR p2⟩

theorem MapAt.len_alloc {w : World} {b : Nat} {l : List ByteArray} (h : MapAt w b l) (o : Obj) (ty : TypeId) : (Builtin.len_ #[62] ty #[.map (some b)]).run Try.prog (w.alloc o) = .ok (.int .i64 l.length) (w.alloc o) := by
  obtain ⟨D, h0, h1, _⟩ := h
  rw [← h1]
  exact (h0.alloc o).len Try.underlying62 ty

theorem len_nil (w : World) : Calls Try.prog 14 #[.pointer none] w fun e w' => e = .returned (.int .i64 0) ∧ w = w' := by
  go_enter Try.func14, Try.ntmps14
  go_wp2
  go_ret
  exact ⟨rfl, rfl⟩
theorem full_nil (w : World) : Calls Try.prog 16 #[.pointer none] w fun e w' => e = .returned (.tuple #[.int .i64 0, .bool false]) ∧ w = w' := by
  go_enter Try.func16, Try.ntmps16
  go_wp2
  go_ret2
  exact ⟨rfl, rfl⟩
theorem fullest_nil (w : World) : Calls Try.prog 17 #[.pointer none] w fun e w' => e = .returned (.tuple #[.int .i64 0, .bool false]) ∧ w = w' := by
  go_enter Try.func17, Try.ntmps17
  go_wp2
  go_ret2
  exact ⟨rfl, rfl⟩
theorem take_nil (n : Int) (w : World) : Calls Try.prog 13 #[.pointer none, .int .i64 n] w fun e w' => e = .returned (.tuple #[.string ByteArray.empty, .slice none 0 0, .int .i64 1]) ∧ w = w' := by
  go_enter Try.func13, Try.ntmps13
  go_wp2
  go_ret3
  exact ⟨rfl, rfl⟩
theorem put_nil (k it : ByteArray) (w : World) : Calls Try.prog 12 #[.pointer none, .string k, .string it] w fun e w' => e = .returned (.tuple #[.int .i64 0, .int .i64 1]) ∧ w = w' := by
  go_enter Try.func12, Try.ntmps12
  go_wp2
  go_ret2
  exact ⟨rfl, rfl⟩

theorem len_c {B : Nat} {s : Nat} {cap : Int} {bins : List Bin} (w : World) (h : SorterAt B w s cap bins) (hf : Fits cap bins) :
    Calls Try.prog 14 #[.pointer (some ⟨s, 0, none⟩)] w fun e w' => e = .returned (.int .i64 (tot bins bins.length : Int)) ∧ Mod (fun _ => False) w w' := by
  obtain ⟨R, c, vs, ms, h⟩ := h
  have hn := hf.n2
  have HF := hid hf
  obtain ⟨c0, c1⟩ := At.two h.hs
  have H := hid h
  clear h hf
  go_enter Try.func14, Try.ntmps14
  go_wp2_with fail
  go_loopw [13, 3] (fun s13 s3 wr => ∃ i : Nat, i ≤ bins.length ∧ s13 = .int .i64 i ∧ s3 = .int .i64 (tot bins i : Int) ∧ Mod (fun _ => False) w wr)
    (fun s13 _ _ => bins.length - (intOf s13).toNat)
  case atStart => exact ⟨0, by omega, rfl, rfl, Mod.refl _ _⟩
  case round =>
    obtain ⟨i, hi, rfl, rfl, m⟩ := hrel
    by_cases hlt : i < bins.length
    · have h1 := H.out.mod0 m
      obtain ⟨A, cc, _, r0, r1, r2⟩ := h1.row hlt
      have hm := h1.hm i hlt
      have ht := HF.out.tot i hi
      have hl := HF.out.len32 i hlt
      have hL := hm.len_alloc
      clear h1 c0 c1 hm
      go_wp2_with fail
      go_roundw
      case rel => exact ⟨i + 1, by omega, by go_num, by simp only [tot]; go_num, m.alloc _⟩
      case measure => simp [intOf]; omega
    · obtain rfl : i = bins.length := by omega
      go_wp2_with fail
      go_ret
      exact ⟨rfl, m⟩
theorem full_c {B : Nat} {s : Nat} {cap : Int} {bins : List Bin} (w : World) (h : SorterAt B w s cap bins) (hf : Fits cap bins) :
    Calls Try.prog 16 #[.pointer (some ⟨s, 0, none⟩)] w fun e w' => e = .returned (.tuple #[.int .i64 (fullI cap bins), .bool (fullB cap bins)]) ∧ Mod (fun _ => False) w w' := by
  obtain ⟨R, c, vs, ms, h⟩ := h
  have hn := hf.n2
  have HF := hid hf
  obtain ⟨c0, c1⟩ := At.two h.hs
  have H := hid h
  clear h hf
  go_enter Try.func16, Try.ntmps16
  go_wp2_with fail
  go_loopw [13] (fun s13 wr => ∃ i : Nat, i ≤ bins.length ∧ s13 = .int .i64 i ∧ (∀ j, j < i → isFull cap bins j = false) ∧ Mod (fun _ => False) w wr)
    (fun s13 _ => bins.length - (intOf s13).toNat)
  case atStart => exact ⟨0, by omega, rfl, fun j hj => by omega, Mod.refl _ _⟩
  case round =>
    obtain ⟨i, hi, rfl, hno, m⟩ := hrel
    have Hno := hid hno
    clear hno
    by_cases hlt : i < bins.length
    · have h1 := H.out.mod0 m
      obtain ⟨A, cc, _, r0, r1, r2⟩ := h1.row hlt
      obtain ⟨d0, d1⟩ := At.two h1.hs
      have hl := HF.out.len32 i hlt
      have hsl := h1.hs.lt
      generalize hL : (bi bins i).length = L at r1 hl
      have HL := hid hL
      clear h1 c0 c1 hL
      by_cases he : (L : Int) = cap
      · go_wp2_with fail
        go_quiet (fail)
        go_wp2_with fail
        go_ret2
        have hp : isFull cap bins i = true := by simp [isFull, HL.out, he]
        obtain ⟨e1, e2⟩ := full_yes hlt hp Hno.out
        exact ⟨by rw [e1, e2]; rfl, (m.alloc _).drewN _⟩
      · go_wp2_with fail
        go_quiet (fail)
        go_wp2_with fail
        go_roundw
        case rel =>
          refine ⟨i + 1, by omega, by go_num, fun j hj => ?_, (m.alloc _).drewN _⟩
          by_cases e : j = i
          · subst e; simp [isFull, HL.out, he]
          · exact Hno.out j (by omega)
        case measure => simp [intOf]; omega
    · obtain rfl : i = bins.length := by omega
      go_wp2_with fail
      go_ret2
      obtain ⟨e1, e2⟩ := full_no Hno.out
      exact ⟨by rw [e1, e2]; rfl, m⟩
theorem fullest_c {B : Nat} {s : Nat} {cap : Int} {bins : List Bin} (w : World) (h : SorterAt B w s cap bins) (hf : Fits cap bins) :
    Calls Try.prog 17 #[.pointer (some ⟨s, 0, none⟩)] w fun e w' => e = .returned (.tuple #[.int .i64 ((big bins bins.length).1 : Int), .bool (decide (0 < (big bins bins.length).2))]) ∧ Mod (fun _ => False) w w' := by
  obtain ⟨R, c, vs, ms, h⟩ := h
  have hn := hf.n2
  have HF := hid hf
  obtain ⟨c0, c1⟩ := At.two h.hs
  have H := hid h
  clear h hf
  go_enter Try.func17, Try.ntmps17
  go_wp2_with fail
  go_loopw [15, 4, 5] (fun s15 s4 s5 wr => ∃ i : Nat, i ≤ bins.length ∧ s15 = .int .i64 i ∧ s4 = .int .i64 ((big bins i).1 : Int) ∧ s5 = .int .i64 ((big bins i).2 : Int) ∧ Mod (fun _ => False) w wr)
    (fun s15 _ _ _ => bins.length - (intOf s15).toNat)
  case atStart => exact ⟨0, by omega, rfl, rfl, rfl, Mod.refl _ _⟩
  case round =>
    obtain ⟨i, hi, rfl, rfl, rfl, m⟩ := hrel
    obtain ⟨hb1, hb2⟩ := HF.out.big i hi
    generalize hx : (big bins i).1 = x at hb1
    generalize hy : (big bins i).2 = y at hb2
    have Hx := hid hx
    have Hy := hid hy
    clear hx hy
    by_cases hlt : i < bins.length
    · have h1 := H.out.mod0 m
      obtain ⟨A, cc, _, r0, r1, r2⟩ := h1.row hlt
      have hl := HF.out.len32 i hlt
      generalize hL : (bi bins i).length = L at r1 hl
      have HL := hid hL
      clear h1 c0 c1 hL
      by_cases he : y < L
      · have he' : (y : Int) < L := by omega
        go_wp2_with fail
        go_quiet (fail)
        go_wp2_with fail
        go_roundw
        case rel =>
          refine ⟨i + 1, by omega, by go_num, ?_, ?_, (m.alloc _).drewN _⟩
          · simp [big, Hy.out, HL.out, he]
          · simp [big, Hy.out, HL.out, he]
        case measure => simp [intOf]; omega
      · have he' : ¬ (y : Int) < L := by omega
        go_wp2_with fail
        go_roundw
        case rel =>
          refine ⟨i + 1, by omega, by go_num, ?_, ?_, m.alloc _⟩
          · simp [big, Hy.out, HL.out, he, Hx.out]
          · simp [big, Hy.out, HL.out, he]
        case measure => simp [intOf]; omega
    · obtain rfl : i = bins.length := by omega
      by_cases hy0 : 0 < y
      · have hy1 : (0 : Int) < y := by omega
        go_wp2_with fail
        go_ret2
        refine ⟨?_, m⟩
        simp [Hx.out, Hy.out, hy0]
      · have hy1 : ¬ (0 : Int) < y := by omega
        go_wp2_with fail
        go_ret2
        refine ⟨?_, m⟩
        simp [Hx.out, Hy.out, hy0]
end Go.Proofs.Ytdipncjbobhbjaa
