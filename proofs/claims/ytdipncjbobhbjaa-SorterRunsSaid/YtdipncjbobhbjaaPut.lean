/- Put: its contract. -/
import Derived.Test.YtdipncjbobhbjaaTake
import Derived.Maps.AppendAt
namespace Go.Proofs.Ytdipncjbobhbjaa
open Go.RowKit Go.Maps
set_option linter.unusedVariables false
set_option linter.unusedSimpArgs false

theorem toList_inj {a b : ByteArray} (h : a.toList = b.toList) : a = b := by
  rw [ByteArray.toList_eq, ByteArray.toList_eq] at h
  exact ByteArray.ext (Array.toList_inj.1 h)
theorem seq_true {a b : ByteArray} (h : a = b) : (a.toList == b.toList) = true := by simp [h]
theorem seq_false {a b : ByteArray} (h : a ≠ b) : (a.toList == b.toList) = false := by
  rw [beq_eq_false_iff_ne]
  exact fun e => h (toList_inj e)

theorem put_name {B : Nat} {s : Nat} {cap : Int} {bins : List Bin} (key it : ByteArray) (w : World) (h : SorterAt B w s cap bins) (hn : key.toList = [] ∨ (key.toList ≠ [] ∧ it.toList = [])) :
    Calls Try.prog 12 #[.pointer (some ⟨s, 0, none⟩), .string key, .string it] w fun e w' => e = .returned (.tuple #[.int .i64 0, .int .i64 6]) ∧ w = w' := by
  rcases hn with hn | ⟨hn0, hn⟩
  · have he : key.toList.isEmpty = true := by rw [hn]; rfl
    clear hn
    go_enter Try.func12, Try.ntmps12
    go_wp2_with fail
    go_ret2
    exact ⟨rfl, rfl⟩
  · have he0 : key.toList.isEmpty = false := by simpa using hn0
    have he : it.toList.isEmpty = true := by rw [hn]; rfl
    clear hn hn0
    go_enter Try.func12, Try.ntmps12
    go_wp2_with fail
    go_ret2
    exact ⟨rfl, rfl⟩
theorem first_succ_yes {p : Nat → Bool} {i : Nat} (h : first p i < 0) (hp : p i = true) : first p (i + 1) = i := by simp [first, h, hp]
theorem first_succ_no {p : Nat → Bool} {i : Nat} (h : ¬ first p i < 0 ∨ p i = false) : first p (i + 1) = first p i := by
  rcases h with h | h <;> simp [first, h]
theorem first_bound (p : Nat → Bool) (n : Nat) : -1 ≤ first p n ∧ first p n < (n : Int) ∧ (first p n < 0 → first p n = -1) := by
  rcases first_cases p n with ⟨h, _⟩ | ⟨k, hk, h, _⟩ <;> omega

theorem info9 : (Try.prog.info? 9).map (fun i => (i.zero, i.size, i.bytes)) = some (some (.string ByteArray.empty), 1, 16) := by kernel_rfl
/-- What Put answers. -/
structure PutPost (B : Nat) (w : World) (s : Nat) (cap : Int) (bins : List Bin) (R : Nat) (vs : Nat → Value) (ms : Nat → Nat) (key it : ByteArray) (e : Ending) (w' : World) : Prop where
  exists_ : hasIt bins it → e = .returned (.tuple #[.int .i64 0, .int .i64 7]) ∧ Mod (fun _ => False) w w'
  full : ¬ hasIt bins it → toOf cap bins key < 0 → e = .returned (.tuple #[.int .i64 0, .int .i64 12]) ∧ Mod (fun _ => False) w w'
  ok : ¬ hasIt bins it → ∀ k : Nat, toOf cap bins key = k → e = .returned (.tuple #[.int .i64 (k : Int), .int .i64 0]) ∧ SorterAt B w' s cap (bins.set k (key, bi bins k ++ [it])) ∧ MT B w w' ∧ Mod (fun x => x = R ∨ x = ms k ∨ (vs k).ownBlock = some x) w w'

set_option maxHeartbeats 1600000 in
theorem put_c {B : Nat} {s : Nat} {cap : Int} {bins : List Bin} {R c : Nat} {vs : Nat → Value} {ms : Nat → Nat} (key it : ByteArray) (w : World) (h : SIn B w s cap bins R c vs ms) (hf : Fits cap bins) (hB : B ≤ w.heap.size) (hk0 : key.toList ≠ []) (hi0 : it.toList ≠ []) (hit : it.size ≤ maxLen) :
    Calls Try.prog 12 #[.pointer (some ⟨s, 0, none⟩), .string key, .string it] w fun e w' => PutPost B w s cap bins R vs ms key it e w' := by
  have hn := hf.n2
  have HF := hid hf
  obtain ⟨c0, c1⟩ := At.two h.hs
  have H := hid h
  have hke : key.toList.isEmpty = false := by simpa using hk0
  have hie : it.toList.isEmpty = false := by simpa using hi0
  have hkey := hid (keyS hit)
  obtain ⟨i0, hi0', hz0, hz1, hz2⟩ := info_parts info9
  clear h hf hk0 hi0
  go_enter Try.func12, Try.ntmps12
  go_wp2_with fail
  go_loopw [28, 8, 9] (fun s28 s8 s9 wr => ∃ i : Nat, i ≤ bins.length ∧ s28 = .int .i64 i ∧ s8 = .int .i64 (first (vacant bins) i) ∧ s9 = .int .i64 (first (fitTo cap bins key) i) ∧ Hid (∀ j, j < i → it ∉ bi bins j) ∧ Mod (fun _ => False) w wr)
    (fun s28 _ _ _ => bins.length - (intOf s28).toNat)
  case atStart => exact ⟨0, by omega, rfl, rfl, rfl, fun j hj => by omega, Mod.refl _ _⟩
  case round =>
    obtain ⟨i, hi, rfl, rfl, rfl, hno, m⟩ := hrel
    by_cases hlt : i < bins.length
    · have h1 := H.out.mod0 m
      obtain ⟨A, cc, _, r0, r1, r2⟩ := h1.row hlt
      obtain ⟨d0, d1⟩ := At.two h1.hs
      have hl := HF.out.len32 i hlt
      have hsl := h1.hs.lt
      have H1 := hid h1
      obtain ⟨D, hD, hsz, hhas⟩ := h1.hm i hlt
      have hhas := hhas it hit
      generalize hL : (bi bins i).length = L at r1 hl hD
      have HL := hid hL
      generalize hK : bk bins i = K at r0
      have HK := hid hK
      have HE := hid (first_bound (vacant bins) i)
      have HT := hid (first_bound (fitTo cap bins key) i)
      generalize hE : first (vacant bins) i = E at HE
      generalize hT : first (fitTo cap bins key) i = T at HT
      have HEe := hid hE
      have HTe := hid hT
      clear h1 c0 c1 hL hK hE hT
      by_cases hin : it ∈ bi bins i
      · have hq : Maps.has D (.string it.data.toList) = true := hhas.2 hin
        clear hhas
        go_wp2_with (first | (at_lookup; refine wpList_lookup_own_ok_int _ rfl _ _ 62 rfl 9 3 .i64 law Try.underlying62 Try.underlying3 (zero3 _) (ms i) L D rfl (hD.alloc _) _ _ rfl hkey.out ?_; intro c hat hwc))
        go_ret2
        exact ⟨fun _ => ⟨rfl, m.alloc _⟩, fun h => absurd ⟨i, hlt, hin⟩ h, fun h => absurd ⟨i, hlt, hin⟩ h⟩
      · have hq : Maps.has D (.string it.data.toList) = false := by
          rw [Bool.eq_false_iff]
          exact fun q => hin (hhas.1 q)
        clear hhas
        rcases Nat.eq_zero_or_pos L with rfl | hpos
        · by_cases hEn : E < 0
          · skip
            go_wp2_with (first | (at_lookup; refine wpList_lookup_own_ok_int _ rfl _ _ 62 rfl 9 3 .i64 law Try.underlying62 Try.underlying3 (zero3 _) (ms i) 0 D rfl (hD.alloc _) _ _ rfl hkey.out ?_; intro c hat hwc))
            go_quiet (fail)
            go_wp2_with fail
            go_roundw
            case rel =>
              refine ⟨i + 1, by omega, by go_num, ?_, ?_, fun j hj => ?_, (m.alloc _).drewN _⟩
              · rw [first_succ_yes (by rw [HEe.out]; exact hEn) (by simp [vacant, HL.out])]
              · rw [first_succ_no (Or.inr (by simp [fitTo, HL.out, HK.out])), HTe.out]
              · rcases Nat.lt_succ_iff_lt_or_eq.1 hj with q | rfl
                · exact hno.out j q
                · exact hin
            case measure => simp [intOf]; omega
          · skip
            go_wp2_with (first | (at_lookup; refine wpList_lookup_own_ok_int _ rfl _ _ 62 rfl 9 3 .i64 law Try.underlying62 Try.underlying3 (zero3 _) (ms i) 0 D rfl (hD.alloc _) _ _ rfl hkey.out ?_; intro c hat hwc))
            go_quiet (fail)
            go_wp2_with fail
            go_roundw
            case rel =>
              refine ⟨i + 1, by omega, by go_num, ?_, ?_, fun j hj => ?_, (m.alloc _).drewN _⟩
              · rw [first_succ_no (Or.inl (by rw [HEe.out]; omega)), HEe.out]
              · rw [first_succ_no (Or.inr (by simp [fitTo, HL.out, HK.out])), HTe.out]
              · rcases Nat.lt_succ_iff_lt_or_eq.1 hj with q | rfl
                · exact hno.out j q
                · exact hin
            case measure => simp [intOf]; omega
        · have hL0 : ¬ (L : Int) = 0 := by omega
          have hL1 : (0 : Int) < L := by omega
          by_cases hKe : K = key
          · have hks := seq_true hKe
            by_cases hLc : (L : Int) < cap
            · by_cases hTn : T < 0
              · skip
                go_wp2_with (first | (at_lookup; refine wpList_lookup_own_ok_int _ rfl _ _ 62 rfl 9 3 .i64 law Try.underlying62 Try.underlying3 (zero3 _) (ms i) L D rfl (hD.alloc _) _ _ rfl hkey.out ?_; intro c hat hwc))
                go_quiet (fail)
                go_wp2_with fail
                go_roundw
                case rel =>
                  refine ⟨i + 1, by omega, by go_num, ?_, ?_, fun j hj => ?_, (m.alloc _).drewN _⟩
                  · rw [first_succ_no (Or.inr (by simp [vacant, HL.out]; omega)), HEe.out]
                  · rw [first_succ_yes (by rw [HTe.out]; exact hTn) (by simp [fitTo, HL.out, HK.out, hKe]; omega)]
                  · rcases Nat.lt_succ_iff_lt_or_eq.1 hj with q | rfl
                    · exact hno.out j q
                    · exact hin
                case measure => simp [intOf]; omega
              · skip
                go_wp2_with (first | (at_lookup; refine wpList_lookup_own_ok_int _ rfl _ _ 62 rfl 9 3 .i64 law Try.underlying62 Try.underlying3 (zero3 _) (ms i) L D rfl (hD.alloc _) _ _ rfl hkey.out ?_; intro c hat hwc))
                go_quiet (fail)
                go_wp2_with fail
                go_roundw
                case rel =>
                  refine ⟨i + 1, by omega, by go_num, ?_, ?_, fun j hj => ?_, (m.alloc _).drewN _⟩
                  · rw [first_succ_no (Or.inr (by simp [vacant, HL.out]; omega)), HEe.out]
                  · rw [first_succ_no (Or.inl (by rw [HTe.out]; omega)), HTe.out]
                  · rcases Nat.lt_succ_iff_lt_or_eq.1 hj with q | rfl
                    · exact hno.out j q
                    · exact hin
                case measure => simp [intOf]; omega
            · skip
              go_wp2_with (first | (at_lookup; refine wpList_lookup_own_ok_int _ rfl _ _ 62 rfl 9 3 .i64 law Try.underlying62 Try.underlying3 (zero3 _) (ms i) L D rfl (hD.alloc _) _ _ rfl hkey.out ?_; intro c hat hwc))
              have hLd : decide ((L : Int) < cap) = false := by simp; omega
              go_quiet (fail)
              go_wp2_with fail
              go_roundw
              case rel =>
                refine ⟨i + 1, by omega, by go_num, ?_, ?_, fun j hj => ?_, (m.alloc _).drewN _⟩
                · rw [first_succ_no (Or.inr (by simp [vacant, HL.out]; omega)), HEe.out]
                · rw [first_succ_no (Or.inr (by simp [fitTo, HL.out, HK.out, hLc])), HTe.out]
                · rcases Nat.lt_succ_iff_lt_or_eq.1 hj with q | rfl
                  · exact hno.out j q
                  · exact hin
              case measure => simp [intOf]; omega
          · have hks := seq_false hKe
            go_wp2_with (first | (at_lookup; refine wpList_lookup_own_ok_int _ rfl _ _ 62 rfl 9 3 .i64 law Try.underlying62 Try.underlying3 (zero3 _) (ms i) L D rfl (hD.alloc _) _ _ rfl hkey.out ?_; intro c hat hwc))
            go_quiet (fail)
            go_wp2_with fail
            go_roundw
            case rel =>
              refine ⟨i + 1, by omega, by go_num, ?_, ?_, fun j hj => ?_, (m.alloc _).drewN _⟩
              · rw [first_succ_no (Or.inr (by simp [vacant, HL.out]; omega)), HEe.out]
              · rw [first_succ_no (Or.inr (by simp [fitTo, HL.out, HK.out, hKe])), HTe.out]
              · rcases Nat.lt_succ_iff_lt_or_eq.1 hj with q | rfl
                · exact hno.out j q
                · exact hin
            case measure => simp [intOf]; omega
    · obtain rfl : i = bins.length := by omega
      have Hn : Hid (¬ hasIt bins it) := fun ⟨j, hj, q⟩ => hno.out j hj q
      have h1 := H.out.mod0 m
      obtain ⟨d0, d1⟩ := At.two h1.hs
      have HE := hid (first_bound (vacant bins) bins.length)
      have HT := hid (first_bound (fitTo cap bins key) bins.length)
      have hTo : toOf cap bins key = if first (fitTo cap bins key) bins.length < 0 then first (vacant bins) bins.length else first (fitTo cap bins key) bins.length := rfl
      generalize first (vacant bins) bins.length = E at HE hTo
      generalize first (fitTo cap bins key) bins.length = T at HT hTo
      have hE := HE.out
      have hT := HT.out
      by_cases hTn : T < 0
      · rw [if_pos hTn] at hTo
        by_cases hEn : E < 0
        · have HTo := hid hTo
          clear hTo hE hT h1
          go_wp2_with fail
          go_ret2
          exact ⟨fun h => absurd h Hn.out, fun _ _ => ⟨rfl, m⟩, fun _ k hk => by have := HTo.out; omega⟩
        · obtain ⟨k, rfl⟩ := Int.eq_ofNat_of_zero_le (show 0 ≤ E by omega)
          have HTo := hid hTo
          have hEk : (k : Int) < bins.length := hE.2.1
          have hTn' := hid hTn
          clear hTo hE hT HE HT hEn
          have hnk : k < bins.length := by omega
          have hnin : it ∉ bi bins k := fun q => Hn.out ⟨k, hnk, q⟩
          obtain ⟨A, cc, hv, r0, r1, r2⟩ := h1.row hnk
          have Hv := hid hv
          have hl := HF.out.len32 k hnk
          have ho1 := h1.ho k hnk
          have hm1 := h1.hm k hnk
          obtain ⟨arr, hA, hp⟩ := h1.hR
          have Hp := hid hp
          have f0 := hA.free (k * 3)
          have f1 := hA.free (k * 3 + 1)
          have hlt := hA.lt
          have hA2 := hA.put (k * 3) (.string key)
          have hkk : (k : Int) < bins.length := by omega
          rw [hv] at ho1
          generalize hL : (bi bins k).length = L at r1 hl ho1 hv
          have HL := hid hL
          have H1 := hid h1
          have hT0 : ¬ (k : Int) < 0 := by omega
          clear h1 c0 c1 hp hL hv
          go_wp2_with fail
          obtain ⟨w2, hw2⟩ : ∃ w2 : World, w2 = wr.setCell ⟨R, k * 3, none⟩ (.string key) := ⟨_, rfl⟩
          rw [← hw2]
          rw [← hw2] at hA2
          have m2 : Mod (fun x => x = R) wr w2 := by rw [hw2]; exact (Mod.refl _ _).here _ _
          have e1 : w2.cell? ⟨R, k * 3 + 1, none⟩ = some (.slice A L cc) := arr_cell hA2 (by have := (Hp.out k hnk).2.1; rw [Hv.out, HL.out] at this; simpa [Array.getElem?_setIfInBounds] using this)
          have e2 : w2.cell? ⟨R, k * 3 + 2, none⟩ = some (.map (some (ms k))) := arr_cell hA2 (by simpa [Array.getElem?_setIfInBounds] using (Hp.out k hnk).2.2)
          obtain ⟨D, hD, hsz, hhas⟩ := hm1.mod m2 (fun e => map_ne hA hm1 e.symm)
          have HDw := hid hD
          rw [HL.out] at hD
          have Hhas := hid hhas
          have Hsz := hid hsz
          clear hhas hsz
          have Hw2 := hid hw2
          clear hw2 r0 r1 r2 d0 d1
          refine wp_region_still_tail 10 (by kernel_rfl) (by kernel_rfl) ?_
          simp only [List.take_succ_cons, List.take_zero, List.drop_succ_cons, List.drop_zero]
          change wpStill Try.prog _ (World.drew w2) (fun a' => wpList Try.prog _ _ _ a' (World.drew w2)) _ _
          repeat still_step
          refine wpStill_nil ?_
          go_wp2_with (first | (at_mapUpdate; refine wpList_mapUpdate_own _ rfl _ _ _ 62 rfl 9 3 law Try.underlying62 _ (ms k) L D rfl hD.drew (by unfold maxLen; omega) _ _ _ rfl rfl hkey.out _ [] (plainElem_int Try.underlying3 (WalkArith.wf_i64 (by omega))) ?_))
          intro w3 hD3 hg3
          have hRm : some R ≠ some (ms k) := fun e => map_ne hA hm1 (Option.some.inj e)
          have m3 : Mod (fun x => x = ms k) w2 w3 := ⟨hg3.os, hg3.tape, hg3.output, hg3.size, fun b hb hs => hg3.block b hb (fun e => hs (Option.some.inj e))⟩
          have hA3 : At w3 R (.cells (arr.setIfInBounds (k * 3) (.string key)) 64 (0, 0)) := hA2.mod m3 (fun e => hRm (congrArg some e))
          have g1 : w3.cell? ⟨R, k * 3 + 1, none⟩ = some (.slice A L cc) := (hA3.cell _).trans ((hA2.cell _).symm.trans e1)
          have g1f := hA3.free (k * 3 + 1)
          have hRl := hA3.lt
          have ho3 : w3.ownsRow B 9 1 (.slice A L cc) L ((bi bins k).map .string) := own_same ho1 (fun g hg => by
            obtain ⟨cur, hc⟩ := own_at ho1 hg
            rw [m3.block g (At.mod hc m2 (fun e => cells_ne hc hA (by decide) e)).lt (fun e => map_ne hc hm1 e), m2.block g hc.lt (fun e => cells_ne hc hA (by decide) e)])
          have hB3 : B ≤ w3.heap.size := by have := m.size; have := m2.size; have := m3.size; omega
          have HD3 := hid hD3
          clear hD3 e1 e2 hD f0 f1
          have hR1 : R < w3.heap.size + 1 := by omega
          go_wp2_with (first | (at_builtin; refine wpList_append_own_at _ rfl (.tmp 105) (.tmp 107) 38 rfl B 9 i0 (.string ByteArray.empty) 1 16 Try.underlying38 hi0' hz0 hz1 hz2 rfl (by decide) (.slice A L cc) L ((bi bins k).map .string) rfl (ho3.alloc _) ⟨w3.heap.size, 0, none⟩ 1 1 [.string it] rfl rfl ?c1 ?c2 ?c3 ?c4 ?c5 ?_))
          case c1 =>
            intro j u hj
            match j, hj with
            | 0, hj => simp at hj; subst hj; simp [Addr.add]
          case c2 => intro u hu; simp at hu; subst hu; rfl
          case c3 => unfold maxLen; omega
          case c4 => omega
          case c5 => simp; omega
          rotate_left
          intro v' w4 hown4 hg4 _ hat4
          obtain ⟨A4, c4, rfl⟩ := own_val hown4
          have hA3a := hA3.alloc (.cells #[.string it] 9)
          have hRo : some R ≠ (Value.slice A L cc).ownBlock := own_ne ho3 hA3 (by decide)
          have hA4 : At w4 R (.cells (arr.setIfInBounds (k * 3) (.string key)) 64 (0, 0)) := by
            unfold At
            rw [hg4.block _ hA3a.lt hRo]
            exact hA3a
          have s1 : w4.cell? ⟨R, k * 3 + 1, none⟩ = some (.slice A L cc) := (hA4.cell _).trans ((hA3.cell _).symm.trans g1)
          have s1f := hA4.free (k * 3 + 1)
          have hR4 := hA4.lt
          clear g1 g1f hR1 hRl
          go_wp2_with fail
          go_ret2
          have m34 : Mod (fun x => x = R ∨ (Value.slice A L cc).ownBlock = some x) w3 w4 := ((Mod.refl _ w3).alloc (.cells #[.string it] 9)).trans' (T := fun x => (Value.slice A L cc).ownBlock = some x) ⟨hg4.os, hg4.tape, hg4.output, hg4.size, fun b hb hs => hg4.block b hb (fun e => hs e.symm)⟩ (fun _ _ h => .inr h)
          have m3f := m34.put (p := ⟨R, k * 3 + 1, none⟩) (.slice A4 (L + 1) c4) (fun _ => .inl rfl)
          have hMap3 : MapAt w3 (ms k) (bi bins k ++ [it]) := MapAt.put hit HDw.out Hsz.out Hhas.out (by rw [HL.out]; exact HD3.out) hnin
          have hMapf := hMap3.mod m3f (fun e => by
            rcases e with e | e
            · exact map_ne hA3 hMap3 e.symm
            · obtain ⟨cur, hc⟩ := own_at ho3 e
              exact map_ne hc hMap3 rfl)
          have hAf := hA4.put (k * 3 + 1) (.slice A4 (L + 1) c4)
          have hof := ownsRow_setCell_far (a := ⟨R, k * 3 + 1, none⟩) hown4 (fun g hg e => own_ne hown4 hA4 (by decide) (by have e' : g = R := e; rw [hg, e'])) (.slice A4 (L + 1) c4)
          have hmod : Mod (fun x => x = R ∨ x = ms k ∨ (vs k).ownBlock = some x) wr _ := ((m2.mono (fun _ _ e => .inl e)).trans' m3 (fun _ _ e => .inr (.inl e))).trans' m3f (fun x _ e => by
            rcases e with e | e
            · exact .inl e
            · exact .inr (.inr (by rw [Hv.out, HL.out]; exact e)))
          obtain ⟨p0, p1, p2⟩ := Hp.out k hnk
          have hsz : ∀ {j : Nat} {v : Value}, arr[j]? = some v → j < arr.size := fun h => (Array.getElem?_eq_some_iff.1 h).1
          have z0 := hsz p0
          have z1 := hsz p1
          have hlen : (bi bins k ++ [it]).length = L + 1 := by simp [HL.out]
          obtain ⟨h5, m5⟩ := H1.out.change hnk (k' := key) (L := bi bins k ++ [it]) (v' := .slice A4 (L + 1) c4) hmod hA hAf (by simp [Array.getElem?_setIfInBounds, z0]) (by simp [Array.getElem?_setIfInBounds, z1]) (by simp [Array.getElem?_setIfInBounds]) (fun j j0 j1 j2 => by simp [Array.getElem?_setIfInBounds, Ne.symm j0, Ne.symm j1]) (by rw [hlen]; simpa using hof) hMapf (by
            rcases hat4 with q | q
            · exact .inr (.inl (by rw [q, Hv.out, HL.out]))
            · refine .inr (.inr ⟨_, q, ?_⟩)
              have := m2.size
              have := m3.size
              simp
              omega)
          exact ⟨fun h => absurd h Hn.out, fun _ h => by have := HTo.out; omega, fun _ k' hk' => by
            obtain rfl : k' = k := by have := HTo.out; omega
            exact ⟨rfl, ⟨_, _, _, _, h5⟩, (MT.of0 m).trans m5, (m.mono (fun _ _ q => q.elim)).trans hmod⟩⟩
      · rw [if_neg hTn] at hTo
        obtain ⟨k, rfl⟩ := Int.eq_ofNat_of_zero_le (show 0 ≤ T by omega)
        have HTo := hid hTo
        have hEk : (k : Int) < bins.length := hT.2.1
        clear hTo hE hT HE HT hTn
        have hnk : k < bins.length := by omega
        have hnin : it ∉ bi bins k := fun q => Hn.out ⟨k, hnk, q⟩
        obtain ⟨A, cc, hv, r0, r1, r2⟩ := h1.row hnk
        have Hv := hid hv
        have hl := HF.out.len32 k hnk
        have ho1 := h1.ho k hnk
        have hm1 := h1.hm k hnk
        obtain ⟨arr, hA, hp⟩ := h1.hR
        have Hp := hid hp
        have f0 := hA.free (k * 3)
        have f1 := hA.free (k * 3 + 1)
        have hlt := hA.lt
        have hA2 := hA.put (k * 3) (.string key)
        have hkk : (k : Int) < bins.length := by omega
        rw [hv] at ho1
        generalize hL : (bi bins k).length = L at r1 hl ho1 hv
        have HL := hid hL
        have H1 := hid h1
        have hT0 : ¬ (k : Int) < 0 := by omega
        clear h1 c0 c1 hp hL hv
        go_wp2_with fail
        obtain ⟨w2, hw2⟩ : ∃ w2 : World, w2 = wr.setCell ⟨R, k * 3, none⟩ (.string key) := ⟨_, rfl⟩
        rw [← hw2]
        rw [← hw2] at hA2
        have m2 : Mod (fun x => x = R) wr w2 := by rw [hw2]; exact (Mod.refl _ _).here _ _
        have e1 : w2.cell? ⟨R, k * 3 + 1, none⟩ = some (.slice A L cc) := arr_cell hA2 (by have := (Hp.out k hnk).2.1; rw [Hv.out, HL.out] at this; simpa [Array.getElem?_setIfInBounds] using this)
        have e2 : w2.cell? ⟨R, k * 3 + 2, none⟩ = some (.map (some (ms k))) := arr_cell hA2 (by simpa [Array.getElem?_setIfInBounds] using (Hp.out k hnk).2.2)
        obtain ⟨D, hD, hsz, hhas⟩ := hm1.mod m2 (fun e => map_ne hA hm1 e.symm)
        have HDw := hid hD
        rw [HL.out] at hD
        have Hhas := hid hhas
        have Hsz := hid hsz
        clear hhas hsz
        have Hw2 := hid hw2
        clear hw2 r0 r1 r2 d0 d1
        refine wp_region_still_tail 10 (by kernel_rfl) (by kernel_rfl) ?_
        simp only [List.take_succ_cons, List.take_zero, List.drop_succ_cons, List.drop_zero]
        change wpStill Try.prog _ (World.drew w2) (fun a' => wpList Try.prog _ _ _ a' (World.drew w2)) _ _
        repeat still_step
        refine wpStill_nil ?_
        go_wp2_with (first | (at_mapUpdate; refine wpList_mapUpdate_own _ rfl _ _ _ 62 rfl 9 3 law Try.underlying62 _ (ms k) L D rfl hD.drew (by unfold maxLen; omega) _ _ _ rfl rfl hkey.out _ [] (plainElem_int Try.underlying3 (WalkArith.wf_i64 (by omega))) ?_))
        intro w3 hD3 hg3
        have hRm : some R ≠ some (ms k) := fun e => map_ne hA hm1 (Option.some.inj e)
        have m3 : Mod (fun x => x = ms k) w2 w3 := ⟨hg3.os, hg3.tape, hg3.output, hg3.size, fun b hb hs => hg3.block b hb (fun e => hs (Option.some.inj e))⟩
        have hA3 : At w3 R (.cells (arr.setIfInBounds (k * 3) (.string key)) 64 (0, 0)) := hA2.mod m3 (fun e => hRm (congrArg some e))
        have g1 : w3.cell? ⟨R, k * 3 + 1, none⟩ = some (.slice A L cc) := (hA3.cell _).trans ((hA2.cell _).symm.trans e1)
        have g1f := hA3.free (k * 3 + 1)
        have hRl := hA3.lt
        have ho3 : w3.ownsRow B 9 1 (.slice A L cc) L ((bi bins k).map .string) := own_same ho1 (fun g hg => by
          obtain ⟨cur, hc⟩ := own_at ho1 hg
          rw [m3.block g (At.mod hc m2 (fun e => cells_ne hc hA (by decide) e)).lt (fun e => map_ne hc hm1 e), m2.block g hc.lt (fun e => cells_ne hc hA (by decide) e)])
        have hB3 : B ≤ w3.heap.size := by have := m.size; have := m2.size; have := m3.size; omega
        have HD3 := hid hD3
        clear hD3 e1 e2 hD f0 f1
        have hR1 : R < w3.heap.size + 1 := by omega
        go_wp2_with (first | (at_builtin; refine wpList_append_own_at _ rfl (.tmp 105) (.tmp 107) 38 rfl B 9 i0 (.string ByteArray.empty) 1 16 Try.underlying38 hi0' hz0 hz1 hz2 rfl (by decide) (.slice A L cc) L ((bi bins k).map .string) rfl (ho3.alloc _) ⟨w3.heap.size, 0, none⟩ 1 1 [.string it] rfl rfl ?c1 ?c2 ?c3 ?c4 ?c5 ?_))
        case c1 =>
          intro j u hj
          match j, hj with
          | 0, hj => simp at hj; subst hj; simp [Addr.add]
        case c2 => intro u hu; simp at hu; subst hu; rfl
        case c3 => unfold maxLen; omega
        case c4 => omega
        case c5 => simp; omega
        rotate_left
        intro v' w4 hown4 hg4 _ hat4
        obtain ⟨A4, c4, rfl⟩ := own_val hown4
        have hA3a := hA3.alloc (.cells #[.string it] 9)
        have hRo : some R ≠ (Value.slice A L cc).ownBlock := own_ne ho3 hA3 (by decide)
        have hA4 : At w4 R (.cells (arr.setIfInBounds (k * 3) (.string key)) 64 (0, 0)) := by
          unfold At
          rw [hg4.block _ hA3a.lt hRo]
          exact hA3a
        have s1 : w4.cell? ⟨R, k * 3 + 1, none⟩ = some (.slice A L cc) := (hA4.cell _).trans ((hA3.cell _).symm.trans g1)
        have s1f := hA4.free (k * 3 + 1)
        have hR4 := hA4.lt
        clear g1 g1f hR1 hRl
        go_wp2_with fail
        go_ret2
        have m34 : Mod (fun x => x = R ∨ (Value.slice A L cc).ownBlock = some x) w3 w4 := ((Mod.refl _ w3).alloc (.cells #[.string it] 9)).trans' (T := fun x => (Value.slice A L cc).ownBlock = some x) ⟨hg4.os, hg4.tape, hg4.output, hg4.size, fun b hb hs => hg4.block b hb (fun e => hs e.symm)⟩ (fun _ _ h => .inr h)
        have m3f := m34.put (p := ⟨R, k * 3 + 1, none⟩) (.slice A4 (L + 1) c4) (fun _ => .inl rfl)
        have hMap3 : MapAt w3 (ms k) (bi bins k ++ [it]) := MapAt.put hit HDw.out Hsz.out Hhas.out (by rw [HL.out]; exact HD3.out) hnin
        have hMapf := hMap3.mod m3f (fun e => by
          rcases e with e | e
          · exact map_ne hA3 hMap3 e.symm
          · obtain ⟨cur, hc⟩ := own_at ho3 e
            exact map_ne hc hMap3 rfl)
        have hAf := hA4.put (k * 3 + 1) (.slice A4 (L + 1) c4)
        have hof := ownsRow_setCell_far (a := ⟨R, k * 3 + 1, none⟩) hown4 (fun g hg e => own_ne hown4 hA4 (by decide) (by have e' : g = R := e; rw [hg, e'])) (.slice A4 (L + 1) c4)
        have hmod : Mod (fun x => x = R ∨ x = ms k ∨ (vs k).ownBlock = some x) wr _ := ((m2.mono (fun _ _ e => .inl e)).trans' m3 (fun _ _ e => .inr (.inl e))).trans' m3f (fun x _ e => by
          rcases e with e | e
          · exact .inl e
          · exact .inr (.inr (by rw [Hv.out, HL.out]; exact e)))
        obtain ⟨p0, p1, p2⟩ := Hp.out k hnk
        have hsz : ∀ {j : Nat} {v : Value}, arr[j]? = some v → j < arr.size := fun h => (Array.getElem?_eq_some_iff.1 h).1
        have z0 := hsz p0
        have z1 := hsz p1
        have hlen : (bi bins k ++ [it]).length = L + 1 := by simp [HL.out]
        obtain ⟨h5, m5⟩ := H1.out.change hnk (k' := key) (L := bi bins k ++ [it]) (v' := .slice A4 (L + 1) c4) hmod hA hAf (by simp [Array.getElem?_setIfInBounds, z0]) (by simp [Array.getElem?_setIfInBounds, z1]) (by simp [Array.getElem?_setIfInBounds]) (fun j j0 j1 j2 => by simp [Array.getElem?_setIfInBounds, Ne.symm j0, Ne.symm j1]) (by rw [hlen]; simpa using hof) hMapf (by
          rcases hat4 with q | q
          · exact .inr (.inl (by rw [q, Hv.out, HL.out]))
          · refine .inr (.inr ⟨_, q, ?_⟩)
            have := m2.size
            have := m3.size
            simp
            omega)
        exact ⟨fun h => absurd h Hn.out, fun _ h => by have := HTo.out; omega, fun _ k' hk' => by
          obtain rfl : k' = k := by have := HTo.out; omega
          exact ⟨rfl, ⟨_, _, _, _, h5⟩, (MT.of0 m).trans m5, (m.mono (fun _ _ q => q.elim)).trans hmod⟩⟩
end Go.Proofs.Ytdipncjbobhbjaa
