/- Put and Take once more, with the blocks that they turn. -/
import Derived.Test.YtdipncjbobhbjaaRef6
namespace Go.Proofs.Ytdipncjbobhbjaa
open Go.RowKit Go.Maps
set_option linter.unusedVariables false
set_option linter.unusedSimpArgs false

/-- What Put answers. -/
structure PutPost2 (B : Nat) (w : World) (s : Nat) (cap : Int) (bins : List Bin) (R : Nat) (vs : Nat → Value) (ms : Nat → Nat) (key it : ByteArray) (e : Ending) (w' : World) : Prop where
  exists_ : hasIt bins it → e = .returned (.tuple #[.int .i64 0, .int .i64 7]) ∧ Mod (fun _ => False) w w'
  full : ¬ hasIt bins it → toOf cap bins key < 0 → e = .returned (.tuple #[.int .i64 0, .int .i64 12]) ∧ Mod (fun _ => False) w w'
  ok : ¬ hasIt bins it → ∀ k : Nat, toOf cap bins key = k → e = .returned (.tuple #[.int .i64 (k : Int), .int .i64 0]) ∧ (∃ c' vs', SIn B w' s cap (bins.set k (key, bi bins k ++ [it])) R c' vs' ms ∧ ∀ i g, i < bins.length → (vs' i).ownBlock = some g → (vs i).ownBlock = some g ∨ w.heap.size ≤ g) ∧ MT B w w' ∧ Mod (fun x => x = R ∨ x = ms k ∨ (vs k).ownBlock = some x) w w'

set_option maxHeartbeats 1600000 in
theorem put_c2 {B : Nat} {s : Nat} {cap : Int} {bins : List Bin} {R c : Nat} {vs : Nat → Value} {ms : Nat → Nat} (key it : ByteArray) (w : World) (h : SIn B w s cap bins R c vs ms) (hf : Fits cap bins) (hB : B ≤ w.heap.size) (hk0 : key.toList ≠ []) (hi0 : it.toList ≠ []) (hit : it.size ≤ maxLen) :
    Calls Try.prog 12 #[.pointer (some ⟨s, 0, none⟩), .string key, .string it] w fun e w' => PutPost2 B w s cap bins R vs ms key it e w' := by
  have hn := hf.n2
  have HF := hid hf
  obtain ⟨c0, c1⟩ := At.two h.hs
  have H := hid h
  have hke : key.toList.isEmpty = false := by simpa using hk0
  have hie : it.toList.isEmpty = false := by simpa using hi0
  have hkey := hid (keyS hit)
  obtain ⟨i0, hi0', hz0, hz1, hz2⟩ := info_parts info9
  clear h hf hk0 hi0
  go_enter Try.func12, Try.ntmps12
  go_wp2_with fail
  go_loopw [28, 8, 9] (fun s28 s8 s9 wr => ∃ i : Nat, i ≤ bins.length ∧ s28 = .int .i64 i ∧ s8 = .int .i64 (first (vacant bins) i) ∧ s9 = .int .i64 (first (fitTo cap bins key) i) ∧ Hid (∀ j, j < i → it ∉ bi bins j) ∧ Mod (fun _ => False) w wr)
    (fun s28 _ _ _ => bins.length - (intOf s28).toNat)
  case atStart => exact ⟨0, by omega, rfl, rfl, rfl, fun j hj => by omega, Mod.refl _ _⟩
  case round =>
    obtain ⟨i, hi, rfl, rfl, rfl, hno, m⟩ := hrel
    by_cases hlt : i < bins.length
    · have h1 := H.out.mod0 m
      obtain ⟨A, cc, _, r0, r1, r2⟩ := h1.row hlt
      obtain ⟨d0, d1⟩ := At.two h1.hs
      have hl := HF.out.len32 i hlt
      have hsl := h1.hs.lt
      have H1 := hid h1
      obtain ⟨D, hD, hsz, hhas⟩ := h1.hm i hlt
      have hhas := hhas it hit
      generalize hL : (bi bins i).length = L at r1 hl hD
      have HL := hid hL
      generalize hK : bk bins i = K at r0
      have HK := hid hK
      have HE := hid (first_bound (vacant bins) i)
      have HT := hid (first_bound (fitTo cap bins key) i)
      generalize hE : first (vacant bins) i = E at HE
      generalize hT : first (fitTo cap bins key) i = T at HT
      have HEe := hid hE
      have HTe := hid hT
      clear h1 c0 c1 hL hK hE hT
      by_cases hin : it ∈ bi bins i
      · have hq : Maps.has D (.string it.data.toList) = true := hhas.2 hin
        clear hhas
        go_wp2_with (first | (at_lookup; refine wpList_lookup_own_ok_int _ rfl _ _ 62 rfl 9 3 .i64 law Try.underlying62 Try.underlying3 (zero3 _) (ms i) L D rfl (hD.alloc _) _ _ rfl hkey.out ?_; intro c hat hwc))
        go_ret2
        exact ⟨fun _ => ⟨rfl, m.alloc _⟩, fun h => absurd ⟨i, hlt, hin⟩ h, fun h => absurd ⟨i, hlt, hin⟩ h⟩
      · have hq : Maps.has D (.string it.data.toList) = false := by
          rw [Bool.eq_false_iff]
          exact fun q => hin (hhas.1 q)
        clear hhas
        rcases Nat.eq_zero_or_pos L with rfl | hpos
        · by_cases hEn : E < 0
          · skip
            go_wp2_with (first | (at_lookup; refine wpList_lookup_own_ok_int _ rfl _ _ 62 rfl 9 3 .i64 law Try.underlying62 Try.underlying3 (zero3 _) (ms i) 0 D rfl (hD.alloc _) _ _ rfl hkey.out ?_; intro c hat hwc))
            go_quiet (fail)
            go_wp2_with fail
            go_roundw
            case rel =>
              refine ⟨i + 1, by omega, by go_num, ?_, ?_, fun j hj => ?_, (m.alloc _).drewN _⟩
              · rw [first_succ_yes (by rw [HEe.out]; exact hEn) (by simp [vacant, HL.out])]
              · rw [first_succ_no (Or.inr (by simp [fitTo, HL.out, HK.out])), HTe.out]
              · rcases Nat.lt_succ_iff_lt_or_eq.1 hj with q | rfl
                · exact hno.out j q
                · exact hin
            case measure => simp [intOf]; omega
          · skip
            go_wp2_with (first | (at_lookup; refine wpList_lookup_own_ok_int _ rfl _ _ 62 rfl 9 3 .i64 law Try.underlying62 Try.underlying3 (zero3 _) (ms i) 0 D rfl (hD.alloc _) _ _ rfl hkey.out ?_; intro c hat hwc))
            go_quiet (fail)
            go_wp2_with fail
            go_roundw
            case rel =>
              refine ⟨i + 1, by omega, by go_num, ?_, ?_, fun j hj => ?_, (m.alloc _).drewN _⟩
              · rw [first_succ_no (Or.inl (by rw [HEe.out]; omega)), HEe.out]
              · rw [first_succ_no (Or.inr (by simp [fitTo, HL.out, HK.out])), HTe.out]
              · rcases Nat.lt_succ_iff_lt_or_eq.1 hj with q | rfl
                · exact hno.out j q
                · exact hin
            case measure => simp [intOf]; omega
        · have hL0 : ¬ (L : Int) = 0 := by omega
          have hL1 : (0 : Int) < L := by omega
          by_cases hKe : K = key
          · have hks := seq_true hKe
            by_cases hLc : (L : Int) < cap
            · by_cases hTn : T < 0
              · skip
                go_wp2_with (first | (at_lookup; refine wpList_lookup_own_ok_int _ rfl _ _ 62 rfl 9 3 .i64 law Try.underlying62 Try.underlying3 (zero3 _) (ms i) L D rfl (hD.alloc _) _ _ rfl hkey.out ?_; intro c hat hwc))
                go_quiet (fail)
                go_wp2_with fail
                go_roundw
                case rel =>
                  refine ⟨i + 1, by omega, by go_num, ?_, ?_, fun j hj => ?_, (m.alloc _).drewN _⟩
                  · rw [first_succ_no (Or.inr (by simp [vacant, HL.out]; omega)), HEe.out]
                  · rw [first_succ_yes (by rw [HTe.out]; exact hTn) (by simp [fitTo, HL.out, HK.out, hKe]; omega)]
                  · rcases Nat.lt_succ_iff_lt_or_eq.1 hj with q | rfl
                    · exact hno.out j q
                    · exact hin
                case measure => simp [intOf]; omega
              · skip
                go_wp2_with (first | (at_lookup; refine wpList_lookup_own_ok_int _ rfl _ _ 62 rfl 9 3 .i64 law Try.underlying62 Try.underlying3 (zero3 _) (ms i) L D rfl (hD.alloc _) _ _ rfl hkey.out ?_; intro c hat hwc))
                go_quiet (fail)
                go_wp2_with fail
                go_roundw
                case rel =>
                  refine ⟨i + 1, by omega, by go_num, ?_, ?_, fun j hj => ?_, (m.alloc _).drewN _⟩
                  · rw [first_succ_no (Or.inr (by simp [vacant, HL.out]; omega)), HEe.out]
                  · rw [first_succ_no (Or.inl (by rw [HTe.out]; omega)), HTe.out]
                  · rcases Nat.lt_succ_iff_lt_or_eq.1 hj with q | rfl
                    · exact hno.out j q
                    · exact hin
                case measure => simp [intOf]; omega
            · skip
              go_wp2_with (first | (at_lookup; refine wpList_lookup_own_ok_int _ rfl _ _ 62 rfl 9 3 .i64 law Try.underlying62 Try.underlying3 (zero3 _) (ms i) L D rfl (hD.alloc _) _ _ rfl hkey.out ?_; intro c hat hwc))
              have hLd : decide ((L : Int) < cap) = false := by simp; omega
              go_quiet (fail)
              go_wp2_with fail
              go_roundw
              case rel =>
                refine ⟨i + 1, by omega, by go_num, ?_, ?_, fun j hj => ?_, (m.alloc _).drewN _⟩
                · rw [first_succ_no (Or.inr (by simp [vacant, HL.out]; omega)), HEe.out]
                · rw [first_succ_no (Or.inr (by simp [fitTo, HL.out, HK.out, hLc])), HTe.out]
                · rcases Nat.lt_succ_iff_lt_or_eq.1 hj with q | rfl
                  · exact hno.out j q
                  · exact hin
              case measure => simp [intOf]; omega
          · have hks := seq_false hKe
            go_wp2_with (first | (at_lookup; refine wpList_lookup_own_ok_int _ rfl _ _ 62 rfl 9 3 .i64 law Try.underlying62 Try.underlying3 (zero3 _) (ms i) L D rfl (hD.alloc _) _ _ rfl hkey.out ?_; intro c hat hwc))
            go_quiet (fail)
            go_wp2_with fail
            go_roundw
            case rel =>
              refine ⟨i + 1, by omega, by go_num, ?_, ?_, fun j hj => ?_, (m.alloc _).drewN _⟩
              · rw [first_succ_no (Or.inr (by simp [vacant, HL.out]; omega)), HEe.out]
              · rw [first_succ_no (Or.inr (by simp [fitTo, HL.out, HK.out, hKe])), HTe.out]
              · rcases Nat.lt_succ_iff_lt_or_eq.1 hj with q | rfl
                · exact hno.out j q
                · exact hin
            case measure => simp [intOf]; omega
    · obtain rfl : i = bins.length := by omega
      have Hn : Hid (¬ hasIt bins it) := fun ⟨j, hj, q⟩ => hno.out j hj q
      have h1 := H.out.mod0 m
      obtain ⟨d0, d1⟩ := At.two h1.hs
      have HE := hid (first_bound (vacant bins) bins.length)
      have HT := hid (first_bound (fitTo cap bins key) bins.length)
      have hTo : toOf cap bins key = if first (fitTo cap bins key) bins.length < 0 then first (vacant bins) bins.length else first (fitTo cap bins key) bins.length := rfl
      generalize first (vacant bins) bins.length = E at HE hTo
      generalize first (fitTo cap bins key) bins.length = T at HT hTo
      have hE := HE.out
      have hT := HT.out
      by_cases hTn : T < 0
      · rw [if_pos hTn] at hTo
        by_cases hEn : E < 0
        · have HTo := hid hTo
          clear hTo hE hT h1
          go_wp2_with fail
          go_ret2
          exact ⟨fun h => absurd h Hn.out, fun _ _ => ⟨rfl, m⟩, fun _ k hk => by have := HTo.out; omega⟩
        · obtain ⟨k, rfl⟩ := Int.eq_ofNat_of_zero_le (show 0 ≤ E by omega)
          have HTo := hid hTo
          have hEk : (k : Int) < bins.length := hE.2.1
          have hTn' := hid hTn
          clear hTo hE hT HE HT hEn
          have hnk : k < bins.length := by omega
          have hnin : it ∉ bi bins k := fun q => Hn.out ⟨k, hnk, q⟩
          obtain ⟨A, cc, hv, r0, r1, r2⟩ := h1.row hnk
          have Hv := hid hv
          have hl := HF.out.len32 k hnk
          have ho1 := h1.ho k hnk
          have hm1 := h1.hm k hnk
          obtain ⟨arr, hA, hp⟩ := h1.hR
          have Hp := hid hp
          have f0 := hA.free (k * 3)
          have f1 := hA.free (k * 3 + 1)
          have hlt := hA.lt
          have hA2 := hA.put (k * 3) (.string key)
          have hkk : (k : Int) < bins.length := by omega
          rw [hv] at ho1
          generalize hL : (bi bins k).length = L at r1 hl ho1 hv
          have HL := hid hL
          have H1 := hid h1
          have hT0 : ¬ (k : Int) < 0 := by omega
          clear h1 c0 c1 hp hL hv
          go_wp2_with fail
          obtain ⟨w2, hw2⟩ : ∃ w2 : World, w2 = wr.setCell ⟨R, k * 3, none⟩ (.string key) := ⟨_, rfl⟩
          rw [← hw2]
          rw [← hw2] at hA2
          have m2 : Mod (fun x => x = R) wr w2 := by rw [hw2]; exact (Mod.refl _ _).here _ _
          have e1 : w2.cell? ⟨R, k * 3 + 1, none⟩ = some (.slice A L cc) := arr_cell hA2 (by have := (Hp.out k hnk).2.1; rw [Hv.out, HL.out] at this; simpa [Array.getElem?_setIfInBounds] using this)
          have e2 : w2.cell? ⟨R, k * 3 + 2, none⟩ = some (.map (some (ms k))) := arr_cell hA2 (by simpa [Array.getElem?_setIfInBounds] using (Hp.out k hnk).2.2)
          obtain ⟨D, hD, hsz, hhas⟩ := hm1.mod m2 (fun e => map_ne hA hm1 e.symm)
          have HDw := hid hD
          rw [HL.out] at hD
          have Hhas := hid hhas
          have Hsz := hid hsz
          clear hhas hsz
          have Hw2 := hid hw2
          clear hw2 r0 r1 r2 d0 d1
          refine wp_region_still_tail 10 (by kernel_rfl) (by kernel_rfl) ?_
          simp only [List.take_succ_cons, List.take_zero, List.drop_succ_cons, List.drop_zero]
          change wpStill Try.prog _ (World.drew w2) (fun a' => wpList Try.prog _ _ _ a' (World.drew w2)) _ _
          repeat still_step
          refine wpStill_nil ?_
          go_wp2_with (first | (at_mapUpdate; refine wpList_mapUpdate_own _ rfl _ _ _ 62 rfl 9 3 law Try.underlying62 _ (ms k) L D rfl hD.drew (by unfold maxLen; omega) _ _ _ rfl rfl hkey.out _ [] (plainElem_int Try.underlying3 (WalkArith.wf_i64 (by omega))) ?_))
          intro w3 hD3 hg3
          have hRm : some R ≠ some (ms k) := fun e => map_ne hA hm1 (Option.some.inj e)
          have m3 : Mod (fun x => x = ms k) w2 w3 := ⟨hg3.os, hg3.tape, hg3.output, hg3.size, fun b hb hs => hg3.block b hb (fun e => hs (Option.some.inj e))⟩
          have hA3 : At w3 R (.cells (arr.setIfInBounds (k * 3) (.string key)) 64 (0, 0)) := hA2.mod m3 (fun e => hRm (congrArg some e))
          have g1 : w3.cell? ⟨R, k * 3 + 1, none⟩ = some (.slice A L cc) := (hA3.cell _).trans ((hA2.cell _).symm.trans e1)
          have g1f := hA3.free (k * 3 + 1)
          have hRl := hA3.lt
          have ho3 : w3.ownsRow B 9 1 (.slice A L cc) L ((bi bins k).map .string) := own_same ho1 (fun g hg => by
            obtain ⟨cur, hc⟩ := own_at ho1 hg
            rw [m3.block g (At.mod hc m2 (fun e => cells_ne hc hA (by decide) e)).lt (fun e => map_ne hc hm1 e), m2.block g hc.lt (fun e => cells_ne hc hA (by decide) e)])
          have hB3 : B ≤ w3.heap.size := by have := m.size; have := m2.size; have := m3.size; omega
          have HD3 := hid hD3
          clear hD3 e1 e2 hD f0 f1
          have hR1 : R < w3.heap.size + 1 := by omega
          go_wp2_with (first | (at_builtin; refine wpList_append_own_at _ rfl (.tmp 105) (.tmp 107) 38 rfl B 9 i0 (.string ByteArray.empty) 1 16 Try.underlying38 hi0' hz0 hz1 hz2 rfl (by decide) (.slice A L cc) L ((bi bins k).map .string) rfl (ho3.alloc _) ⟨w3.heap.size, 0, none⟩ 1 1 [.string it] rfl rfl ?c1 ?c2 ?c3 ?c4 ?c5 ?_))
          case c1 =>
            intro j u hj
            match j, hj with
            | 0, hj => simp at hj; subst hj; simp [Addr.add]
          case c2 => intro u hu; simp at hu; subst hu; rfl
          case c3 => unfold maxLen; omega
          case c4 => omega
          case c5 => simp; omega
          rotate_left
          intro v' w4 hown4 hg4 _ hat4
          obtain ⟨A4, c4, rfl⟩ := own_val hown4
          have hA3a := hA3.alloc (.cells #[.string it] 9)
          have hRo : some R ≠ (Value.slice A L cc).ownBlock := own_ne ho3 hA3 (by decide)
          have hA4 : At w4 R (.cells (arr.setIfInBounds (k * 3) (.string key)) 64 (0, 0)) := by
            unfold At
            rw [hg4.block _ hA3a.lt hRo]
            exact hA3a
          have s1 : w4.cell? ⟨R, k * 3 + 1, none⟩ = some (.slice A L cc) := (hA4.cell _).trans ((hA3.cell _).symm.trans g1)
          have s1f := hA4.free (k * 3 + 1)
          have hR4 := hA4.lt
          clear g1 g1f hR1 hRl
          go_wp2_with fail
          go_ret2
          have m34 : Mod (fun x => x = R ∨ (Value.slice A L cc).ownBlock = some x) w3 w4 := ((Mod.refl _ w3).alloc (.cells #[.string it] 9)).trans' (T := fun x => (Value.slice A L cc).ownBlock = some x) ⟨hg4.os, hg4.tape, hg4.output, hg4.size, fun b hb hs => hg4.block b hb (fun e => hs e.symm)⟩ (fun _ _ h => .inr h)
          have m3f := m34.put (p := ⟨R, k * 3 + 1, none⟩) (.slice A4 (L + 1) c4) (fun _ => .inl rfl)
          have hMap3 : MapAt w3 (ms k) (bi bins k ++ [it]) := MapAt.put hit HDw.out Hsz.out Hhas.out (by rw [HL.out]; exact HD3.out) hnin
          have hMapf := hMap3.mod m3f (fun e => by
            rcases e with e | e
            · exact map_ne hA3 hMap3 e.symm
            · obtain ⟨cur, hc⟩ := own_at ho3 e
              exact map_ne hc hMap3 rfl)
          have hAf := hA4.put (k * 3 + 1) (.slice A4 (L + 1) c4)
          have hof := ownsRow_setCell_far (a := ⟨R, k * 3 + 1, none⟩) hown4 (fun g hg e => own_ne hown4 hA4 (by decide) (by have e' : g = R := e; rw [hg, e'])) (.slice A4 (L + 1) c4)
          have hmod : Mod (fun x => x = R ∨ x = ms k ∨ (vs k).ownBlock = some x) wr _ := ((m2.mono (fun _ _ e => .inl e)).trans' m3 (fun _ _ e => .inr (.inl e))).trans' m3f (fun x _ e => by
            rcases e with e | e
            · exact .inl e
            · exact .inr (.inr (by rw [Hv.out, HL.out]; exact e)))
          obtain ⟨p0, p1, p2⟩ := Hp.out k hnk
          have hsz : ∀ {j : Nat} {v : Value}, arr[j]? = some v → j < arr.size := fun h => (Array.getElem?_eq_some_iff.1 h).1
          have z0 := hsz p0
          have z1 := hsz p1
          have hlen : (bi bins k ++ [it]).length = L + 1 := by simp [HL.out]
          obtain ⟨h5, m5⟩ := H1.out.change hnk (k' := key) (L := bi bins k ++ [it]) (v' := .slice A4 (L + 1) c4) hmod hA hAf (by simp [Array.getElem?_setIfInBounds, z0]) (by simp [Array.getElem?_setIfInBounds, z1]) (by simp [Array.getElem?_setIfInBounds]) (fun j j0 j1 j2 => by simp [Array.getElem?_setIfInBounds, Ne.symm j0, Ne.symm j1]) (by rw [hlen]; simpa using hof) hMapf (by
            rcases hat4 with q | q
            · exact .inr (.inl (by rw [q, Hv.out, HL.out]))
            · refine .inr (.inr ⟨_, q, ?_⟩)
              have := m2.size
              have := m3.size
              simp
              omega)
          exact ⟨fun h => absurd h Hn.out, fun _ h => by have := HTo.out; omega, fun _ k' hk' => by
            obtain rfl : k' = k := by have := HTo.out; omega
            refine ⟨rfl, ⟨_, _, h5, fun i g hi hg => ?_⟩, (MT.of0 m).trans m5, (m.mono (fun _ _ q => q.elim)).trans hmod⟩
            by_cases e : i = k'
            · subst e
              simp only [if_true] at hg
              rcases hat4 with q | q
              · exact .inl (by rw [Hv.out, HL.out, ← q]; exact hg)
              · refine .inr ?_
                rw [q] at hg
                have := Option.some.inj hg
                have := m.size
                have := m2.size
                have := m3.size
                simp at *
                omega
            · simp only [if_neg e] at hg
              exact .inl hg⟩
      · rw [if_neg hTn] at hTo
        obtain ⟨k, rfl⟩ := Int.eq_ofNat_of_zero_le (show 0 ≤ T by omega)
        have HTo := hid hTo
        have hEk : (k : Int) < bins.length := hT.2.1
        clear hTo hE hT HE HT hTn
        have hnk : k < bins.length := by omega
        have hnin : it ∉ bi bins k := fun q => Hn.out ⟨k, hnk, q⟩
        obtain ⟨A, cc, hv, r0, r1, r2⟩ := h1.row hnk
        have Hv := hid hv
        have hl := HF.out.len32 k hnk
        have ho1 := h1.ho k hnk
        have hm1 := h1.hm k hnk
        obtain ⟨arr, hA, hp⟩ := h1.hR
        have Hp := hid hp
        have f0 := hA.free (k * 3)
        have f1 := hA.free (k * 3 + 1)
        have hlt := hA.lt
        have hA2 := hA.put (k * 3) (.string key)
        have hkk : (k : Int) < bins.length := by omega
        rw [hv] at ho1
        generalize hL : (bi bins k).length = L at r1 hl ho1 hv
        have HL := hid hL
        have H1 := hid h1
        have hT0 : ¬ (k : Int) < 0 := by omega
        clear h1 c0 c1 hp hL hv
        go_wp2_with fail
        obtain ⟨w2, hw2⟩ : ∃ w2 : World, w2 = wr.setCell ⟨R, k * 3, none⟩ (.string key) := ⟨_, rfl⟩
        rw [← hw2]
        rw [← hw2] at hA2
        have m2 : Mod (fun x => x = R) wr w2 := by rw [hw2]; exact (Mod.refl _ _).here _ _
        have e1 : w2.cell? ⟨R, k * 3 + 1, none⟩ = some (.slice A L cc) := arr_cell hA2 (by have := (Hp.out k hnk).2.1; rw [Hv.out, HL.out] at this; simpa [Array.getElem?_setIfInBounds] using this)
        have e2 : w2.cell? ⟨R, k * 3 + 2, none⟩ = some (.map (some (ms k))) := arr_cell hA2 (by simpa [Array.getElem?_setIfInBounds] using (Hp.out k hnk).2.2)
        obtain ⟨D, hD, hsz, hhas⟩ := hm1.mod m2 (fun e => map_ne hA hm1 e.symm)
        have HDw := hid hD
        rw [HL.out] at hD
        have Hhas := hid hhas
        have Hsz := hid hsz
        clear hhas hsz
        have Hw2 := hid hw2
        clear hw2 r0 r1 r2 d0 d1
        refine wp_region_still_tail 10 (by kernel_rfl) (by kernel_rfl) ?_
        simp only [List.take_succ_cons, List.take_zero, List.drop_succ_cons, List.drop_zero]
        change wpStill Try.prog _ (World.drew w2) (fun a' => wpList Try.prog _ _ _ a' (World.drew w2)) _ _
        repeat still_step
        refine wpStill_nil ?_
        go_wp2_with (first | (at_mapUpdate; refine wpList_mapUpdate_own _ rfl _ _ _ 62 rfl 9 3 law Try.underlying62 _ (ms k) L D rfl hD.drew (by unfold maxLen; omega) _ _ _ rfl rfl hkey.out _ [] (plainElem_int Try.underlying3 (WalkArith.wf_i64 (by omega))) ?_))
        intro w3 hD3 hg3
        have hRm : some R ≠ some (ms k) := fun e => map_ne hA hm1 (Option.some.inj e)
        have m3 : Mod (fun x => x = ms k) w2 w3 := ⟨hg3.os, hg3.tape, hg3.output, hg3.size, fun b hb hs => hg3.block b hb (fun e => hs (Option.some.inj e))⟩
        have hA3 : At w3 R (.cells (arr.setIfInBounds (k * 3) (.string key)) 64 (0, 0)) := hA2.mod m3 (fun e => hRm (congrArg some e))
        have g1 : w3.cell? ⟨R, k * 3 + 1, none⟩ = some (.slice A L cc) := (hA3.cell _).trans ((hA2.cell _).symm.trans e1)
        have g1f := hA3.free (k * 3 + 1)
        have hRl := hA3.lt
        have ho3 : w3.ownsRow B 9 1 (.slice A L cc) L ((bi bins k).map .string) := own_same ho1 (fun g hg => by
          obtain ⟨cur, hc⟩ := own_at ho1 hg
          rw [m3.block g (At.mod hc m2 (fun e => cells_ne hc hA (by decide) e)).lt (fun e => map_ne hc hm1 e), m2.block g hc.lt (fun e => cells_ne hc hA (by decide) e)])
        have hB3 : B ≤ w3.heap.size := by have := m.size; have := m2.size; have := m3.size; omega
        have HD3 := hid hD3
        clear hD3 e1 e2 hD f0 f1
        have hR1 : R < w3.heap.size + 1 := by omega
        go_wp2_with (first | (at_builtin; refine wpList_append_own_at _ rfl (.tmp 105) (.tmp 107) 38 rfl B 9 i0 (.string ByteArray.empty) 1 16 Try.underlying38 hi0' hz0 hz1 hz2 rfl (by decide) (.slice A L cc) L ((bi bins k).map .string) rfl (ho3.alloc _) ⟨w3.heap.size, 0, none⟩ 1 1 [.string it] rfl rfl ?c1 ?c2 ?c3 ?c4 ?c5 ?_))
        case c1 =>
          intro j u hj
          match j, hj with
          | 0, hj => simp at hj; subst hj; simp [Addr.add]
        case c2 => intro u hu; simp at hu; subst hu; rfl
        case c3 => unfold maxLen; omega
        case c4 => omega
        case c5 => simp; omega
        rotate_left
        intro v' w4 hown4 hg4 _ hat4
        obtain ⟨A4, c4, rfl⟩ := own_val hown4
        have hA3a := hA3.alloc (.cells #[.string it] 9)
        have hRo : some R ≠ (Value.slice A L cc).ownBlock := own_ne ho3 hA3 (by decide)
        have hA4 : At w4 R (.cells (arr.setIfInBounds (k * 3) (.string key)) 64 (0, 0)) := by
          unfold At
          rw [hg4.block _ hA3a.lt hRo]
          exact hA3a
        have s1 : w4.cell? ⟨R, k * 3 + 1, none⟩ = some (.slice A L cc) := (hA4.cell _).trans ((hA3.cell _).symm.trans g1)
        have s1f := hA4.free (k * 3 + 1)
        have hR4 := hA4.lt
        clear g1 g1f hR1 hRl
        go_wp2_with fail
        go_ret2
        have m34 : Mod (fun x => x = R ∨ (Value.slice A L cc).ownBlock = some x) w3 w4 := ((Mod.refl _ w3).alloc (.cells #[.string it] 9)).trans' (T := fun x => (Value.slice A L cc).ownBlock = some x) ⟨hg4.os, hg4.tape, hg4.output, hg4.size, fun b hb hs => hg4.block b hb (fun e => hs e.symm)⟩ (fun _ _ h => .inr h)
        have m3f := m34.put (p := ⟨R, k * 3 + 1, none⟩) (.slice A4 (L + 1) c4) (fun _ => .inl rfl)
        have hMap3 : MapAt w3 (ms k) (bi bins k ++ [it]) := MapAt.put hit HDw.out Hsz.out Hhas.out (by rw [HL.out]; exact HD3.out) hnin
        have hMapf := hMap3.mod m3f (fun e => by
          rcases e with e | e
          · exact map_ne hA3 hMap3 e.symm
          · obtain ⟨cur, hc⟩ := own_at ho3 e
            exact map_ne hc hMap3 rfl)
        have hAf := hA4.put (k * 3 + 1) (.slice A4 (L + 1) c4)
        have hof := ownsRow_setCell_far (a := ⟨R, k * 3 + 1, none⟩) hown4 (fun g hg e => own_ne hown4 hA4 (by decide) (by have e' : g = R := e; rw [hg, e'])) (.slice A4 (L + 1) c4)
        have hmod : Mod (fun x => x = R ∨ x = ms k ∨ (vs k).ownBlock = some x) wr _ := ((m2.mono (fun _ _ e => .inl e)).trans' m3 (fun _ _ e => .inr (.inl e))).trans' m3f (fun x _ e => by
          rcases e with e | e
          · exact .inl e
          · exact .inr (.inr (by rw [Hv.out, HL.out]; exact e)))
        obtain ⟨p0, p1, p2⟩ := Hp.out k hnk
        have hsz : ∀ {j : Nat} {v : Value}, arr[j]? = some v → j < arr.size := fun h => (Array.getElem?_eq_some_iff.1 h).1
        have z0 := hsz p0
        have z1 := hsz p1
        have hlen : (bi bins k ++ [it]).length = L + 1 := by simp [HL.out]
        obtain ⟨h5, m5⟩ := H1.out.change hnk (k' := key) (L := bi bins k ++ [it]) (v' := .slice A4 (L + 1) c4) hmod hA hAf (by simp [Array.getElem?_setIfInBounds, z0]) (by simp [Array.getElem?_setIfInBounds, z1]) (by simp [Array.getElem?_setIfInBounds]) (fun j j0 j1 j2 => by simp [Array.getElem?_setIfInBounds, Ne.symm j0, Ne.symm j1]) (by rw [hlen]; simpa using hof) hMapf (by
          rcases hat4 with q | q
          · exact .inr (.inl (by rw [q, Hv.out, HL.out]))
          · refine .inr (.inr ⟨_, q, ?_⟩)
            have := m2.size
            have := m3.size
            simp
            omega)
        exact ⟨fun h => absurd h Hn.out, fun _ h => by have := HTo.out; omega, fun _ k' hk' => by
          obtain rfl : k' = k := by have := HTo.out; omega
          refine ⟨rfl, ⟨_, _, h5, fun i g hi hg => ?_⟩, (MT.of0 m).trans m5, (m.mono (fun _ _ q => q.elim)).trans hmod⟩
          by_cases e : i = k'
          · subst e
            simp only [if_true] at hg
            rcases hat4 with q | q
            · exact .inl (by rw [Hv.out, HL.out, ← q]; exact hg)
            · refine .inr ?_
              rw [q] at hg
              have := Option.some.inj hg
              have := m.size
              have := m2.size
              have := m3.size
              simp at *
              omega
          · simp only [if_neg e] at hg
            exact .inl hg⟩

theorem take_ok2 {B : Nat} {s : Nat} {cap : Int} {bins : List Bin} {R c0' : Nat} {vs : Nat → Value} {ms : Nat → Nat} (n : Nat) (w : World) (h : SIn B w s cap bins R c0' vs ms) (hf : Fits cap bins) (hn : n < bins.length) (he : bi bins n ≠ []) :
    Calls Try.prog 13 #[.pointer (some ⟨s, 0, none⟩), .int .i64 (n : Int)] w fun e w' => ∃ A c, e = .returned (.tuple #[.string (bk bins n), .slice A (bi bins n).length c, .int .i64 0]) ∧
      w'.ownsRow B 9 1 (.slice A (bi bins n).length c) (bi bins n).length ((bi bins n).map .string) ∧ (∃ c', SIn B w' s cap (bins.set n (ByteArray.empty, [])) R c' (fun j => if j = n then .slice none 0 0 else vs j) ms) ∧ MT B w w' ∧ Mod (fun k => k = R ∨ k = ms n ∨ (vs n).ownBlock = some k) w w' := by
  obtain ⟨c0, c1⟩ := At.two h.hs
  obtain ⟨A, cc, hv, r0, r1, r2⟩ := h.row hn
  have Hv := hid hv
  have H := hid h
  have hn0 : ¬ (n : Int) < 0 := by omega
  have hn1 : ¬ (bins.length : Int) ≤ n := by omega
  have hn2 : (n : Int) < bins.length := by omega
  have hl := hf.len32 n hn
  have hpos : 0 < (bi bins n).length := by
    rcases hx : bi bins n with _ | ⟨a, l⟩
    · exact absurd hx he
    · simp
  generalize hL : (bi bins n).length = L at r1 hl hpos hv
  have HL := hid hL
  have hL0 : ¬ (L : Int) = 0 := by omega
  generalize hK : bk bins n = K at r0
  have HK := hid hK
  clear h he hf hL hK hv
  go_enter Try.func13, Try.ntmps13
  go_wp2_with fail
  go_quiet (fail)
  obtain ⟨w2, hw2⟩ : ∃ w2 : World, w2 = w.drewN nq := ⟨_, rfl⟩
  rw [← hw2]
  have m2 : Mod (fun _ => False) w w2 := by rw [hw2]; exact (Mod.refl _ _).drewN _
  have h2 := H.out.mod0 m2
  obtain ⟨arr, hA, hp⟩ := h2.hR
  obtain ⟨p0, p1, p2⟩ := hp n hn
  have hA3 := (hA.put (n * 3) (.string { data := #[] })).put (n * 3 + 1) (.slice none 0 0)
  have f0 := hA.free (n * 3)
  have f1 := hA.free (n * 3 + 1)
  have f1' := (hA.put (n * 3) (.string { data := #[] })).free (n * 3 + 1)
  have q2' : ((w2.setCell ⟨R, n * 3, none⟩ (.string { data := #[] })).setCell ⟨R, n * 3 + 1, none⟩ (.slice none 0 0)).cell? ⟨R, n * 3 + 2, none⟩ = some (.map (some (ms n))) := arr_cell hA3 (by simpa [Array.getElem?_setIfInBounds] using p2)
  have q0 := arr_cell hA p0
  have q1 := arr_cell hA p1
  have q2 := arr_cell hA p2
  have hlt := hA.lt
  have mP : Mod (fun k => k = R) w2 ((w2.setCell ⟨R, n * 3, none⟩ (.string { data := #[] })).setCell ⟨R, n * 3 + 1, none⟩ (.slice none 0 0)) := ((Mod.refl _ _).here _ _).here _ _
  have hm3 : MapAt ((w2.setCell ⟨R, n * 3, none⟩ (.string { data := #[] })).setCell ⟨R, n * 3 + 1, none⟩ (.slice none 0 0)) (ms n) (bi bins n) := (h2.hm n hn).mod mP (fun e => map_ne hA (h2.hm n hn) e.symm)
  obtain ⟨w4, hcl, hm4, m4⟩ := run_clear hm3
  have Hm4 := hid hm4
  have Hcl := hid m4
  have H2 := hid h2
  have Hp := hid hp
  have hneq : n * 3 ≠ n * 3 + 1 := by omega
  clear r0 r1 r2 c0 c1 h2 hm3 hm4 m4 hw2 hp p0 p1 p2
  go_wp2_with fail
  go_ret3
  have hA4 : At w4 R (.cells ((arr.setIfInBounds (n * 3) (.string { data := #[] })).setIfInBounds (n * 3 + 1) (.slice none 0 0)) 64 (0, 0)) := hA3.mod Hcl.out (fun e => map_ne hA (H2.out.hm n hn) e)
  have hmod : Mod (fun k => k = R ∨ k = ms n ∨ (vs n).ownBlock = some k) w2 w4 := (mP.mono (fun _ _ e => .inl e)).trans' Hcl.out (fun _ _ e => .inr (.inl e))
  obtain ⟨p0, p1, p2⟩ := Hp.out n hn
  have hsz : ∀ {j : Nat} {v : Value}, arr[j]? = some v → j < arr.size := fun h => (Array.getElem?_eq_some_iff.1 h).1
  have z0 := hsz p0
  have z1 := hsz p1
  obtain ⟨h5, m5⟩ := H2.out.change hn (k' := ByteArray.empty) (L := []) (v' := .slice none 0 0) hmod hA hA4 (by simp [Array.getElem?_setIfInBounds, z0]; rfl) (by simp [Array.getElem?_setIfInBounds, z1]) (by simp [Array.getElem?_setIfInBounds]) (fun j j0 j1 j2 => by simp [Array.getElem?_setIfInBounds, Ne.symm j0, Ne.symm j1]) (World.ownsRow_nil _ _ _ _) Hm4.out (.inl rfl)
  refine ⟨A, cc, rfl, ?_, ⟨_, h5⟩, (MT.of0 m2).trans m5, (m2.mono (fun _ _ q => q.elim)).trans hmod⟩
  have ho := H2.out.ho n hn
  rw [Hv.out, HL.out] at ho
  refine own_same ho (fun g hg => ?_)
  obtain ⟨cur, hc⟩ := own_at ho hg
  rw [Hcl.out.block g (by simpa [World.setCell] using hc.lt) (fun e => map_ne hc (H2.out.hm n hn) e), mP.block g hc.lt (fun e => cells_ne hc hA (by decide) e)]

/-- A sorter whose blocks are all in F. -/
def SorterF (F : Nat → Prop) (B : Nat) (w : World) (s : Nat) (cap : Int) (bins : List Bin) : Prop :=
  ∃ R c vs ms, SIn B w s cap bins R c vs ms ∧ F s ∧ F R ∧ (∀ i, i < bins.length → F (ms i)) ∧ ∀ i g, i < bins.length → (vs i).ownBlock = some g → F g
theorem SorterF.at_ {F : Nat → Prop} {B : Nat} {w : World} {s : Nat} {cap : Int} {bins : List Bin} (h : SorterF F B w s cap bins) : SorterAt B w s cap bins := by
  obtain ⟨R, c, vs, ms, h, _⟩ := h
  exact ⟨R, c, vs, ms, h⟩
theorem SorterF.mono {F G : Nat → Prop} {B : Nat} {w : World} {s : Nat} {cap : Int} {bins : List Bin} (h : SorterF F B w s cap bins) (hG : ∀ k, B ≤ k → k < w.heap.size → F k → G k) : SorterF G B w s cap bins := by
  obtain ⟨R, c, vs, ms, h, h1, h2, h3, h4⟩ := h
  refine ⟨R, c, vs, ms, h, hG _ h.bs h.hs.lt h1, ?_, fun i hi => hG _ (h.bm i hi) (h.hm i hi).lt (h3 i hi), fun i g hi hg => ?_⟩
  · obtain ⟨arr, hR, _⟩ := h.hR
    exact hG _ h.bR hR.lt h2
  · obtain ⟨cur, hc⟩ := own_at (h.ho i hi) hg
    exact hG _ (own_base (h.ho i hi) hg) hc.lt (h4 i g hi hg)
theorem SorterF.mod0 {F : Nat → Prop} {B : Nat} {w w' : World} {s : Nat} {cap : Int} {bins : List Bin} (h : SorterF F B w s cap bins) (m : Mod (fun _ => False) w w') : SorterF F B w' s cap bins := by
  obtain ⟨R, c, vs, ms, h, h'⟩ := h
  exact ⟨R, c, vs, ms, h.mod0 m, h'⟩
theorem SorterF.start {B : Nat} {w : World} {s : Nat} {cap : Int} {bins : List Bin} (h : SorterAt B w s cap bins) : SorterF (fun k => B ≤ k ∧ k < w.heap.size) B w s cap bins := by
  obtain ⟨R, c, vs, ms, h⟩ := h
  obtain ⟨arr, hR, hp⟩ := h.hR
  refine ⟨R, c, vs, ms, h, ⟨h.bs, h.hs.lt⟩, ⟨h.bR, hR.lt⟩, fun i hi => ⟨h.bm i hi, (h.hm i hi).lt⟩, fun i g hi hg => ?_⟩
  obtain ⟨cur, hc⟩ := own_at (h.ho i hi) hg
  exact ⟨own_base (h.ho i hi) hg, hc.lt⟩

theorem put_f {F : Nat → Prop} {B : Nat} {s : Nat} {cap : Int} {bins : List Bin} (key it : ByteArray) (w : World) (h : SorterF F B w s cap bins) (hf : Fits cap bins) (hB : B ≤ w.heap.size) (hit : it.size ≤ maxLen) :
    Calls Try.prog 12 #[.pointer (some ⟨s, 0, none⟩), .string key, .string it] w fun e w' => e = .returned (.tuple #[.int .i64 (putR cap bins key it).2.1, .int .i64 (putR cap bins key it).2.2]) ∧ SorterF (fun k => F k ∨ w.heap.size ≤ k) B w' s cap (putR cap bins key it).1 ∧ Mod F w w' := by
  by_cases hn : key.size = 0 ∨ it.size = 0
  · have e : putR cap bins key it = (bins, 0, 6) := by rw [putR, if_pos hn]
    rw [e]
    refine (put_name key it w h.at_ ?_).mono ?_
    · by_cases hk : key.size = 0
      · exact .inl (size0.2 hk)
      · exact .inr ⟨fun q => hk (size0.1 q), size0.2 (hn.resolve_left hk)⟩
    · rintro e w' ⟨rfl, rfl⟩
      exact ⟨rfl, h.mono (fun k _ _ q => .inl q), Mod.refl _ _⟩
  · have hk : key.toList ≠ [] := fun q => hn (.inl (size0.1 q))
    have hi : it.toList ≠ [] := fun q => hn (.inr (size0.1 q))
    have h' := h
    obtain ⟨R, c, vs, ms, hs, f1, f2, f3, f4⟩ := h
    refine (put_c2 key it w hs hf hB hk hi hit).mono ?_
    intro e w' hp
    by_cases hx : hasB bins it = true
    · have e' : putR cap bins key it = (bins, 0, 7) := by rw [putR, if_neg hn, if_pos hx]
      rw [e']
      obtain ⟨h1, h2⟩ := hp.exists_ (hasB_iff.1 hx)
      exact ⟨h1, (h'.mod0 h2).mono (fun k _ _ q => .inl q), h2.mono (fun _ _ q => q.elim)⟩
    · have hx' : ¬ hasIt bins it := fun q => hx (hasB_iff.2 q)
      by_cases ht : toOf cap bins key < 0
      · have e' : putR cap bins key it = (bins, 0, 12) := by rw [putR, if_neg hn, if_neg hx, if_pos ht]
        rw [e']
        obtain ⟨h1, h2⟩ := hp.full hx' ht
        exact ⟨h1, (h'.mod0 h2).mono (fun k _ _ q => .inl q), h2.mono (fun _ _ q => q.elim)⟩
      · have e' : putR cap bins key it = (bins.set (toOf cap bins key).toNat (key, bi bins (toOf cap bins key).toNat ++ [it]), toOf cap bins key, 0) := by rw [putR, if_neg hn, if_neg hx, if_neg ht]
        rw [e']
        have q : toOf cap bins key = ((toOf cap bins key).toNat : Int) := by omega
        have hlt := toOf_lt cap bins key
        obtain ⟨h1, ⟨c', vs', h2, h2'⟩, h3, h4⟩ := hp.ok hx' _ q
        refine ⟨by rw [h1, ← q], ⟨R, c', vs', ms, h2, .inl f1, .inl f2, fun i hi => .inl (f3 i (by simpa using hi)), fun i g hi hg => ?_⟩, h4.mono (fun k _ hk => ?_)⟩
        · rcases h2' i g (by simpa using hi) hg with d | d
          · exact .inl (f4 i g (by simpa using hi) d)
          · exact .inr d
        · rcases hk with rfl | rfl | hk
          · exact f2
          · exact f3 _ (by omega)
          · exact f4 _ _ (by omega) hk
theorem take_f {F : Nat → Prop} {B : Nat} {s : Nat} {cap : Int} {bins : List Bin} (n : Int) (w : World) (h : SorterF F B w s cap bins) (hf : Fits cap bins) :
    Calls Try.prog 13 #[.pointer (some ⟨s, 0, none⟩), .int .i64 n] w fun e w' => ∃ A c, e = .returned (.tuple #[.string (takeR bins n).2.1, .slice A (takeR bins n).2.2.1.length c, .int .i64 (takeR bins n).2.2.2]) ∧
      w'.ownsRow B 9 1 (.slice A (takeR bins n).2.2.1.length c) (takeR bins n).2.2.1.length ((takeR bins n).2.2.1.map .string) ∧ SorterF F B w' s cap (takeR bins n).1 ∧ Mod F w w' := by
  by_cases hn : n < 0 ∨ (bins.length : Int) ≤ n
  · have e : takeR bins n = (bins, ByteArray.empty, [], 9) := by rw [takeR, if_pos hn]
    rw [e]
    refine (take_range n w h.at_ (by omega)).mono ?_
    rintro e w' ⟨rfl, rfl⟩
    exact ⟨none, 0, rfl, World.ownsRow_nil _ _ _ _, h, Mod.refl _ _⟩
  · obtain ⟨k, rfl⟩ := Int.eq_ofNat_of_zero_le (show 0 ≤ n by omega)
    have hk : k < bins.length := by omega
    by_cases he : (bi bins k).length = 0
    · have e : takeR bins (k : Int) = (bins, ByteArray.empty, [], 18) := by rw [takeR, if_neg hn, Int.toNat_natCast, if_pos he]
      rw [e]
      refine (take_empty k w h.at_ hk (List.length_eq_zero_iff.1 he)).mono ?_
      rintro e w' ⟨rfl, rfl⟩
      exact ⟨none, 0, rfl, World.ownsRow_nil _ _ _ _, h, Mod.refl _ _⟩
    · have e : takeR bins (k : Int) = (bins.set k (ByteArray.empty, []), bk bins k, bi bins k, 0) := by rw [takeR, if_neg hn, Int.toNat_natCast, if_neg he]
      rw [e]
      obtain ⟨R, c, vs, ms, hs, f1, f2, f3, f4⟩ := h
      refine (take_ok2 k w hs hf hk (fun q => he (by rw [q]; rfl))).mono ?_
      rintro e w' ⟨A, c, rfl, h1, ⟨c', h2⟩, h3, h4⟩
      refine ⟨A, c, rfl, h1, ⟨R, c', _, ms, h2, f1, f2, fun i hi => f3 i (by simpa using hi), fun i g hi hg => ?_⟩, h4.mono (fun q _ hq => ?_)⟩
      · by_cases e : i = k
        · simp only [if_pos e] at hg
          simp [Value.ownBlock] at hg
        · simp only [if_neg e] at hg
          exact f4 i g (by simpa using hi) hg
      · rcases hq with rfl | rfl | hq
        · exact f2
        · exact f3 _ hk
        · exact f4 _ _ hk hq
end Go.Proofs.Ytdipncjbobhbjaa
