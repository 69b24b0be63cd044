/- The specification's Take, where the item is found: its contract. -/
import Derived.Test.YtknijmhhlfooaaaRtake
import Derived.Deep.LoopGhost
import Derived.Deep.RegionWith
import Derived.Deep.DrawnRows
namespace Go.Proofs.Ytknijmhhlfooaaa
open Go.RowKit
set_option linter.unusedVariables false
set_option linter.unusedSimpArgs false

theorem RefAt.partsN {w : World} {v : Value} {cap : Int} {bs : List (List Pc)} {ag : List Pc} {n : Nat} (h : RefAt w v cap bs ag) (hl : bs.length = n) : ∃ Ab cb Aa ca, v = .agg #[.int .i64 cap, .slice Ab n cb, .slice Aa ag.length ca] := by
  subst hl
  obtain ⟨Ab, cb, Aa, ca, h, _⟩ := h.parts
  exact ⟨Ab, cb, Aa, ca, h⟩
theorem set_len {bs : List (List Pc)} {n b : Nat} {X : List Pc} (h : bs.length = n) : (bs.set b X).length = n := by simpa using h
theorem wrap_i64_small (n : Nat) (h : n < 9223372036854775808) : IntKind.i64.wrap (n : Int) = (n : Int) := by
  have h2 : ((n : Int) + 9223372036854775808) % 18446744073709551616 = (n : Int) + 9223372036854775808 := Int.emod_eq_of_lt (by omega) (by omega)
  simp [IntKind.wrap, IntKind.bits, IntKind.signed, h2]
  try omega
theorem at_k (v : Value) (l : List Pc) (it : ByteArray) (k : Nat) (w : World) (h : RowN w v l) (hl : l.length ≤ 1000) (hk : Hid (atF it l = (k : Int))) : Calls Try.prog 37 #[v, .string it] w fun e w' => e = .returned (.int .i64 (k : Int)) ∧ w' = w := by
  have := at_c v l it w h hl
  rw [hk.out] at this
  exact this
/-- The ages have turned in the box. -/
theorem TS.age {w3 wr : World} {cap : Int} {n : Nat} {bs : List (List Pc)} {ag ag' : List Pc} {Ab Aa Aa' : Option Addr} {cb ca ca' : Nat} (h : TS w3 wr cap n bs ag Ab cb Aa ca) (hr : RowN wr (.slice Aa' ag'.length ca') ag') :
    At (wr.setCell ⟨w3.heap.size, 2, none⟩ (.slice Aa' ag'.length ca')) w3.heap.size (.cells #[.int .i64 cap, .slice Ab n cb, .slice Aa' ag'.length ca'] 47 (0, 0)) ∧
      RefAt (wr.setCell ⟨w3.heap.size, 2, none⟩ (.slice Aa' ag'.length ca')) (.agg #[.int .i64 cap, .slice Ab n cb, .slice Aa' ag'.length ca']) cap bs ag' ∧ Mod (fun _ => False) w3 (wr.setCell ⟨w3.heap.size, 2, none⟩ (.slice Aa' ag'.length ca')) := by
  have ms : Mod (fun k => k = w3.heap.size) wr (wr.setCell ⟨w3.heap.size, 2, none⟩ (.slice Aa' ag'.length ca')) := (Mod.refl _ _).here _ _
  have hS : ∀ k, k = w3.heap.size → k < wr.heap.size → ∃ cs fr, At wr k (.cells cs 47 fr) := fun k hk _ => by subst hk; exact ⟨_, _, h.bT⟩
  obtain ⟨vb, va, hv, hB, _⟩ := h.rf
  injection hv with hv
  injection hv with hv
  simp only [List.cons.injEq, and_true, true_and] at hv
  obtain ⟨rfl, rfl⟩ := hv
  exact ⟨h.bT.put 2 _, ⟨_, _, rfl, hB.own ms hS (by decide) (by decide), RowN.own hr ms hS (by decide)⟩, h.m.none_of ms (Nat.le_refl _)⟩
theorem last_get (l : List Pc) (q : Nat) (hq : l.length = q + 1) (d : Pc) : l[q]'(by omega) = l.getLastD d := by
  have e : l[l.length - 1]? = some (l[q]'(by omega)) := by
    rw [show l.length - 1 = q from by omega]
    exact List.getElem?_eq_getElem (by omega)
  rw [List.getLastD_eq_getLast?, List.getLast?_eq_getElem?, e]
  rfl
theorem snoc_last (l : List Pc) (q : Nat) (hq : l.length = q + 1) : l.take q ++ l.drop (q + 1) = l.dropLast := by
  rw [List.drop_eq_nil_of_le (by omega), List.append_nil, List.dropLast_eq_take, hq]
  rfl
theorem TS.row {w3 wr : World} {cap : Int} {n : Nat} {bs : List (List Pc)} {ag : List Pc} {Ab Aa : Option Addr} {cb ca : Nat} (h : TS w3 wr cap n bs ag Ab cb Aa ca) {i : Nat} (hi : i < n) :
    ∃ g A1 c1, Ab = some ⟨g, 0, none⟩ ∧ g < wr.heap.size ∧ wr.cell? ⟨g, i, none⟩ = some (.slice A1 (bs.getD i []).length c1) ∧ RowN wr (.slice A1 (bs.getD i []).length c1) (bs.getD i []) ∧ w3.heap.size ≠ g := by
  obtain ⟨Ab', cb', Aa', ca', hv, hB, _⟩ := h.rf.parts
  injection hv with hv
  injection hv with hv
  simp only [List.cons.injEq, Value.slice.injEq, and_true, true_and] at hv
  obtain ⟨⟨rfl, hn, rfl⟩, rfl, rfl⟩ := hv
  obtain ⟨g, x, hA, hx, hr⟩ := hB.at_ i (by rw [h.len]; exact hi)
  obtain ⟨A1, c1, rfl⟩ := hr.val
  refine ⟨g, A1, c1, hA, World.block_lt_of_cell? wr _ hx, hx, hr, fun e => ?_⟩
  obtain ⟨vs, _, ho, _⟩ := hB
  subst hA
  exact own_ne ho h.bT (by decide) (by rw [e]; rfl)

attribute [local go_sem ↓] Go.wp_at_zero Go.wp_at_succ
set_option maxHeartbeats 6400000 in
theorem rtake_go {v : Value} {cap puts : Int} {bays : List (List Pc)} {ag : List Pc} (it : ByteArray) (b ab k : Nat) (w : World) (h : RefAt w v cap bays ag) (hf : Fits cap puts bays) (hag : ag.length ≤ 512) (hx : find bays it = ((b : Int), (ab : Int), true)) (hb : b < bays.length) (hab : ab < (bays.getD b []).length) (hk : atF it ag = (k : Int)) (hkl : k < ag.length) :
    Calls Try.prog 22 #[v, .string it] w fun e w' => ∃ v',
      (roomTo cap bays b bays.length < ab ∧ e = .returned (.tuple #[v', .int .i64 0, .int .i64 12]) ∧ RefAt w' v' cap bays ag ∧ Mod (fun _ => False) w w') ∨
      ((ab : Int) ≤ roomTo cap bays b bays.length ∧ e = .returned (.tuple #[v', .int .i64 (ab : Int), .int .i64 0]) ∧ RefAt w' v' cap (takeTop (movesF cap bays b ab) b) (ag.take k ++ ag.drop (k + 1)) ∧ Mod (fun _ => False) w w') := by
  have HR := hid h
  obtain ⟨Ab, cb, Aa, ca, rfl, hB, ha⟩ := h.parts
  have HF := hid hf
  have hn := hf.n2
  have hlb := hf.len32 b hb
  have Hx := hid hx
  have Hk := hid hk
  obtain ⟨w2, hw2⟩ : ∃ w2 : World, w2 = (w.alloc (.cells #[.int .i64 cap, .slice Ab bays.length cb, .slice Aa ag.length ca] 47)).alloc (.cells #[.int .i64 0, .slice none 0 0, .slice none 0 0] 47) := ⟨_, rfl⟩
  have m2 : Mod (fun _ => False) w w2 := by rw [hw2]; exact ((Mod.refl _ _).alloc _).alloc _
  have hS2 : At w2 w.heap.size (.cells #[.int .i64 cap, .slice Ab bays.length cb, .slice Aa ag.length ca] 47 (0, 0)) := by rw [hw2]; exact (At.new _ _).alloc _
  have hR2 : At w2 (w.heap.size + 1) (.cells #[.int .i64 0, .slice none 0 0, .slice none 0 0] 47 (0, 0)) := by
    rw [hw2]
    have := At.new (w.alloc (.cells #[.int .i64 cap, .slice Ab bays.length cb, .slice Aa ag.length ca] 47)) (.cells #[.int .i64 0, .slice none 0 0, .slice none 0 0] 47)
    simpa using this
  have M2 := hid m2
  have HS2 := hid hS2
  have HR2 := hid hR2
  have Hw2 := hid hw2
  have hsz2 : w2.heap.size = w.heap.size + 2 := by rw [hw2]; simp
  have Hsz2 := hid hsz2
  obtain ⟨s0, s1, s2⟩ := At.three hS2
  have hlenB := hid (show (bays.getD b []).length ≤ 32 from hlb)
  have Hab := hid hab
  have hab32 : ab ≤ 32 := by omega
  generalize hnn : bays.length = n at *
  have Hn := hid hnn
  clear h hf hx hB ha hw2 m2 hS2 hR2 hk hsz2 hab hlb hnn
  go_enter Try.func22, Try.ntmps22
  go_upto_region 1 with fail
  rw [← Hw2.out]
  go_wp2_with fail
  refine (rfind_c it w2 (HR.out.mod0 M2.out) (by rw [Hn.out]; exact hn) HF.out.len32).mono ?_
  rw [Hx.out]
  simp only
  rintro e w3 ⟨rfl, m3⟩
  obtain ⟨a0, a1, a2⟩ := At.three (HS2.out.mod m3 id)
  have M3 := hid (M2.out.trans m3)
  have HS3 := hid (HS2.out.mod m3 id)
  have HR3 := hid (HR2.out.mod m3 id)
  have hs3 : w.heap.size + 2 ≤ w3.heap.size := by have := m3.size; have := Hsz2.out; omega
  clear s0 s1 s2 m3
  go_upto_region 5 with fail
  obtain ⟨w4, hw4⟩ : ∃ w4 : World, w4 = w3.alloc (.cells #[.int .i64 cap, .slice Ab n cb, .slice Aa ag.length ca] 47) := ⟨_, rfl⟩
  rw [← hw4]
  have T4 : Hid (TS w3 w4 cap n (movesF cap bays b 0) ag Ab cb Aa ca) := by
    have ma : Mod (fun _ => False) w3 w4 := by rw [hw4]; exact (Mod.refl _ _).alloc _
    exact ⟨Hn.out, by rw [hw4]; exact At.new _ _, HR.out.mod0 (M3.out.trans ma), ma⟩
  have Hw4 := hid hw4
  clear hw4 a0 a1 a2
  go_wp2_with fail
  go_loopg [11] ab (fun gn s11 wr => ∃ (j : Nat) (Ab : Option Addr) (cb : Nat) (Aa : Option Addr) (ca : Nat), j + gn = ab ∧ s11 = .int .i64 j ∧ Hid ((j : Int) ≤ roomTo cap bays b n) ∧ Hid (TS w3 wr cap n (movesF cap bays b j) ag Ab cb Aa ca))
  case atStart => exact ⟨0, Ab, cb, Aa, ca, Nat.zero_add _, rfl, (roomTo_bound HF.out b n (by rw [Hn.out]; exact Nat.le_refl _)).1, T4⟩
  case round =>
    obtain ⟨j, Ab1, cb1, Aa1, ca1, hj0, rfl, hro, hT⟩ := hrel
    have hj : j ≤ ab := by omega
    obtain ⟨t0, t1, t2⟩ := At.three hT.out.bT
    have htl := hT.out.bT.lt
    have hbB : b < bays.length := by rw [Hn.out]; exact hb
    have HFj := hid (HF.out.moves hbB j)
    have hmv := moves_spec hbB j (by have := Hab.out; omega) (by rw [Hn.out]; exact hro.out)
    have Hmv := hid hmv
    have hml := hid (moves_len cap bays b hbB j)
    have Hj0 := hid hj0
    clear hmv hj0
    by_cases hlt : j < ab
    · have hnext : Hid (∀ i, firstRoom cap (movesF cap bays b j) b = some i → movesF cap bays b (j + 1) = moveTo (movesF cap bays b j) b i) := fun i q => by rw [movesF, moveF, q]
      generalize movesF cap bays b j = nb at hT HFj Hmv hml hnext
      go_wp2_with fail
      refine (room_c b wr hT.out.rf (by rw [hT.out.len]; exact hn) HFj.out.len32).mono ?_
      rintro e w5 ⟨rfl, m5⟩
      have T5 := hid (hT.out.mod0 m5)
      rcases hfr : firstRoom cap nb b with _ | i
      · have hrf : roomF cap nb b = -1 := by rw [roomF, hfr]
        rw [hrf]
        have hlow : Hid (roomTo cap bays b n < ab) := by
          show _ < _
          by_cases q : roomTo cap bays b n < ab
          · exact q
          · exfalso
            have hr := Hmv.out.room
            rw [Hn.out] at hr
            obtain ⟨i, hi⟩ := firstRoom_of_pos (cap := cap) (bays := nb) (b := b) (by rw [hT.out.len, hr]; omega)
            rw [hfr] at hi
            cases hi
        obtain ⟨a0, a1, a2⟩ := At.three (HS3.out.mod T5.out.m id)
        have hR5 := HR3.out.mod T5.out.m id
        obtain ⟨r0, r1, r2⟩ := At.three hR5
        have rf0 := hR5.free 0
        have rf1 := hR5.free 1
        have rf2 := hR5.free 2
        clear hfr hrf t0 t1 t2
        go_wp2_with fail
        have ms : Mod (fun k => k = w.heap.size + 1) w5 (((w5.setCell ⟨w.heap.size + 1, 0, none⟩ (.int .i64 cap)).setCell ⟨w.heap.size + 1, 1, none⟩ (.slice Ab n cb)).setCell ⟨w.heap.size + 1, 2, none⟩ (.slice Aa ag.length ca)) := (((Mod.refl _ _).here _ _).here _ _).here _ _
        refine bodyPost_ret (v := .tuple #[.agg #[.int .i64 cap, .slice Ab n cb, .slice Aa ag.length ca], .int .i64 0, .int .i64 12]) (by simp [results, Try.results22, go_sem, r0, r1, r2]) rfl ⟨_, .inl ⟨hlow.out, rfl, ?_, (M3.out.trans T5.out.m).none_of ms (by omega)⟩⟩
        exact (HR.out.mod0 (M3.out.trans T5.out.m)).own hR5 ms
      · have hrf : roomF cap nb b = (i : Int) := by rw [roomF, hfr]
        rw [hrf]
        obtain ⟨hi1, hi2, hi3, _⟩ := firstRoom_some hfr
        have hi1n : i < n := by rw [← hT.out.len]; exact hi1
        have hnx := hid (hnext.out i hfr)
        have hup : Hid (((j + 1 : Nat) : Int) ≤ roomTo cap bays b n) := by
          show _ ≤ _
          have a := roomTo_gt HFj.out hfr
          have hr := Hmv.out.room
          rw [hT.out.len] at a
          rw [Hn.out] at hr
          omega
        have hi16 : (i : Int) < n := by omega
        have hi0 : ¬ (i : Int) < 0 := by omega
        have hbn : (b : Int) < n := by omega
        obtain ⟨t0', t1', t2'⟩ := At.three T5.out.bT
        have htl5 := T5.out.bT.lt
        obtain ⟨g, A1, c1, rfl, hg, hx1, hr1, _⟩ := T5.out.row hb
        have hli := HFj.out.len32 i hi1
        have hlb := HFj.out.len32 b (by rw [hT.out.len]; exact hb)
        have hmt : Hid (moveTo nb b i = (nb.set b (nb.getD b []).dropLast).set i (nb.getD i [] ++ [(nb.getD b []).getLastD (.empty, 0)])) := rfl
        have hgi : Hid ((nb.set b (nb.getD b []).dropLast).getD i [] = nb.getD i []) := getD_set_ne (fun q => hi2 q.symm)
        have hml' := hml.out
        have hab' := Hab.out
        generalize nb.getD b [] = l at hx1 hr1 hlb hmt hml' hgi
        generalize hli' : nb.getD i [] = li at hli hmt hgi hi3
        obtain ⟨q, hq⟩ : ∃ q, l.length = q + 1 := ⟨l.length - 1, by omega⟩
        rw [hq] at hx1 hr1
        have Hq := hid hq
        have Hr1 := hid hr1
        obtain ⟨g1, hA1, hnm⟩ : ∃ g1, A1 = some ⟨g1, 0, none⟩ ∧ w5.cell? ⟨g1, q, none⟩ = some (.string (l.getLastD (.empty, 0)).1) := by
          obtain ⟨g1, hA, hc⟩ := RowN.at_ (A := A1) (c := c1) (l := l) (by rw [hq]; exact hr1) q (by omega)
          rw [last_get l q hq (.empty, 0)] at hc
          exact ⟨g1, hA, hc⟩
        subst hA1
        generalize hlast : l.getLastD (.empty, 0) = last at hnm hmt
        have hg1 := World.block_lt_of_cell? w5 _ hnm
        have hq31 : q ≤ 31 := by omega
        clear hfr hrf t0 t1 t2 hr1 hq hml' hab' hli' hlast
        go_upto_region 13 with fail
        have hnl : nb.length ≤ 16 := by rw [T5.out.len]; exact hn
        have hbl : b < nb.length := by rw [T5.out.len]; exact hb
        have hil : i < nb.length := hi1
        have hql : q < l.length := by have := Hq.out; omega
        have hl1000 : l.length ≤ 1000 := by have := Hq.out; omega
        have hli1000 : li.length ≤ 1000 := by omega
        have T5d := hid (T5.out.mod0 (Mod.refl _ w5).drew)
        have Hr1d := hid (RowN.mod0 Hr1.out (Mod.refl _ w5).drew)
        have hwq : IntKind.i64.wrap (q : Int) = (q : Int) := wrap_i64_small q (by omega)
        go_cut [12, 14] from 27 to 66 (fun s12 s14 wx => s12 = .int .i64 (i : Int) ∧ s14 = .string last.1 ∧ ∃ Ab7 cb7 Aa7 ca7, Hid (TS w3 wx cap n (nb.set b l.dropLast) ag Ab7 cb7 Aa7 ca7))
        case first =>
          go_region_with (first
            | (go_at_call 36; refine (without_c (.slice (some ⟨g1, 0, none⟩) (q + 1) c1) l q _ Hr1d.out hl1000 hql).mono ?_; rintro e w6 ⟨v6, rfl, h6, m6⟩; have T6 := hid (TS.mod0 T5d.out m6); have q6 := At.three (TS.bT T6.out); obtain ⟨x6a, x6b, x6c⟩ := q6; have H6 := hid h6)
            | (go_at_call 33; refine (changed_c b _ (TS.rf T6.out) H6.out hnl hbl).mono ?_; rintro e w7 ⟨v7, rfl, h7, m7⟩; obtain ⟨Ab7, cb7, Aa7, ca7, rfl⟩ := RefAt.partsN (n := n) h7 (set_len (TS.len T6.out)); have T7 := hid (TS.mod0 T6.out m7); have q7 := At.three (TS.bT T7.out); obtain ⟨x7a, x7b, x7c⟩ := q7; have f7a := At.free (TS.bT T7.out) 0; have f7b := At.free (TS.bT T7.out) 1; have f7c := At.free (TS.bT T7.out) 2; have H7 := hid h7; have M7 := hid m7))
          all_goals
            go_wp2_with fail
            go_meet
            refine ⟨rfl, rfl, Ab7, cb7, Aa7, ca7, ?_⟩
            have T8 := T6.out.store M7.out (set_len T6.out.len) H7.out
            rw [snoc_last l q Hq.out] at T8
            exact T8
        case rest =>
          obtain ⟨rfl, rfl, Ab7, cb7, Aa7, ca7, T8⟩ := hcut
          obtain ⟨g8, A8, c8, hAb8, hg8, hx8, hr8, _⟩ := T8.out.row hi1n
          subst hAb8
          rw [hgi.out] at hx8 hr8
          obtain ⟨z0, z1, z2⟩ := At.three T8.out.bT
          have z3 := T8.out.bT.lt
          have T8d := hid (T8.out.mod0 (Mod.refl _ wc).drew)
          have Hr8d := hid (RowN.mod0 hr8 (Mod.refl _ wc).drew)
          have Hx8 := hid hx8
          have hil8 : i < (nb.set b l.dropLast).length := by rw [List.length_set]; exact hil
          have hnl8 : (nb.set b l.dropLast).length ≤ 16 := by rw [List.length_set]; exact hnl
          clear hr8 t0' t1' t2' hx1 hnm
          go_upto_region 14 with fail
          go_region_with (first
            | (go_at_call 34; refine (with_c (.slice A8 li.length c8) li last.1 last.2 _ Hr8d.out hli1000).mono ?_; rintro e w9 ⟨v9, rfl, h9, m9⟩; have T9 := hid (TS.mod0 T8d.out m9); have q9 := At.three (TS.bT T9.out); obtain ⟨x9a, x9b, x9c⟩ := q9; have x9d := Mod.keep0 m9 Hx8.out; have H9 := hid h9)
            | (go_at_call 33; refine (changed_c i _ (TS.rf T9.out) H9.out hnl8 hil8).mono ?_; rintro e w10 ⟨v10, rfl, h10, m10⟩; obtain ⟨Ab10, cb10, Aa10, ca10, rfl⟩ := RefAt.partsN (n := n) h10 (set_len (TS.len T9.out)); have T10 := hid (TS.mod0 T9.out m10); have q10 := At.three (TS.bT T10.out); obtain ⟨x10a, x10b, x10c⟩ := q10; have f10a := At.free (TS.bT T10.out) 0; have f10b := At.free (TS.bT T10.out) 1; have f10c := At.free (TS.bT T10.out) 2; have H10 := hid h10; have M10 := hid m10))
          all_goals
            go_wp2_with fail
            go_roundg (gk - 1)
            case measure => have := Hj0.out; omega
            case rel =>
              refine ⟨j + 1, Ab10, cb10, Aa10, ca10, by have := Hj0.out; omega, by go_num, hup, ?_⟩
              have T12 := T9.out.store M10.out (set_len T9.out.len) H10.out
              show TS _ _ _ _ _ _ _ _ _ _
              rw [hnx.out, hmt.out]
              exact T12
    · obtain rfl : j = ab := by omega
      have hlj := hml.out
      have hab' := Hab.out
      have htake : Hid (takeTop (movesF cap bays b j) b = (movesF cap bays b j).set b ((movesF cap bays b j).getD b []).dropLast) := rfl
      generalize hnb : movesF cap bays b j = nb at hT HFj Hmv hlj htake
      have Hnb := hid hnb
      clear hnb
      have hbn : (b : Int) < n := by omega
      obtain ⟨g, A1, c1, rfl, hg, hx1, hr1, _⟩ := hT.out.row hb
      have hlb := HFj.out.len32 b (by rw [hT.out.len]; exact hb)
      generalize nb.getD b [] = l at hx1 hr1 hlb hlj htake
      obtain ⟨q, hq⟩ : ∃ q, l.length = q + 1 := ⟨l.length - 1, by omega⟩
      rw [hq] at hx1 hr1
      have Hq := hid hq
      have hq31 : q ≤ 31 := by omega
      have hnl : nb.length ≤ 16 := by rw [hT.out.len]; exact hn
      have hbl : b < nb.length := by rw [hT.out.len]; exact hb
      have hql : q < l.length := by omega
      have hl1000 : l.length ≤ 1000 := by omega
      have Td := hid (hT.out.mod0 (Mod.refl _ wr).drew)
      have Hr1d := hid (RowN.mod0 hr1 (Mod.refl _ wr).drew)
      have Hrl := hid hro.out
      clear hq hlj hab' hr1 hro hlb
      go_upto_region 16 with fail
      have hwq : IntKind.i64.wrap (q : Int) = (q : Int) := wrap_i64_small q (by omega)
      go_cut [8] from 72 to 79 (fun s8 wx => s8 = .int .i64 (j : Int) ∧ ∃ Ab7 cb7 Aa7 ca7, Hid (TS w3 wx cap n (takeTop (movesF cap bays b j) b) ag Ab7 cb7 Aa7 ca7))
      case first =>
        go_region_with (first
          | (go_at_call 36; refine (without_c (.slice A1 (q + 1) c1) l q _ Hr1d.out hl1000 hql).mono ?_; rintro e w6 ⟨v6, rfl, h6, m6⟩; have T6 := hid (TS.mod0 Td.out m6); have q6 := At.three (TS.bT T6.out); obtain ⟨x6a, x6b, x6c⟩ := q6; have H6 := hid h6)
          | (go_at_call 33; refine (changed_c b _ (TS.rf T6.out) H6.out hnl hbl).mono ?_; rintro e w7 ⟨v7, rfl, h7, m7⟩; obtain ⟨Ab7, cb7, Aa7, ca7, rfl⟩ := RefAt.partsN (n := n) h7 (set_len (TS.len T6.out)); have T7 := hid (TS.mod0 T6.out m7); have q7 := At.three (TS.bT T7.out); obtain ⟨x7a, x7b, x7c⟩ := q7; have f7a := At.free (TS.bT T7.out) 0; have f7b := At.free (TS.bT T7.out) 1; have f7c := At.free (TS.bT T7.out) 2; have H7 := hid h7; have M7 := hid m7))
        all_goals
          go_wp2_with fail
          go_meet
          refine ⟨rfl, Ab7, cb7, Aa7, ca7, ?_⟩
          have T8 := T6.out.store M7.out (set_len T6.out.len) H7.out
          rw [snoc_last l q Hq.out, ← htake.out] at T8
          show TS _ _ _ _ _ _ _ _ _ _
          rw [Hnb.out]
          exact T8
      case rest =>
        obtain ⟨rfl, Ab7, cb7, Aa7, ca7, T8⟩ := hcut
        obtain ⟨z0, z1, z2⟩ := At.three T8.out.bT
        have z3 := T8.out.bT.lt
        have T8d := hid (T8.out.mod0 (Mod.refl _ wc).drew)
        obtain ⟨va8, hva8, hag8⟩ : ∃ va8, va8 = Value.slice Aa7 ag.length ca7 ∧ RowN wc.drew va8 ag := by
          obtain ⟨vb', va', hv', _, ha'⟩ := T8d.out.rf
          injection hv' with hv'
          injection hv' with hv'
          simp only [List.cons.injEq, and_true, true_and] at hv'
          exact ⟨va', hv'.2.symm, ha'⟩
        subst hva8
        have Hag8 := hid hag8
        have hag1000 : ag.length ≤ 1000 := by omega
        clear hag8 hx1 t0 t1 t2
        go_upto_region 17 with fail
        go_cut [8] from 80 to 87 (fun s8 wx => s8 = .int .i64 (j : Int) ∧ ∃ Aa9 ca9, Hid (At wx w3.heap.size (.cells #[.int .i64 cap, .slice Ab7 n cb7, .slice Aa9 (ag.take k ++ ag.drop (k + 1)).length ca9] 47 (0, 0))) ∧ Hid (RefAt wx (.agg #[.int .i64 cap, .slice Ab7 n cb7, .slice Aa9 (ag.take k ++ ag.drop (k + 1)).length ca9]) cap (takeTop (movesF cap bays b j) b) (ag.take k ++ ag.drop (k + 1))) ∧ Hid (Mod (fun _ => False) w3 wx))
        case first =>
          go_region_with (first
            | (go_at_call 37; refine (at_k (.slice Aa7 ag.length ca7) ag it k _ Hag8.out hag1000 Hk).mono ?_; rintro e w' ⟨rfl, rfl⟩)
            | (go_at_call 36; refine (without_c (.slice Aa7 ag.length ca7) ag k _ Hag8.out hag1000 hkl).mono ?_; rintro e w6 ⟨v6, rfl, h6, m6⟩; obtain ⟨A9, c9, rfl⟩ := RowN.val h6; have T6 := hid (TS.mod0 T8d.out m6); have q6 := At.three (TS.bT T6.out); obtain ⟨x6a, x6b, x6c⟩ := q6; have f6c := At.free (TS.bT T6.out) 2; have H6 := hid h6))
          all_goals
            go_wp2_with fail
            go_meet
            obtain ⟨k1, k2, k3⟩ := T6.out.age H6.out
            refine ⟨rfl, A9, c9, ?_, ?_, ?_⟩
            · first | exact k1 | (show At _ _ _; simpa using k1)
            · show RefAt _ _ _ _ _
              first | exact k2 | simpa using k2
            · first | exact k3 | (show Mod _ _ _; simpa using k3)
        case rest =>
          obtain ⟨rfl, Aa9, ca9, hT9, hr9, hm9⟩ := hcut
          obtain ⟨y0, y1, y2⟩ := At.three hT9.out
          have hR9 := HR3.out.mod hm9.out id
          obtain ⟨r0, r1, r2⟩ := At.three hR9
          have rf0 := hR9.free 0
          have rf1 := hR9.free 1
          have rf2 := hR9.free 2
          generalize hLL : (ag.take k ++ ag.drop (k + 1)).length = LL at hT9 hr9 y2
          clear z0 z1 z2 z3
          go_wp2_with fail
          have ms : Mod (fun k => k = w.heap.size + 1) wc (((wc.setCell ⟨w.heap.size + 1, 0, none⟩ (.int .i64 cap)).setCell ⟨w.heap.size + 1, 1, none⟩ (.slice Ab7 n cb7)).setCell ⟨w.heap.size + 1, 2, none⟩ (.slice Aa9 LL ca9)) := (((Mod.refl _ _).here _ _).here _ _).here _ _
          refine bodyPost_ret (v := .tuple #[.agg #[.int .i64 cap, .slice Ab7 n cb7, .slice Aa9 LL ca9], .int .i64 (j : Int), .int .i64 0]) (by simp [results, Try.results22, go_sem, r0, r1, r2]) rfl ⟨_, .inr ⟨Hrl.out, rfl, hr9.out.own hR9 ms, (M3.out.trans hm9.out).none_of ms (by omega)⟩⟩
end Go.Proofs.Ytknijmhhlfooaaa
