/- Oldest, Len, Bay: their contracts. -/
import Derived.Test.YtknijmhhlfooaaaTake
namespace Go.Proofs.Ytknijmhhlfooaaa
open Go.RowKit
set_option linter.unusedVariables false
set_option linter.unusedSimpArgs false

theorem info9 : (Try.prog.info? 9).map (fun i => (i.zero, i.size, i.bytes)) = some (some (.string ByteArray.empty), 1, 16) := by kernel_rfl

/-- What has been there longest. -/
def oldStep (acc x : Pc) : Pc := if x.2 < acc.2 then x else acc
def oldF (puts : Int) (l : List Pc) : Pc := l.foldl oldStep (⟨#[]⟩, puts)
theorem oldF_snoc (puts : Int) (l : List Pc) (x : Pc) : oldF puts (l ++ [x]) = oldStep (oldF puts l) x := by simp [oldF]

theorem take_flatten_succ {bays : List (List Pc)} {a : Nat} (h : a < bays.length) : (bays.take (a + 1)).flatten = (bays.take a).flatten ++ bays.getD a [] := by
  rw [List.take_add_one, List.flatten_append]
  simp [List.getD_eq_getElem?_getD, h]

set_option maxHeartbeats 1600000 in
theorem oldest_c {F : Nat → Prop} {y : Nat} {cap puts : Int} {bays : List (List Pc)} (w : World) (h : YardAt F w y cap puts bays) (hf : Fits cap puts bays) :
    Calls Try.prog 13 #[.pointer (some ⟨y, 0, none⟩)] w fun e w' => e = .returned (.tuple #[.string (oldF puts bays.flatten).1, .bool (decide ((oldF puts bays.flatten).2 < puts))]) ∧ Mod (fun _ => False) w w' := by
  obtain ⟨B, c, ps, vs, h⟩ := h
  obtain ⟨c0, c1, c2⟩ := At.three h.hy
  have hnb := hf.n2
  have hlen := hid hf.len32
  go_enter Try.func13, Try.ntmps13
  go_wp2_with fail
  go_quiet (fail)
  go_wp2_with fail
  go_loopw [4, 5, 21] (fun r1 r2 s wr => ∃ (a : Nat) (o : Pc), a ≤ bays.length ∧ s = .int .i64 a ∧ r1 = .string o.1 ∧ r2 = .int .i64 o.2 ∧ Hid (o = oldF puts (bays.take a).flatten) ∧ Mod (fun _ => False) w wr)
    (fun r1 r2 s _ => bays.length - (intOf s).toNat)
  case atStart => exact ⟨0, (⟨#[]⟩, puts), by omega, rfl, rfl, rfl, rfl, (Mod.refl _ _).drewN _⟩
  case round =>
    obtain ⟨a, o, ha, rfl, rfl, rfl, ho, m⟩ := hrel
    by_cases hlt : a < bays.length
    · have hr := h.mod0 m
      obtain ⟨arr, hB, hpt⟩ := hr.hB
      have q0 := arr_cell hB (hpt a hlt)
      have q1 := At.one (hr.hp a hlt)
      have hown := hr.ho a hlt
      obtain ⟨A, cc, hv⟩ := own_val hown
      rw [hv] at q1 hown
      have hl32 := hlen.out a hlt
      generalize hL : bays.getD a [] = L at q1 hown hl32
      have HL := hid hL
      clear c0 c1 c2 hpt hv hB hL
      go_wp2_with fail
      obtain ⟨wo, rfl⟩ : ∃ wo : World, wo = wr := ⟨_, rfl⟩
      clear q0
      obtain ⟨o0, rfl⟩ : ∃ o0 : Pc, o0 = o := ⟨_, rfl⟩
      go_loopw [4, 5, 30] (fun r1 r2 s wr => ∃ (k : Nat) (o : Pc), k ≤ L.length ∧ s = .int .i64 k ∧ r1 = .string o.1 ∧ r2 = .int .i64 o.2 ∧ Hid (o = oldF puts ((bays.take a).flatten ++ L.take k)) ∧ Mod (fun _ => False) wo wr)
        (fun r1 r2 s _ => L.length - (intOf s).toNat)
      case atStart => exact ⟨0, o0, by omega, rfl, rfl, rfl, by simpa using ho, Mod.refl _ _⟩
      case round =>
        obtain ⟨k, o, hk, rfl, rfl, rfl, hok, mk⟩ := hrel
        by_cases hlk : k < L.length
        · obtain ⟨g, rfl, hg, d0, d1⟩ := item_cells hown rfl k hlk
          have d0' := mk.keep0 d0
          have d1' := mk.keep0 d1
          have hstep : Hid (oldF puts ((bays.take a).flatten ++ L.take (k + 1)) = oldStep o (L[k]'hlk)) := by
            show _ = _
            rw [List.take_add_one, ← List.append_assoc, List.getElem?_eq_getElem hlk]
            simp only [Option.toList]
            rw [oldF_snoc, ← hok.out]
          clear d0 d1
          generalize hX : L[k]'hlk = X at d0' d1' hstep
          clear hX
          by_cases hs : X.2 < o.2
          · go_wp2_with fail
            go_quiet (fail)
            go_wp2_with fail
            go_roundw
            case rel =>
              refine ⟨k + 1, X, by omega, by go_num, rfl, rfl, ?_, by exact (mk.alloc _).drewN _⟩
              show _ = _
              rw [hstep.out, oldStep, if_pos hs]
            case measure => simp [intOf]; omega
          · go_wp2_with fail
            go_roundw
            case rel =>
              refine ⟨k + 1, o, by omega, by go_num, rfl, rfl, ?_, mk.alloc _⟩
              show _ = _
              rw [hstep.out, oldStep, if_neg hs]
            case measure => simp [intOf]; omega
        · have : k = L.length := by omega
          subst this
          go_wp2_with fail
          go_roundw
          case rel =>
            refine ⟨a + 1, o, by omega, by go_num, rfl, rfl, ?_, m.trans mk⟩
            show _ = _
            rw [take_flatten_succ hlt, HL.out]
            simpa using hok.out
          case measure => simp [intOf]; omega
    · have : a = bays.length := by omega
      subst this
      obtain ⟨e0, e1, e2⟩ := At.three (h.mod0 m).hy
      clear c0 c1 c2
      go_wp2_with fail
      go_quiet (fail)
      go_wp2_with fail
      go_ret2
      have := ho.out
      rw [List.take_length] at this
      rw [← this]
      exact ⟨rfl, m.drewN _⟩

theorem flatten_bound {bays : List (List Pc)} (hlen : ∀ i, i < bays.length → (bays.getD i []).length ≤ 32) (a : Nat) (ha : a ≤ bays.length) : ((bays.take a).flatten).length ≤ 32 * a := by
  induction a with
  | zero => simp
  | succ a ih =>
    have := ih (by omega)
    have h1 := hlen a (by omega)
    rw [take_flatten_succ (by omega), List.length_append]
    omega

theorem len_c {F : Nat → Prop} {y : Nat} {cap puts : Int} {bays : List (List Pc)} (w : World) (h : YardAt F w y cap puts bays) (hf : Fits cap puts bays) :
    Calls Try.prog 15 #[.pointer (some ⟨y, 0, none⟩)] w fun e w' => e = .returned (.int .i64 bays.flatten.length) ∧ Mod (fun _ => False) w w' := by
  obtain ⟨B, c, ps, vs, h⟩ := h
  obtain ⟨c0, c1, c2⟩ := At.three h.hy
  have hnb := hf.n2
  have hlen := hid hf.len32
  go_enter Try.func15, Try.ntmps15
  go_wp2_with fail
  go_loopw [3, 13] (fun r s wr => ∃ (a n : Nat), a ≤ bays.length ∧ s = .int .i64 a ∧ r = .int .i64 n ∧ Hid (n = (bays.take a).flatten.length) ∧ Mod (fun _ => False) w wr)
    (fun r s _ => bays.length - (intOf s).toNat)
  case atStart => exact ⟨0, 0, by omega, rfl, rfl, rfl, (Mod.refl _ _)⟩
  case round =>
    obtain ⟨a, n, ha, rfl, rfl, hn, m⟩ := hrel
    have hbd := flatten_bound hlen.out a ha
    rw [← hn.out] at hbd
    by_cases hlt : a < bays.length
    · have hr := h.mod0 m
      obtain ⟨arr, hB, hpt⟩ := hr.hB
      have q0 := arr_cell hB (hpt a hlt)
      have q1 := At.one (hr.hp a hlt)
      have hown := hr.ho a hlt
      obtain ⟨A, cc, hv⟩ := own_val hown
      rw [hv] at q1
      have hl32 := hlen.out a hlt
      generalize hL : (bays.getD a []).length = l at q1 hl32
      have HL := hid hL
      clear c0 c1 c2 hpt hv hB hL hown
      go_wp2_with fail
      refine (size_c (ps a) l cc A _ q1).mono ?_
      rintro e w' ⟨rfl, rfl⟩
      go_wp2_with fail
      go_roundw
      case rel =>
        refine ⟨a + 1, n + l, by omega, by go_num, by go_num, ?_, m⟩
        show _ = _
        rw [take_flatten_succ hlt, List.length_append, HL.out, hn.out]
      case measure => simp [intOf]; omega
    · have : a = bays.length := by omega
      subst this
      go_wp2_with fail
      go_ret
      have := hn.out
      rw [List.take_length] at this
      rw [this]
      exact ⟨rfl, m⟩

def names (l : List Pc) : List Value := l.map fun x => .string x.1
theorem names_length (l : List Pc) : (names l).length = l.length := by simp [names]
def bayF (bays : List (List Pc)) (b : Int) : List Pc := if 0 ≤ b ∧ b < bays.length then bays.getD b.toNat [] else []

set_option maxHeartbeats 1600000 in
theorem bay_c {F : Nat → Prop} {y : Nat} {cap puts : Int} {bays : List (List Pc)} (b : Int) (w : World) (h : YardAt F w y cap puts bays) (hf : Fits cap puts bays) :
    Calls Try.prog 17 #[.pointer (some ⟨y, 0, none⟩), .int .i64 b] w fun e w' => ∃ v, e = .returned v ∧ w'.ownsRow w.heap.size 9 1 v (bayF bays b).length (names (bayF bays b)) ∧ Mod (fun _ => False) w w' := by
  obtain ⟨B, c, ps, vs, h⟩ := h
  obtain ⟨c0, c1, c2⟩ := At.three h.hy
  obtain ⟨i0, hi0, hz0, hz1, hz2⟩ := info_parts info9
  have hnb := hf.n2
  by_cases hb : b < 0
  · have e : bayF bays b = [] := by rw [bayF, if_neg (by omega)]
    rw [e]
    clear e
    go_enter Try.func17, Try.ntmps17
    go_wp2_with fail
    go_ret
    exact ⟨_, rfl, World.ownsRow_nil _ _ _ _, Mod.refl _ _⟩
  · by_cases hb2 : (bays.length : Int) ≤ b
    · have e : bayF bays b = [] := by rw [bayF, if_neg (by omega)]
      rw [e]
      clear e
      go_enter Try.func17, Try.ntmps17
      go_wp2_with fail
      go_ret
      exact ⟨_, rfl, World.ownsRow_nil _ _ _ _, Mod.refl _ _⟩
    · obtain ⟨a, rfl⟩ : ∃ a : Nat, b = a := ⟨b.toNat, by omega⟩
      have hlt : a < bays.length := by omega
      have e : bayF bays (a : Int) = bays.getD a [] := by rw [bayF, if_pos (by omega)]; simp
      rw [e]
      clear e
      have hl32 := hf.len32 a hlt
      obtain ⟨arr, hB, hpt⟩ := h.hB
      have q0 := arr_cell hB (hpt a hlt)
      have q1 := At.one (h.hp a hlt)
      have hown := h.ho a hlt
      obtain ⟨A, cc, hv⟩ := own_val hown
      rw [hv] at q1 hown
      generalize hL : bays.getD a [] = L at q1 hown hl32
      clear hpt hv hB hL h hf
      go_enter Try.func17, Try.ntmps17
      go_wp2_with fail
      go_loopw [5, 34] (fun r s wr => ∃ k : Nat, k ≤ L.length ∧ s = .int .i64 k ∧ wr.ownsRow w.heap.size 9 1 r k (names (L.take k)) ∧ Mod (fun _ => False) w wr)
        (fun r s _ => L.length - (intOf s).toNat)
      case atStart => exact ⟨0, by omega, rfl, World.ownsRow_nil _ _ _ _, Mod.refl _ _⟩
      case round =>
        obtain ⟨k, hk, rfl, ho, m⟩ := hrel
        by_cases hlk : k < L.length
        · obtain ⟨g, rfl, hg, d0, d1⟩ := item_cells hown rfl k hlk
          have d0' := m.keep0 d0
          have d1' := m.keep0 d1
          have hs : Hid (names (L.take (k + 1)) = names (L.take k) ++ [.string (L[k]'hlk).1]) := by
            show _ = _
            rw [List.take_add_one, List.getElem?_eq_getElem hlk]
            simp only [Option.toList, names, List.map_append, List.map_cons, List.map_nil]
          generalize hX : L[k]'hlk = X at d0' d1' hs
          obtain ⟨A', c', hr⟩ := own_val ho
          subst hr
          clear d0 d1 hX c0 c1 c2 q0 q1
          go_wp2_with (first | (at_builtin; refine wpList_append_own _ rfl (.tmp 38) (.tmp 41) 31 rfl w.heap.size 9 i0 (.string ByteArray.empty) 1 16 Try.underlying31 hi0 hz0 hz1 hz2 rfl (by decide) (.slice A' k c') k (names (L.take k)) rfl ((ho.alloc _).alloc _) ⟨wr.heap.size + 1, 0, none⟩ 1 1 [.string X.1] rfl rfl ?c1 ?c2 ?c3 ?c4 ?c5 ?_))
          case c1 =>
            intro j u hj
            match j, hj with
            | 0, hj => simp at hj; subst hj; simp [Addr.add]
          case c2 => intro u hu; simp at hu; subst hu; rfl
          case c3 => unfold maxLen; omega
          case c4 => omega
          case c5 => have := m.size; simp; omega
          · intro v' w1 hown' hgrow _
            have m1 : Mod (fun _ => False) w w1 := by
              have hrow : ∀ q, (Value.slice A' k c').ownBlock = some q → w.heap.size ≤ q := fun q hq => by
                rcases ho.2 with ⟨h0, _⟩ | ⟨g, cap', cur, h0, hb, _⟩
                · rw [h0] at hq; simp [Value.ownBlock] at hq
                · rw [h0] at hq
                  have : g = q := by simpa [Value.ownBlock] using hq
                  omega
              exact ((m.alloc (.cells #[.string X.1, .int .i64 X.2] 68)).alloc (.cells #[.string X.1] 9)).trans' (T := fun q => (Value.slice A' k c').ownBlock = some q) ⟨hgrow.os, hgrow.tape, hgrow.output, hgrow.size, fun q hq hn => hgrow.block q hq (fun e => hn e.symm)⟩ (fun q hq h => by have := hrow q h; omega)
            go_wp2_with fail
            go_roundw
            case rel =>
              refine ⟨k + 1, by omega, by go_num, by rw [hs.out]; exact hown', m1⟩
            case measure => simp [intOf]; omega
        · have : k = L.length := by omega
          subst this
          go_wp2_with fail
          go_ret
          rw [List.take_length] at ho
          exact ⟨_, rfl, ho, m⟩
end Go.Proofs.Ytknijmhhlfooaaa
