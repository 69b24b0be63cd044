/- The specification's with and without: their contracts. -/
import Derived.Test.YtknijmhhlfooaaaRef3
import Derived.Laws.AppendOwnNone
namespace Go.Proofs.Ytknijmhhlfooaaa
open Go.RowKit
set_option linter.unusedVariables false
set_option linter.unusedSimpArgs false

theorem names_get (l : List Pc) (j : Nat) (u : Value) (h : (names l)[j]? = some u) : ∃ x, l[j]? = some x ∧ u = .string x.1 := by
  simp only [names, List.getElem?_map, Option.map_eq_some_iff] at h
  obtain ⟨x, hx, rfl⟩ := h
  exact ⟨x, hx, rfl⟩
theorem names_one (l : List Pc) : ∀ u ∈ names l, u.oneCell' = true := by
  intro u hu
  simp only [names, List.mem_map] at hu
  obtain ⟨x, _, rfl⟩ := hu
  rfl
theorem RowN.cases {w : World} {v : Value} {l : List Pc} (h : RowN w v l) : (v = .slice none 0 0 ∧ l = []) ∨ ∃ g c, v = .slice (some ⟨g, 0, none⟩) l.length c ∧ l.length ≤ c ∧ g < w.heap.size ∧ ∀ j u, (names l)[j]? = some u → w.cell? ⟨g, j, none⟩ = some u := by
  have h' := h
  rcases h.2 with ⟨rfl, h0⟩ | ⟨g, cap, cur, rfl, _, hh, hc, _⟩
  · exact .inl ⟨rfl, List.eq_nil_of_length_eq_zero h0⟩
  · refine .inr ⟨g, cap, rfl, by omega, At.lt hh, fun j u hu => ?_⟩
    have := World.ownsRow.cells h' (g := g) rfl j u hu
    rwa [add_plain] at this
/-- A fresh row that has grown: nothing older has turned. -/
theorem grown_fresh {w w0 w1 : World} {v : Value} {n e size : Nat} {xs : List Value} (m : Mod (fun _ => False) w w0) (ho : w0.ownsRow w.heap.size e size v n xs) (hg : w0.grownBy w1 v.ownBlock) : Mod (fun _ => False) w w1 := by
  have hrow : ∀ q, v.ownBlock = some q → w.heap.size ≤ q := fun q hq => by
    rcases ho.2 with ⟨h0, _⟩ | ⟨g, cap', cur, h0, hb, _⟩
    · rw [h0] at hq; simp [Value.ownBlock] at hq
    · rw [h0] at hq
      have : g = q := by simpa [Value.ownBlock] using hq
      omega
  exact m.trans' (T := fun q => v.ownBlock = some q) ⟨hg.os, hg.tape, hg.output, hg.size, fun q hq hn => hg.block q hq (fun e => hn e.symm)⟩ (fun q hq h => by have := hrow q h; omega)

theorem with_c (v : Value) (l : List Pc) (it : ByteArray) (si : Int) (w : World) (h : RowN w v l) (hl : l.length ≤ 1000) :
    Calls Try.prog 34 #[v, .string it] w fun e w' => ∃ v', e = .returned v' ∧ RowN w' v' (l ++ [(it, si)]) ∧ Mod (fun _ => False) w w' := by
  obtain ⟨i0, hi0, hz0, hz1, hz2⟩ := info_parts info9
  have hnil : w.ownsRow w.heap.size 9 1 (.slice none 0 0) 0 [] := World.ownsRow_nil _ _ _ _
  rcases h.cases with ⟨rfl, rfl⟩ | ⟨g, c, rfl, hlc, hg, hcells⟩
  · go_enter Try.func34, Try.ntmps34
    go_wp2_with (first
      | (at_builtin; refine wpList_append_own_none rfl (.tmp 6) (.tmp 7) 31 rfl w.heap.size 9 i0 1 Try.underlying31 hi0 (.slice none 0 0) 0 [] rfl hnil rfl ?_)
      | (at_builtin; refine wpList_append_own _ rfl (.tmp 9) (.tmp 11) 31 rfl w.heap.size 9 i0 (.string ByteArray.empty) 1 16 Try.underlying31 hi0 hz0 hz1 hz2 rfl (by decide) (.slice none 0 0) 0 [] rfl (hnil.alloc _) ⟨w.heap.size, 0, none⟩ 1 1 [.string it] rfl rfl ?c1 ?c2 ?c3 ?c4 ?c5 ?_))
    case c1 =>
      intro j u hj
      match j, hj with
      | 0, hj => simp at hj; subst hj; simp [Addr.add]
    case c2 => intro u hu; simp at hu; subst hu; rfl
    case c3 => unfold maxLen; omega
    case c4 => omega
    case c5 => simp
    · intro v' w1 hown' hgrow _
      have mw := grown_fresh ((Mod.refl _ _).alloc _) (hnil.alloc _) hgrow
      go_wp2_with fail
      go_ret
      exact ⟨_, rfl, own_weaken0 hown', mw⟩
  · go_enter Try.func34, Try.ntmps34
    go_wp2_with (first
      | (at_builtin; refine wpList_append_own _ rfl (.tmp 6) (.tmp 7) 31 rfl w.heap.size 9 i0 (.string ByteArray.empty) 1 16 Try.underlying31 hi0 hz0 hz1 hz2 rfl (by decide) (.slice none 0 0) 0 [] rfl hnil ⟨g, 0, none⟩ l.length c (names l) rfl ?d0 ?d1 ?d2 ?d3 ?d4 ?d5 ?_))
    case d0 => simp [names]
    case d1 => intro j u hj; rw [add_plain]; exact hcells j u hj
    case d2 => exact names_one l
    case d3 => unfold maxLen; omega
    case d4 => omega
    case d5 => omega
    · intro v' w1 hown' hgrow _
      have mw := grown_fresh (Mod.refl _ _) hnil hgrow
      obtain ⟨A1, c1, hv'⟩ := own_val hown'
      subst hv'
      have hsz := mw.size
      go_wp2_with (first
        | (at_builtin; refine wpList_append_own _ rfl (.tmp 9) (.tmp 11) 31 rfl w.heap.size 9 i0 (.string ByteArray.empty) 1 16 Try.underlying31 hi0 hz0 hz1 hz2 rfl (by decide) (.slice A1 l.length c1) l.length (names l) rfl (hown'.alloc _) ⟨w1.heap.size, 0, none⟩ 1 1 [.string it] rfl rfl ?c1 ?c2 ?c3 ?c4 ?c5 ?_))
      case c1 =>
        intro j u hj
        match j, hj with
        | 0, hj => simp at hj; subst hj; simp [Addr.add]
      case c2 => intro u hu; simp at hu; subst hu; rfl
      case c3 => unfold maxLen; omega
      case c4 => omega
      case c5 => simp; omega
      · intro v2 w2 hown2 hgrow2 _
        have mw2 := grown_fresh (mw.alloc _) (hown'.alloc _) hgrow2
        go_wp2_with fail
        go_ret
        refine ⟨_, rfl, ?_, mw2⟩
        have e1 : (names l ++ [.string it] : List Value) = names (l ++ [(it, si)]) := by simp [names]
        rw [e1] at hown2
        unfold RowN
        rw [List.length_append]
        exact own_weaken0 hown2

theorem without_c (v : Value) (l : List Pc) (k : Nat) (w : World) (h : RowN w v l) (hl : l.length ≤ 1000) (hk : k < l.length) :
    Calls Try.prog 36 #[v, .int .i64 (k : Int)] w fun e w' => ∃ v', e = .returned v' ∧ RowN w' v' (l.take k ++ l.drop (k + 1)) ∧ Mod (fun _ => False) w w' := by
  obtain ⟨i0, hi0, hz0, hz1, hz2⟩ := info_parts info9
  have hnil : w.ownsRow w.heap.size 9 1 (.slice none 0 0) 0 [] := World.ownsRow_nil _ _ _ _
  rcases h.cases with ⟨rfl, rfl⟩ | ⟨g, c, rfl, hlc, hg, hcells⟩
  · simp at hk
  · have h1 : (k : Int) ≤ c := by omega
    have h2 : (k : Int) + 1 ≤ l.length := by omega
    have h3 : ((l.length : Nat) : Int) ≤ c := by omega
    go_enter Try.func36, Try.ntmps36
    have hcells1 : ∀ j u, (names (l.take k))[j]? = some u → w.cell? ⟨g, j, none⟩ = some u := fun j u hj => by
      obtain ⟨x, hx, rfl⟩ := names_get _ _ _ hj
      rw [List.getElem?_take] at hx
      split at hx
      · exact hcells j _ (by simp [names, hx])
      · cases hx
    have hcells2 : ∀ j u, (names (l.drop (k + 1)))[j]? = some u → w.cell? ⟨g, k + 1 + j, none⟩ = some u := fun j u hj => by
      obtain ⟨x, hx, rfl⟩ := names_get _ _ _ hj
      rw [List.getElem?_drop] at hx
      exact hcells (k + 1 + j) _ (by simp [names, hx])
    go_wp2_with (first
      | (at_builtin; refine wpList_append_own _ rfl (.tmp 6) (.tmp 9) 31 rfl w.heap.size 9 i0 (.string ByteArray.empty) 1 16 Try.underlying31 hi0 hz0 hz1 hz2 rfl (by decide) (.slice none 0 0) 0 [] rfl hnil ⟨g, 0, none⟩ k c (names (l.take k)) rfl ?d0 ?d1 ?d2 ?d3 ?d4 ?d5 ?_))
    case d0 => simp [names]; omega
    case d1 => intro j u hj; rw [add_plain]; exact hcells1 j u hj
    case d2 => exact names_one _
    case d3 => unfold maxLen; omega
    case d4 => omega
    case d5 => omega
    · intro v' w1 hown' hgrow _
      have mw := grown_fresh (Mod.refl _ _) hnil hgrow
      obtain ⟨A1, c1, hv'⟩ := own_val hown'
      subst hv'
      have hsz := mw.size
      have Hb := mw
      have up : ∀ j u, w.cell? ⟨g, j, none⟩ = some u → w1.cell? ⟨g, j, none⟩ = some u := fun j u h => mw.keep0 h
      by_cases hc : c = k + 1
      · subst hc
        have hm0 : l.length - (k + 1) = 0 := by omega
        have hdr : l.drop (k + 1) = [] := List.drop_eq_nil_of_le (by omega)
        have Hdr := hid hdr
        clear hdr
        go_wp2_with (first
          | (at_builtin; refine wpList_append_own _ rfl (.tmp 11) (.tmp 15) 31 rfl w.heap.size 9 i0 (.string ByteArray.empty) 1 16 Try.underlying31 hi0 hz0 hz1 hz2 rfl (by decide) (.slice A1 k c1) k (names (l.take k)) rfl hown' ⟨g, 0, none⟩ 0 0 [] rfl ?d0 ?d1 ?d2 ?d3 ?d4 ?d5 ?_))
        case d0 => rfl
        case d1 => intro j u hj; simp at hj
        case d2 => intro u hu; simp at hu
        case d3 => unfold maxLen; omega
        case d4 => omega
        case d5 => omega
        · intro v2 w2 hown2 hgrow2 _
          have mw2 := grown_fresh mw hown' hgrow2
          go_wp2_with fail
          go_ret
          refine ⟨_, rfl, ?_, mw2⟩
          rw [Hdr.out, List.append_nil]
          have e2 : (l.take k).length = k := by simp; omega
          unfold RowN
          rw [e2]
          exact own_weaken0 hown2
      · have hc0 : ¬ c - (k + 1) = 0 := by omega
        go_wp2_with (first
          | (at_builtin; refine wpList_append_own _ rfl (.tmp 11) (.tmp 15) 31 rfl w.heap.size 9 i0 (.string ByteArray.empty) 1 16 Try.underlying31 hi0 hz0 hz1 hz2 rfl (by decide) (.slice A1 k c1) k (names (l.take k)) rfl hown' ⟨g, k + 1, none⟩ (l.length - (k + 1)) (c - (k + 1)) (names (l.drop (k + 1))) rfl ?d0 ?d1 ?d2 ?d3 ?d4 ?d5 ?_))
        case d0 => simp [names]
        case d1 => intro j u hj; have e : (⟨g, k + 1, none⟩ : Addr).add j = ⟨g, k + 1 + j, none⟩ := (by unfold Addr.add; split <;> simp_all); rw [e]; exact up _ _ (hcells2 j u hj)
        case d2 => exact names_one _
        case d3 => unfold maxLen; omega
        case d4 => omega
        case d5 => omega
        · intro v2 w2 hown2 hgrow2 _
          have mw2 := grown_fresh mw hown' hgrow2
          go_wp2_with fail
          go_ret
          refine ⟨_, rfl, ?_, mw2⟩
          have e1 : names (l.take k) ++ names (l.drop (k + 1)) = names (l.take k ++ l.drop (k + 1)) := by simp [names]
          have e2 : (l.take k ++ l.drop (k + 1)).length = k + (l.length - (k + 1)) := by simp; omega
          unfold RowN
          rw [e2, ← e1]
          exact own_weaken0 hown2
end Go.Proofs.Ytknijmhhlfooaaa
