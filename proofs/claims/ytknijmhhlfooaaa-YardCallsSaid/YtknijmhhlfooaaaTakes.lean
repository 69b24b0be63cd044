/- The law YardTakes: its walk. -/
import Derived.Test.YtknijmhhlfooaaaFinds
import Derived.Deep.RegionHeld3
import Derived.Deep.RegionWith
namespace Go.Proofs.Ytknijmhhlfooaaa
open Go.RowKit
set_option linter.unusedVariables false
set_option linter.unusedSimpArgs false

theorem YardAt.apart {F G : Nat → Prop} {w w' : World} {y : Nat} {cap puts : Int} {bays : List (List Pc)} (h : YardAt F w y cap puts bays) (m : MT G w w') (hd : ∀ k, F k → G k → False) : YardAt F w' y cap puts bays := by
  obtain ⟨B, c, ps, vs, h⟩ := h
  exact ⟨B, c, ps, vs, h.keep m (fun k hk _ _ hg => by
    rcases hk with hk | rfl
    · exact hd k hk hg.1
    · exact hd _ h.fB hg.1)⟩
theorem YardAt.mono {F G : Nat → Prop} {w : World} {y : Nat} {cap puts : Int} {bays : List (List Pc)} (h : YardAt F w y cap puts bays) (hG : ∀ k, k < w.heap.size → F k → G k) : YardAt G w y cap puts bays := by
  obtain ⟨B, c, ps, vs, h⟩ := h
  exact ⟨B, c, ps, vs, h.mono hG⟩

theorem starts_c (b1 b2 : Nat) (v1 v2 : Value) (l1 l2 : List Pc) (w : World) (h1 : w.ownsRow b1 9 1 v1 l1.length (names l1)) (h2 : w.ownsRow b2 9 1 v2 l2.length (names l2)) (hp : l2 <+: l1) (hl : l1.length ≤ 1000) :
    Calls Try.prog 24 #[v1, v2] w fun e w' => e = .returned (.bool true) ∧ Mod (fun _ => False) w w' := by
  obtain ⟨A1, c1, rfl⟩ := own_val h1
  obtain ⟨A2, c2, rfl⟩ := own_val h2
  have hle := hp.length_le
  have hle' : ¬ (l1.length : Int) < l2.length := by omega
  have Hp := hid hp
  clear hp
  go_enter Try.func24, Try.ntmps24
  go_wp2_with fail
  go_loopw [5] (fun s wr => ∃ k : Nat, k ≤ l2.length ∧ s = .int .i64 k ∧ Mod (fun _ => False) w wr)
    (fun s _ => l2.length - (intOf s).toNat)
  case atStart => exact ⟨0, by omega, rfl, Mod.refl _ _⟩
  case round =>
    obtain ⟨k, hk, rfl, m⟩ := hrel
    by_cases hlt : k < l2.length
    · obtain ⟨g1, cap1, hg1, _, hgl1⟩ := h1.form (by omega)
      injection hg1 with hA1 _ hc1
      subst hA1
      subst hc1
      obtain ⟨g2, cap2, hg2, _, hgl2⟩ := h2.form (by omega)
      injection hg2 with hA2 _ hc2
      subst hA2
      subst hc2
      have e : l1[k]? = some (l2[k]) := by
        obtain ⟨r, hr⟩ := Hp.out
        rw [← hr, List.getElem?_append_left hlt, List.getElem?_eq_getElem hlt]
      have x1 : w.cell? ⟨g1, k, none⟩ = some (.string (l2[k]).1) := by
        have := h1.cells (g := g1) rfl k (.string (l2[k]).1) (by simp [names, e])
        rwa [add_plain] at this
      have x2 : w.cell? ⟨g2, k, none⟩ = some (.string (l2[k]).1) := by
        have := h2.cells (g := g2) rfl k (.string (l2[k]).1) (by simp [names, hlt])
        rwa [add_plain] at this
      have y1 := m.keep0 x1
      have y2 := m.keep0 x2
      generalize (l2[k]).1 = q at y1 y2
      have hk1 : (k : Int) < l1.length := by omega
      clear x1 x2 e h1 h2
      go_wp2_with fail
      go_quiet (fail)
      go_wp2_with fail
      go_roundw
      case rel => exact ⟨k + 1, by omega, by go_num, m.drewN _⟩
      case measure => simp [intOf]; omega
    · have : k = l2.length := by omega
      subst this
      go_wp2_with fail
      go_ret
      exact ⟨rfl, m⟩

/-- What a take leaves. -/
structure Taken (bays bays' : List (List Pc)) (n code fb fa : Int) (ok : Bool) : Prop where
  cases : (ok = false ∧ code = 8 ∧ n = 0 ∧ bays' = bays) ∨ (ok = true ∧ code = 12 ∧ n = 0 ∧ bays' = bays) ∨
    (ok = true ∧ code = 0 ∧ n = fa ∧ ∃ i : Nat, fb = i ∧ i < bays.length ∧ ((bays'.getD i []).length : Int) = ((bays.getD i []).length : Int) - 1 - fa ∧ bays'.getD i [] <+: bays.getD i [] ∧
      (∀ j, j ≠ i → bays.getD j [] <+: bays'.getD j []) ∧ bays'.flatten.length + 1 = bays.flatten.length)

theorem take_shape {cap puts : Int} {bays : List (List Pc)} {ag : List Pc} (it : ByteArray) (hf : Fits cap puts bays) (h : Ages puts bays ag) :
    Taken bays (takeF cap bays it).2.2 (takeF cap bays it).1 (takeF cap bays it).2.1 (find bays it).1 (find bays it).2.1 (find bays it).2.2 := by
  have hta := take_ages it hf h
  rcases find_cases it bays 0 with ⟨h1, h2⟩ | ⟨i, k, hi, hk, he, ⟨x, hx, hxi⟩, _⟩
  · have e : takeF cap bays it = (0, 8, bays) := by
      unfold takeF
      rw [show find bays it = _ from h1]
      simp
    rw [e, show find bays it = _ from h1]
    exact ⟨.inl ⟨rfl, rfl, rfl, rfl⟩⟩
  · have e : takeF cap bays it = if roomTo cap bays i bays.length < ((bays.getD i []).length : Int) - 1 - k then (0, 12, bays) else (((bays.getD i []).length : Int) - 1 - k, 0, takeTop (movesF cap bays i ((bays.getD i []).length - 1 - k)) i) := by
      unfold takeF
      rw [show find bays it = _ from he]
      have e1 : (((0 + i : Nat) : Int)).toNat = i := by omega
      have e2 : (((bays.getD i []).length : Int) - 1 - k).toNat = (bays.getD i []).length - 1 - k := by omega
      simp only [e1, e2]
      rw [if_neg (by simp)]
    rw [show find bays it = _ from he]
    rw [e] at hta ⊢
    split
    · exact ⟨.inr (.inl ⟨rfl, rfl, rfl, rfl⟩)⟩
    · rename_i hroom
      rw [if_neg hroom] at hta
      have M := moves_spec (cap := cap) hi ((bays.getD i []).length - 1 - k) (by omega) (by omega)
      generalize movesF cap bays i ((bays.getD i []).length - 1 - k) = nb at M hta
      have hat : nb.getD i [] = (bays.getD i []).take (k + 1) := by
        rw [M.at_b]
        congr 1
        omega
      have hsn : nb.getD i [] = (bays.getD i []).take k ++ [x] := by
        rw [hat, List.take_add_one, hx]
        rfl
      have hin : i < nb.length := by rw [M.len]; exact hi
      have htop : takeTop nb i = nb.set i ((bays.getD i []).take k) := by rw [takeTop, hsn, List.dropLast_concat]
      have hg : (takeTop nb i).getD i [] = (bays.getD i []).take k := by rw [htop, getD_set_eq hin]
      refine ⟨.inr (.inr ⟨rfl, rfl, rfl, i, by simp, hi, ?_, ?_, fun j hj => ?_, ?_⟩)⟩
      · show (((takeTop nb i).getD i []).length : Int) = _
        rw [hg, List.length_take]
        simp only
        omega
      · show (takeTop nb i).getD i [] <+: _
        rw [hg]
        exact List.take_prefix _ _
      · show _ <+: (takeTop nb i).getD j []
        rw [htop, getD_set_ne (Ne.symm hj)]
        exact M.pre j hj
      · obtain ⟨_, _, h3 | ⟨_, l1, y, l2, hag, _, hA⟩⟩ := hta
        · exact absurd rfl h3.1
        · have p1 := hA.perm.length_eq
          have p2 := h.perm.length_eq
          show (takeTop nb i).flatten.length + 1 = _
          simp only at p1
          rw [p1, p2, hag]
          simp
          omega
end Go.Proofs.Ytknijmhhlfooaaa
