/- The specification's has, bin, with: their contracts. -/
import Derived.Test.YtdipncjbobhbjaaRef2
import Derived.Laws.OwnMore
namespace Go.Proofs.Ytdipncjbobhbjaa
open Go.RowKit Go.Maps
set_option linter.unusedVariables false
set_option linter.unusedSimpArgs false

theorem anyIt_hit {l : List ByteArray} {it : ByteArray} {m : Nat} (hm : m < l.length) (h : l.getD m ByteArray.empty = it) : it ∈ l := by
  have e : l.getD m ByteArray.empty = l[m] := by simp [List.getD_eq_getElem?_getD, hm]
  rw [← h, e]
  exact List.getElem_mem hm

theorem has_c {N : Nat → Prop} {v : Value} {cap : Int} {bins : List Bin} (it : ByteArray) (w : World) (h : RefN N w v cap bins) (hf : Fits cap bins) :
    Calls Try.prog 24 #[v, .string it] w fun e w' => e = .returned (.bool (thereF bins it bins.length)) ∧ Mod (fun _ => False) w w' := by
  obtain ⟨A, c, rfl⟩ := h.val
  have hn := hf.n2
  have HF := hid hf
  have H := hid (h.mod0 ((Mod.refl _ _).alloc (.cells #[.int .i64 cap, .slice A bins.length c] 45)))
  clear h hf
  go_enter Try.func24, Try.ntmps24
  go_wp2_with fail
  go_loopw [5] (fun s5 wr => ∃ i : Nat, i ≤ bins.length ∧ s5 = .int .i64 i ∧ Hid (thereF bins it i = false) ∧ wr = w.alloc (.cells #[.int .i64 cap, .slice A bins.length c] 45))
    (fun s5 _ => bins.length - (intOf s5).toNat)
  case atStart => exact ⟨0, by omega, rfl, rfl, rfl⟩
  case round =>
    obtain ⟨i, hi, rfl, hno, rfl⟩ := hrel
    by_cases hlt : i < bins.length
    · obtain ⟨g, A', cc, rfl, hg, r0, r1, hown⟩ := H.out.row hlt
      have hl := HF.out.len32 i hlt
      have hnext : Hid (thereF bins it (i + 1) = (thereF bins it i || anyIt (bi bins i) it (bi bins i).length)) := rfl
      have hmem : Hid (it ∈ bi bins i → thereF bins it bins.length = true) := fun q => (thereF_of _).2 ⟨i, hlt, q⟩
      generalize bi bins i = l at r1 hl hown hnext hmem
      have Hown := hid hown
      clear hown
      go_wp2_with fail
      go_loopw [6] (fun s6 wx => ∃ k : Nat, k ≤ l.length ∧ s6 = .int .i64 k ∧ Hid (anyIt l it k = false) ∧ wx = w.alloc (.cells #[.int .i64 cap, .slice (some ⟨g, 0, none⟩) bins.length c] 45))
        (fun s6 _ => l.length - (intOf s6).toNat)
      case atStart => exact ⟨0, by omega, rfl, rfl, rfl⟩
      case round =>
        obtain ⟨k, hk, rfl, hak, rfl⟩ := hrel
        by_cases hkl : k < l.length
        · obtain ⟨gl, hA', hgl, hcell⟩ := row_get Hown.out hkl
          subst hA'
          have hhit := hid (anyIt_hit (l := l) (it := it) hkl)
          have hak1 : Hid (anyIt l it (k + 1) = (anyIt l it k || decide (l.getD k ByteArray.empty = it))) := rfl
          generalize l.getD k ByteArray.empty = x at hcell hhit hak1
          by_cases hx : x = it
          · have hq := seq_true hx
            have Hx := hid hx
            clear hx
            go_wp2_with fail
            go_ret
            exact ⟨by rw [hmem.out (hhit.out Hx.out)]; rfl, (Mod.refl _ _).alloc _⟩
          · have hq := seq_false hx
            have Hx := hid hx
            clear hx
            go_wp2_with fail
            go_roundw
            case rel => exact ⟨k + 1, by omega, by go_num, by show _ = _; rw [hak1.out, hak.out]; simp [Hx.out], by first | rfl | trivial⟩
            case measure => simp [intOf]; omega
        · obtain rfl : k = l.length := by omega
          go_wp2_with fail
          go_roundw
          case rel => exact ⟨i + 1, by omega, by go_num, by show _ = _; rw [hnext.out, hno.out, hak.out]; rfl, by first | rfl | trivial⟩
          case measure => simp [intOf]; omega
    · obtain rfl : i = bins.length := by omega
      go_wp2_with fail
      go_ret
      exact ⟨by rw [hno.out]; rfl, (Mod.refl _ _).alloc _⟩

theorem first_at {p : Nat → Bool} {n i : Nat} (hi : i < n) (hp : p i = true) (h : ∀ j, j < i → p j = false) : first p n = i := by
  rcases first_cases p n with ⟨h1, h2⟩ | ⟨k, hk, h1, h2, h3⟩
  · rw [h2 i hi] at hp; cases hp
  · rw [h1]
    rcases Nat.lt_trichotomy k i with q | q | q
    · rw [h k q] at h2; cases h2
    · rw [q]
    · rw [h3 i q] at hp; cases hp
theorem first_none {p : Nat → Bool} {n : Nat} (h : ∀ j, j < n → p j = false) : first p n = -1 := by
  rcases first_cases p n with ⟨h1, h2⟩ | ⟨k, hk, h1, h2, h3⟩
  · exact h1
  · rw [h k hk] at h2; cases h2
theorem toOf_fit {cap : Int} {bins : List Bin} {key : ByteArray} {i : Nat} (hi : i < bins.length) (hp : fitTo cap bins key i = true) (h : ∀ j, j < i → fitTo cap bins key j = false) : toOf cap bins key = i := by
  rw [toOf, first_at hi hp h, if_neg (by omega)]
theorem toOf_vac {cap : Int} {bins : List Bin} {key : ByteArray} {i : Nat} (hf : ∀ j, j < bins.length → fitTo cap bins key j = false) (hi : i < bins.length) (hp : vacant bins i = true) (h : ∀ j, j < i → vacant bins j = false) : toOf cap bins key = i := by
  rw [toOf, first_none hf, if_pos (by decide), first_at hi hp h]
theorem toOf_none {cap : Int} {bins : List Bin} {key : ByteArray} (hf : ∀ j, j < bins.length → fitTo cap bins key j = false) (h : ∀ j, j < bins.length → vacant bins j = false) : toOf cap bins key = -1 := by
  rw [toOf, first_none hf, if_pos (by decide), first_none h]

theorem bin_c {N : Nat → Prop} {v : Value} {cap : Int} {bins : List Bin} (key : ByteArray) (w : World) (h : RefN N w v cap bins) (hf : Fits cap bins) :
    Calls Try.prog 25 #[v, .string key] w fun e w' => e = .returned (.int .i64 (toOf cap bins key)) ∧ Mod (fun _ => False) w w' := by
  obtain ⟨A, c, rfl⟩ := h.val
  have hn := hf.n2
  have HF := hid hf
  have H := hid (h.mod0 ((Mod.refl _ _).alloc (.cells #[.int .i64 cap, .slice A bins.length c] 45)))
  clear h hf
  go_enter Try.func25, Try.ntmps25
  go_wp2_with fail
  go_loopw [5] (fun s5 wr => ∃ i : Nat, i ≤ bins.length ∧ s5 = .int .i64 i ∧ Hid (∀ j, j < i → fitTo cap bins key j = false) ∧ wr = w.alloc (.cells #[.int .i64 cap, .slice A bins.length c] 45))
    (fun s5 _ => bins.length - (intOf s5).toNat)
  case atStart => exact ⟨0, by omega, rfl, fun j hj => by omega, rfl⟩
  case round =>
    obtain ⟨i, hi, rfl, hno, rfl⟩ := hrel
    by_cases hlt : i < bins.length
    · obtain ⟨g, A', cc, rfl, hg, r0, r1, _⟩ := H.out.row hlt
      have hl := HF.out.len32 i hlt
      have hfit : Hid (fitTo cap bins key i = (decide (0 < (bi bins i).length) && (decide (bk bins i = key) && decide (((bi bins i).length : Int) < cap)))) := rfl
      have hto := hid (toOf_fit (cap := cap) (bins := bins) (key := key) hlt)
      generalize (bi bins i).length = L at r1 hl hfit
      generalize bk bins i = K at r0 hfit
      have hnext : fitTo cap bins key i = false → Hid (∀ j, j < i + 1 → fitTo cap bins key j = false) := fun q j hj => by
        by_cases e : j = i
        · subst e; exact q
        · exact hno.out j (by omega)
      have Hnext := hid hnext
      clear hnext
      by_cases h0 : L = 0
      · subst h0
        go_wp2_with fail
        go_roundw
        case rel => exact ⟨i + 1, by omega, by go_num, Hnext.out (by rw [hfit.out]; simp), by first | rfl | trivial⟩
        case measure => simp [intOf]; omega
      · have h1 : (0 : Int) < L := by omega
        by_cases h2 : (L : Int) < cap
        · by_cases h3 : K = key
          · have hq := seq_true h3
            have H3 := hid h3
            have H2 := hid h2
            clear h3
            go_wp2_with fail
            go_ret
            exact ⟨by rw [hto.out (by rw [hfit.out]; simp [H3.out, H2.out]; omega) hno.out]; rfl, (Mod.refl _ _).alloc _⟩
          · have hq := seq_false h3
            have H3 := hid h3
            clear h3
            go_wp2_with fail
            go_roundw
            case rel => exact ⟨i + 1, by omega, by go_num, Hnext.out (by rw [hfit.out]; simp [H3.out]), by first | rfl | trivial⟩
            case measure => simp [intOf]; omega
        · have H2 := hid h2
          go_wp2_with fail
          go_roundw
          case rel => exact ⟨i + 1, by omega, by go_num, Hnext.out (by rw [hfit.out]; simp [H2.out]), by first | rfl | trivial⟩
          case measure => simp [intOf]; omega
    · obtain rfl : i = bins.length := by omega
      go_wp2_with fail
      go_loopw [7] (fun s7 wr => ∃ i : Nat, i ≤ bins.length ∧ s7 = .int .i64 i ∧ Hid (∀ j, j < i → vacant bins j = false) ∧ wr = w.alloc (.cells #[.int .i64 cap, .slice A bins.length c] 45))
        (fun s7 _ => bins.length - (intOf s7).toNat)
      case atStart => exact ⟨0, by omega, rfl, fun j hj => by omega, rfl⟩
      case round =>
        obtain ⟨i, hi, rfl, hva, rfl⟩ := hrel
        by_cases hlt : i < bins.length
        · obtain ⟨g, A', cc, rfl, hg, r0, r1, _⟩ := H.out.row hlt
          have hl := HF.out.len32 i hlt
          have hvac : Hid (vacant bins i = decide ((bi bins i).length = 0)) := rfl
          have hto := hid (toOf_vac (cap := cap) (bins := bins) (key := key) hno.out hlt)
          generalize (bi bins i).length = L at r1 hl hvac
          by_cases h0 : L = 0
          · subst h0
            go_wp2_with fail
            go_ret
            exact ⟨by rw [hto.out (by rw [hvac.out]; simp) hva.out]; rfl, (Mod.refl _ _).alloc _⟩
          · have h1 : ¬ (L : Int) = 0 := by omega
            go_wp2_with fail
            go_roundw
            case rel =>
              refine ⟨i + 1, by omega, by go_num, fun j hj => ?_, by first | rfl | trivial⟩
              by_cases e : j = i
              · subst e; rw [hvac.out]; simp [h0]
              · exact hva.out j (by omega)
            case measure => simp [intOf]; omega
        · obtain rfl : i = bins.length := by omega
          go_wp2_with fail
          go_ret
          exact ⟨by rw [toOf_none hno.out hva.out]; rfl, (Mod.refl _ _).alloc _⟩
end Go.Proofs.Ytdipncjbobhbjaa
