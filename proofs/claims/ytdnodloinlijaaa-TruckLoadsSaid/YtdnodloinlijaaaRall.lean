/- The specification's all. -/
import Derived.Test.YtdnodloinlijaaaBef
import Derived.Test.YtdnodloinlijaaaTrow
namespace Go.Proofs.Ytdnodloinlijaaa
open Go.RowKit
set_option linter.unusedVariables false
set_option linter.unusedSimpArgs false

/-- A slice that reads as the bools l. -/
def Bs (w : World) (A : Option Addr) (l : List Bool) : Prop :=
  0 < l.length → ∃ b off t fr arr, A = some ⟨b, off, none⟩ ∧ At w b (.cells arr t fr) ∧ ∀ (i : Nat) (x : Bool), l[i]? = some x → arr[off + i]? = some (.bool x)
theorem Bs.mod0 {w w' : World} {A : Option Addr} {l : List Bool} (h : Bs w A l) (m : Mod (fun _ => False) w w') : Bs w' A l := fun hn => by
  obtain ⟨b, off, t, fr, arr, e, ha, hc⟩ := h hn
  exact ⟨b, off, t, fr, arr, e, ha.mod m id, hc⟩
theorem Bs.get {w : World} {A : Option Addr} {l : List Bool} (h : Bs w A l) {i : Nat} {x : Bool} (hi : l[i]? = some x) :
    ∃ b off, A = some ⟨b, off, none⟩ ∧ b < w.heap.size ∧ w.cell? ⟨b, off + i, none⟩ = some (.bool x) := by
  have hl := (List.getElem?_eq_some_iff.1 hi).1
  obtain ⟨b, off, t, fr, arr, e, ha, hc⟩ := h (by omega)
  exact ⟨b, off, e, ha.lt, (ha.cell _).trans (hc i x hi)⟩
theorem Bs.own {w : World} {base n c : Nat} {A : Option Addr} {l : List Bool} (h : w.ownsRow base 4 1 (.slice A n c) n (l.map Value.bool)) : Bs w A l := fun hn => by
  have hl := h.1
  rw [List.length_map] at hl
  obtain ⟨_, h2⟩ := h
  rcases h2 with ⟨_, h0⟩ | ⟨g, cap, cur, hv, _, hh, _, _, _, ht⟩
  · omega
  · injection hv with hA _ _
    refine ⟨g, 0, _, _, cur, hA, hh, fun i x hi => ?_⟩
    have hil := (List.getElem?_eq_some_iff.1 hi).1
    have e : (cur.toList.take (n * 1))[i]? = some (.bool x) := by
      rw [ht, List.getElem?_map, hi]
      rfl
    rw [List.getElem?_take_of_lt (by omega), Array.getElem?_toList] at e
    rw [Nat.zero_add]
    exact e
theorem info4 : (Try.prog.info? 4).map (fun i => (i.zero, i.size, i.bytes)) = some (some (.bool false), 1, 1) := by kernel_rfl

set_option maxHeartbeats 1600000 in
theorem all_c (n : Nat) (w : World) (hn : n ≤ 16) :
    Calls Try.prog 28 #[.int .i64 (n : Int)] w fun e w' => ∃ A c, e = .returned (.slice A n c) ∧ w'.ownsRow w.heap.size 4 1 (.slice A n c) n ((List.replicate n true).map Value.bool) ∧ Mod (fun _ => False) w w' := by
  obtain ⟨i0, hi0, hz0, hz1, hz2⟩ := info_parts info4
  go_enter Try.func28, Try.ntmps28
  go_wp2_with fail
  go_loopw [3, 4] (fun s3 s4 wr => ∃ (k : Nat) (A : Option Addr) (c : Nat), k ≤ n ∧ s4 = .int .i64 (k : Int) ∧ s3 = .slice A k c ∧ Hid (wr.ownsRow w.heap.size 4 1 s3 k ((List.replicate k true).map Value.bool)) ∧ Hid (Mod (fun _ => False) w wr))
    (fun _ s4 _ => n - (intOf s4).toNat)
  case atStart => exact ⟨0, none, 0, Nat.zero_le _, rfl, rfl, hid (World.ownsRow_nil _ _ _ _), hid (Mod.refl _ _)⟩
  case round =>
    obtain ⟨k, A, c, hk, rfl, rfl, hown, hm⟩ := hrel
    by_cases hlt : k < n
    · have hk1 : (k : Int) < (n : Int) := by omega
      have ho := hid (hown.out.alloc (.cells #[.bool true] 4))
      go_wp2_with (first | (at_builtin; refine wpList_append_lies _ rfl (.tmp 10) (.tmp 11) 43 rfl w.heap.size 4 i0 (.bool false) 1 1 Try.underlying43 hi0 hz0 hz1 hz2 rfl (by decide) (.slice A k c) k ((List.replicate k true).map Value.bool) rfl ho.out ⟨wr.heap.size, 0, none⟩ 1 1 [.bool true] rfl rfl (World.news_of_block (At.new wr (.cells #[.bool true] 4))) ?a3 (by decide) ?a4 ?a5 ?a6 _ rfl ?_))
      case a3 => exact fun u hu => by simp at hu; subst hu; rfl
      case a4 => unfold maxLen; omega
      case a5 => omega
      case a6 => have := (hm.out.alloc (.cells #[.bool true] 4)).size; exact this
      intro g cap w6 hown6 hgr6 hat6 hlt6
      have m6 : Mod (fun _ => False) w w6 := (hm.out.alloc (.cells #[.bool true] 4)).trans' (grown_mod hgr6) (fun i hi e => by have := own_base ho.out e; omega)
      have H6 := hid (show w6.ownsRow w.heap.size 4 1 (.slice (some ⟨g, 0, none⟩) (k + 1) cap) (k + 1) ((List.replicate (k + 1) true).map Value.bool) from by rw [List.replicate_succ']; simpa using hown6)
      have M6 := hid m6
      clear hown6 m6 hgr6 hat6 hlt6 ho
      go_wp2_with fail
      go_roundw
      case rel => exact ⟨k + 1, _, _, by omega, by go_num, rfl, H6, M6⟩
      case measure => simp [intOf]; omega
    · obtain rfl : k = n := by omega
      go_wp2_with fail
      go_ret
      exact ⟨A, c, rfl, hown.out, hm.out⟩
end Go.Proofs.Ytdnodloinlijaaa
