/- The specification's changed: its contract. -/
import Derived.Test.YtknijmhhlfooaaaRef2
namespace Go.Proofs.Ytknijmhhlfooaaa
open Go.RowKit
set_option linter.unusedVariables false
set_option linter.unusedSimpArgs false

theorem info31 : (Try.prog.info? 31).map (fun i => (i.zero, i.size, i.bytes)) = some (some (.slice none 0 0), 1, 24) := by kernel_rfl

theorem own_mod {S : Nat → Prop} {w w' : World} {base : Nat} {v : Value} {n size : Nat} {e t : TypeId} {xs : List Value} (h : w.ownsRow base e size v n xs) (m : Mod S w w') (hS : ∀ k, S k → k < w.heap.size → ∃ cs fr, At w k (.cells cs t fr)) (he : e ≠ t) : w'.ownsRow base e size v n xs := by
  refine own_same h (fun g hg => ?_)
  obtain ⟨cur, hc⟩ := own_at h hg
  refine m.block g hc.lt (fun hk => ?_)
  obtain ⟨cs, fr, hk2⟩ := hS g hk hc.lt
  have := At.inj hc hk2
  injection this with _ e2 _
  exact he e2
theorem RowN.own {S : Nat → Prop} {w w' : World} {v : Value} {l : List Pc} {t : TypeId} (h : RowN w v l) (m : Mod S w w') (hS : ∀ k, S k → k < w.heap.size → ∃ cs fr, At w k (.cells cs t fr)) (he : 9 ≠ t) : RowN w' v l := own_mod h m hS he
theorem set_getD {bays : List (List Pc)} {b j : Nat} {L : List Pc} (hb : b < bays.length) : (bays.set b L).getD j [] = if j = b then L else bays.getD j [] := by
  by_cases e : j = b
  · subst e
    rw [if_pos rfl, getD_set_eq hb]
  · rw [if_neg e, getD_set_ne (Ne.symm e)]

theorem own_weaken0 {w : World} {base : Nat} {e : TypeId} {size n : Nat} {v : Value} {xs : List Value} (h : w.ownsRow base e size v n xs) : w.ownsRow 0 e size v n xs := by
  obtain ⟨h1, h2⟩ := h
  refine ⟨h1, ?_⟩
  rcases h2 with h2 | ⟨g, cap, cur, rfl, hg, r⟩
  · exact .inl h2
  · exact .inr ⟨g, cap, cur, rfl, Nat.zero_le _, r⟩

structure ChIn (w2 : World) (bays : List (List Pc)) (b : Nat) (L : List Pc) (i : Nat) (out : Value) (wr : World) : Prop where
  row : ∃ vs : List Value, vs.length = i ∧ wr.ownsRow w2.heap.size 31 1 out i vs ∧ ∀ (j : Nat) x, vs[j]? = some x → RowN wr x ((bays.set b L).getD j [])
  m : Mod (fun _ => False) w2 wr

theorem ChIn.step {w2 : World} {bays : List (List Pc)} {b : Nat} {L : List Pc} {i : Nat} {out : Value} {wr w1 : World} {v' x : Value} {vs : List Value} (hv : vs.length = i)
    (ho : wr.ownsRow w2.heap.size 31 1 out i vs) (hr : ∀ (j : Nat) x, vs[j]? = some x → RowN wr x ((bays.set b L).getD j [])) (m : Mod (fun _ => False) w2 wr)
    (hx : RowN wr x ((bays.set b L).getD i [])) (o : Obj) (hown : w1.ownsRow w2.heap.size 31 1 v' (i + 1) (vs ++ [x])) (hg : (wr.alloc o).grownBy w1 out.ownBlock) : ChIn w2 bays b L (i + 1) v' w1 := by
  have hrow : ∀ q, out.ownBlock = some q → w2.heap.size ≤ q := fun q hq => by
    rcases ho.2 with ⟨h0, _⟩ | ⟨g, cap', cur, h0, hb, _⟩
    · rw [h0] at hq; simp [Value.ownBlock] at hq
    · rw [h0] at hq
      have : g = q := by simpa [Value.ownBlock] using hq
      omega
  have mg : Mod (fun q => out.ownBlock = some q) (wr.alloc o) w1 := ⟨hg.os, hg.tape, hg.output, hg.size, fun q hq hn => hg.block q hq (fun e => hn e.symm)⟩
  have hS : ∀ k, out.ownBlock = some k → k < (wr.alloc o).heap.size → ∃ cs fr, At (wr.alloc o) k (.cells cs 31 fr) := fun k hk _ => by
    obtain ⟨cur, hc⟩ := own_at (ho.alloc o) hk
    exact ⟨cur, _, hc⟩
  have up : ∀ {y l}, RowN wr y l → RowN w1 y l := fun h => (h.mod0 ((Mod.refl _ _).alloc o)).own mg hS (by decide)
  refine ⟨⟨vs ++ [x], by simp [hv], hown, fun j y hy => ?_⟩, (m.alloc o).trans' mg (fun q hq h => by have := hrow q h; omega)⟩
  by_cases e : j < vs.length
  · rw [List.getElem?_append_left e] at hy
    exact up (hr j y hy)
  · rw [List.getElem?_append_right (by omega)] at hy
    have hj : j = i := by
      by_cases h0 : j - vs.length = 0
      · omega
      · obtain ⟨q, hq⟩ := Nat.exists_eq_succ_of_ne_zero h0
        rw [hq] at hy
        simp at hy
    subst hj
    rw [← hv, Nat.sub_self] at hy
    simp at hy
    subst hy
    exact up hx

set_option maxHeartbeats 1600000 in
theorem changed_c {v v2 : Value} {cap : Int} {bays : List (List Pc)} {ag L : List Pc} (b : Nat) (w : World) (h : RefAt w v cap bays ag) (h2 : RowN w v2 L) (hn : bays.length ≤ 16) (hb : b < bays.length) :
    Calls Try.prog 33 #[v, .int .i64 (b : Int), v2] w fun e w' => ∃ v', e = .returned v' ∧ RefAt w' v' cap (bays.set b L) ag ∧ Mod (fun _ => False) w w' := by
  obtain ⟨i0, hi0, hz0, hz1, hz2⟩ := info_parts info31
  obtain ⟨vb, va, rfl, hB, ha⟩ := h
  obtain ⟨A, c, rfl⟩ := ha.val
  obtain ⟨Ab, cb, rfl⟩ := hB.val
  obtain ⟨A2, c2, rfl⟩ := h2.val
  have HB := hid hB
  have Ha := hid ha
  have H2 := hid h2
  generalize hw2 : (w.alloc (.cells #[.int .i64 cap, .slice Ab bays.length cb, .slice A ag.length c] 47)).alloc (.cells #[.int .i64 0, .slice none 0 0, .slice none 0 0] 47) = w2
  have hbx : At w2 w.heap.size (.cells #[.int .i64 cap, .slice Ab bays.length cb, .slice A ag.length c] 47 (0, 0)) := by rw [← hw2]; exact (At.new _ _).alloc _
  have hbr : At w2 (w.heap.size + 1) (.cells #[.int .i64 0, .slice none 0 0, .slice none 0 0] 47 (0, 0)) := by
    rw [← hw2]
    have := At.new (w.alloc (.cells #[.int .i64 cap, .slice Ab bays.length cb, .slice A ag.length c] 47)) (.cells #[.int .i64 0, .slice none 0 0, .slice none 0 0] 47)
    simpa using this
  have m2 : Mod (fun _ => False) w w2 := by rw [← hw2]; exact ((Mod.refl _ _).alloc _).alloc _
  have Hw2 := hid hw2
  clear hB ha h2 hw2
  go_enter Try.func33, Try.ntmps33
  go_wp2_with fail
  rw [Hw2.out]
  go_loopw [7, 8] (fun r s wr => ∃ i : Nat, i ≤ bays.length ∧ s = .int .i64 i ∧ Hid (ChIn w2 bays b L i r wr))
    (fun r s _ => bays.length - (intOf s).toNat)
  case atStart => exact ⟨0, by omega, rfl, ⟨⟨[], rfl, World.ownsRow_nil _ _ _ _, fun j x hx => by simp at hx⟩, Mod.refl _ _⟩⟩
  case round =>
    obtain ⟨i, hi, rfl, hC⟩ := hrel
    obtain ⟨⟨vs, hvl, ho, hrows⟩, mr⟩ := hC.out
    obtain ⟨Ao, co, rfl⟩ := own_val ho
    have hb3 := hbx.mod mr id
    obtain ⟨e0, e1, e2⟩ := At.three hb3
    have hlt3 := hb3.lt
    have Hrows := hid hrows
    have Hvl := hid hvl
    have hsz := mr.size
    have hsz2 : w.heap.size < w2.heap.size := hbx.lt
    clear hrows hvl
    by_cases hlt : i < bays.length
    · obtain ⟨g, x, rfl, hx, hrow⟩ := (HB.out.mod0 (m2.trans mr)).at_ i hlt
      generalize hLi : bays.getD i [] = Li at hrow
      have HLi := hid hLi
      clear hLi
      have Hrow := hid hrow
      clear hrow
      by_cases hib : i = b
      · subst hib
        go_wp2_with (first | (at_builtin; refine wpList_append_own _ rfl (.tmp 19) (.tmp 21) 45 rfl w2.heap.size 31 i0 (.slice none 0 0) 1 24 Try.underlying45 hi0 hz0 hz1 hz2 rfl (by decide) (.slice Ao i co) i vs rfl (ho.alloc _) ⟨wr.heap.size, 0, none⟩ 1 1 [.slice A2 L.length c2] rfl rfl ?c1 ?c2 ?c3 ?c4 ?c5 ?_))
        case c1 =>
          intro j u hj
          match j, hj with
          | 0, hj => simp at hj; subst hj; simp [Addr.add]
        case c2 => intro u hu; simp at hu; subst hu; rfl
        case c3 => unfold maxLen; omega
        case c4 => omega
        case c5 => simp; omega
        · intro v' w1 hown' hgrow _
          have hx2 : RowN wr (.slice A2 L.length c2) ((bays.set i L).getD i []) := by rw [getD_set_eq hlt]; exact H2.out.mod0 (m2.trans mr)
          have hC1 := hid (ChIn.step Hvl.out ho Hrows.out mr hx2 _ hown' hgrow)
          go_wp2_with fail
          go_roundw
          case rel => exact ⟨i + 1, by omega, by go_num, hC1⟩
          case measure => simp [intOf]; omega
      · have hib' : ¬ ((i : Int) = (b : Int)) := by omega
        have hie : (((i : Int) == (b : Int)) = false) := by simp; omega
        obtain ⟨A1, c1, rfl⟩ := Hrow.out.val
        go_wp2_with (first | (at_builtin; refine wpList_append_own _ rfl (.tmp 23) (.tmp 29) 45 rfl w2.heap.size 31 i0 (.slice none 0 0) 1 24 Try.underlying45 hi0 hz0 hz1 hz2 rfl (by decide) (.slice Ao i co) i vs rfl (ho.alloc _) ⟨wr.heap.size, 0, none⟩ 1 1 [.slice A1 Li.length c1] rfl rfl ?c1 ?c2 ?c3 ?c4 ?c5 ?_))
        case c1 =>
          intro j u hj
          match j, hj with
          | 0, hj => simp at hj; subst hj; simp [Addr.add]
        case c2 => intro u hu; simp at hu; subst hu; rfl
        case c3 => unfold maxLen; omega
        case c4 => omega
        case c5 => simp; omega
        · intro v' w1 hown' hgrow _
          have hx2 : RowN wr (.slice A1 Li.length c1) ((bays.set b L).getD i []) := by rw [getD_set_ne (Ne.symm hib), HLi.out]; exact Hrow.out
          have hC1 := hid (ChIn.step Hvl.out ho Hrows.out mr hx2 _ hown' hgrow)
          go_wp2_with fail
          go_roundw
          case rel => exact ⟨i + 1, by omega, by go_num, hC1⟩
          case measure => simp [intOf]; omega
    · have : i = bays.length := by omega
      subst this
      have hbr3 := hbr.mod mr id
      have hf3 := hb3.free 1
      obtain ⟨r0, r1, r2⟩ := At.three hbr3
      have hf0 := hbr3.free 0
      have hf1 := hbr3.free 1
      have hf2 := hbr3.free 2
      have hrlt := hbr3.lt
      have hne : w.heap.size ≠ w.heap.size + 1 := by omega
      go_wp2_with fail
      have hM : Mod (fun k => k = w.heap.size ∨ k = w.heap.size + 1) wr ((((wr.setCell ⟨w.heap.size, 1, none⟩ (.slice Ao bays.length co)).setCell ⟨w.heap.size + 1, 0, none⟩ (.int .i64 cap)).setCell ⟨w.heap.size + 1, 1, none⟩ (.slice Ao bays.length co)).setCell ⟨w.heap.size + 1, 2, none⟩ (.slice A ag.length c)) :=
        ((((Mod.refl _ _).put _ (fun _ => .inl rfl)).put _ (fun _ => .inr rfl)).put _ (fun _ => .inr rfl)).put _ (fun _ => .inr rfl)
      have hS : ∀ k, (k = w.heap.size ∨ k = w.heap.size + 1) → k < wr.heap.size → ∃ cs fr, At wr k (.cells cs 47 fr) := fun k hk _ => by
        rcases hk with rfl | rfl
        · exact ⟨_, _, hb3⟩
        · exact ⟨_, _, hbr3⟩
      refine bodyPost_ret (v := .agg #[.int .i64 cap, .slice Ao bays.length co, .slice A ag.length c]) (by simp [results, Try.results33, go_sem, *]) rfl ⟨_, rfl, ⟨_, _, rfl, ?_, ?_⟩, ?_⟩
      · refine ⟨vs, by rw [Hvl.out]; simp, ?_, fun j x hx => (Hrows.out j x hx).own hM hS (by decide)⟩
        rw [List.length_set]
        exact own_weaken0 (own_mod ho hM hS (by decide))
      · exact RowN.own (Ha.out.mod0 (m2.trans mr)) hM hS (by decide)
      · exact (m2.trans mr).trans' hM (fun k hk hs => by omega)
end Go.Proofs.Ytknijmhhlfooaaa
