/- The search: from. -/
import Derived.Test.YtdnodloinlijaaaSrch
import Derived.ArgAppend
namespace Go.Proofs.Ytdnodloinlijaaa
open Go.RowKit
set_option linter.unusedVariables false
set_option linter.unusedSimpArgs false

theorem grown_mod {w w1 : World} {v : Value} (hg : w.grownBy w1 v.ownBlock) : Mod (fun q => v.ownBlock = some q) w w1 := ⟨hg.os, hg.tape, hg.output, hg.size, fun q hq hn => hg.block q hq (fun e => hn e.symm)⟩
theorem own_isT {w : World} {N n : Nat} {v : Value} {xs : List Value} (h : w.ownsRow N 3 1 v n xs) {g : Nat} (hg : v.ownBlock = some g) : N ≤ g ∧ isT w g := by
  obtain ⟨cur, hc⟩ := own_at h hg
  exact ⟨own_base h hg, _, _, _, hc, .inr rfl⟩
theorem grown_MT {w w1 : World} {N n : Nat} {v : Value} {xs : List Value} (h : w.ownsRow N 3 1 v n xs) (hg : w.grownBy w1 v.ownBlock) : MT N w w1 := (grown_mod hg).mono (fun q _ hq => own_isT h hq)
theorem At.grown {w w1 : World} {N n : Nat} {v : Value} {xs : List Value} {b : Nat} {cs : Array Value} {t : TypeId} {fr : Nat × Nat} (hb : At w b (.cells cs t fr)) (h : w.ownsRow N 3 1 v n xs) (hg : w.grownBy w1 v.ownBlock) (ht : (3 : TypeId) ≠ t) : At w1 b (.cells cs t fr) :=
  hb.mod (grown_mod hg) (fun e => own_ne h hb ht e.symm)

section
variable {N : Nat} {w : World} {s : Nat} {A : Option Addr} {c : Nat} {l : List Pc} {vr vl vb : Value} {ld bs : List Int} {wt : Int}
theorem SIn.push (h : SIn N w s A c l vr vl vb ld bs wt) {g cap : Nat} {w' : World} {k : Int} (hown : w'.ownsRow N 3 1 (.slice (some ⟨g, 0, none⟩) (ld.length + 1) cap) (ld.length + 1) (ld.map intV ++ [intV k])) (hgr : w.grownBy w' vl.ownBlock) (hat : vl.ownBlock = some g ∨ g = w.heap.size) :
    At w' s (.cells #[.slice A l.length c, vr, vl, vb, .int .i64 wt] 52 (0, 0)) ∧
    SIn N (w'.setCell ⟨s, 2, none⟩ (.slice (some ⟨g, 0, none⟩) (ld.length + 1) cap)) s A c l vr (.slice (some ⟨g, 0, none⟩) (ld.length + 1) cap) vb (ld ++ [k]) bs wt ∧ MT N w (w'.setCell ⟨s, 2, none⟩ (.slice (some ⟨g, 0, none⟩) (ld.length + 1) cap)) := by
  have hs' := h.hs.grown h.hl hgr (by decide)
  have m1 := grown_MT h.hl hgr
  have mm := m1.put (i := 2) (.slice (some ⟨g, 0, none⟩) (ld.length + 1) cap) hs' (.inl rfl) h.sN
  have far : ∀ {v : Value}, (∀ q, vl.ownBlock = some q → v.ownBlock ≠ some q) → ∀ {n : Nat} {xs : List Value}, w.ownsRow N 3 1 v n xs → w'.ownsRow N 3 1 v n xs := by
    intro v hv n xs ho
    exact own_mod ho (grown_mod hgr) (fun q hq hl => hv q hl hq)
  have dist : ∀ {v : Value} {n : Nat} {xs : List Value}, w.ownsRow N 3 1 v n xs → (∀ q, vl.ownBlock = some q → v.ownBlock ≠ some q) → v.ownBlock ≠ some g := by
    intro v n xs ho hv e
    rcases hat with q | q
    · exact hv g q e
    · have := own_lt ho e
      omega
  refine ⟨hs', ⟨hs'.put 2 _, h.sN, own_store (far h.d1 h.hr) hs', ?_, own_store (far h.d2 h.hb) hs', ?_, ?_, h.hp.far h.pN mm, h.pN⟩, mm⟩
  · have e : (ld ++ [k]).map intV = ld.map intV ++ [intV k] := by simp
    rw [e, List.length_append]
    exact own_store hown hs'
  · intro q hq
    simp [Value.ownBlock] at hq
    subst hq
    exact dist h.hr h.d1
  · intro q hq
    simp [Value.ownBlock] at hq
    subst hq
    exact dist h.hb h.d2
theorem SIn.better (h : SIn N w s A c l vr vl vb ld bs wt) {v' : Value} {B : Nat} (hown : w.ownsRow B 3 1 v' ld.length (ld.map intV)) (hB : N ≤ B) (hlv : ∀ g, vl.ownBlock = some g → g < B) (wt' : Int) :
    SIn N ((w.setCell ⟨s, 3, none⟩ v').setCell ⟨s, 4, none⟩ (.int .i64 wt')) s A c l vr vl v' ld ld wt' ∧ MT N w ((w.setCell ⟨s, 3, none⟩ v').setCell ⟨s, 4, none⟩ (.int .i64 wt')) := by
  have hs1 := h.hs.put 3 v'
  have m1 := (MT.refl N w).put (i := 3) v' h.hs (.inl rfl) h.sN
  have m2 := m1.put (i := 4) (.int .i64 wt') hs1 (.inl rfl) h.sN
  refine ⟨⟨hs1.put 4 _, h.sN, own_store (own_store h.hr h.hs) hs1, own_store (own_store h.hl h.hs) hs1, own_store (own_store (own_down hown hB) h.hs) hs1, h.d1, ?_, h.hp.far h.pN m2, h.pN⟩, m2⟩
  intro g hg e
  have h1 := hlv g hg
  have h2 := own_base hown e
  omega
theorem SIn.pop {g m cap : Nat} {k : Int} (h : SIn N w s A c l vr (.slice (some ⟨g, 0, none⟩) (m + 1) cap) vb (ld ++ [k]) bs wt) (hm : ld.length = m) :
    SIn N (w.setCell ⟨s, 2, none⟩ (.slice (some ⟨g, 0, none⟩) m cap)) s A c l vr (.slice (some ⟨g, 0, none⟩) m cap) vb ld bs wt ∧ MT N w (w.setCell ⟨s, 2, none⟩ (.slice (some ⟨g, 0, none⟩) m cap)) := by
  have m1 := (MT.refl N w).put (i := 2) (.slice (some ⟨g, 0, none⟩) m cap) h.hs (.inl rfl) h.sN
  have hl := h.hl
  rw [List.length_append, hm, List.map_append] at hl
  refine ⟨⟨h.hs.put 2 _, h.sN, own_store h.hr h.hs, ?_, own_store h.hb h.hs, fun q hq => h.d1 q hq, fun q hq => h.d2 q hq, h.hp.far h.pN m1, h.pN⟩, m1⟩
  rw [hm]
  exact own_store (ownsRow_pop (by simp [hm]) hl) h.hs
end

theorem srch_nil (i : Nat) (wt l0 l1 : Int) (ld : List Int) (st : List Int × Int) : srch [] i wt l0 l1 ld st = st := rfl
theorem srch_cons (p : Pc) (r : List Pc) (i : Nat) (wt l0 l1 : Int) (ld : List Int) (st : List Int × Int) : srch (p :: r) i wt l0 l1 ld st = if st.2 < wt + sumX (p :: r) then
      if l0 < p.w ∨ l1 < p.v then srch r (i + 1) wt l0 l1 ld st
      else srch r (i + 1) wt l0 l1 ld (srch r (i + 1) (wt + p.x) (l0 - p.w) (l1 - p.v) (ld ++ [(i : Int)]) (upd (ld ++ [(i : Int)]) (wt + p.x) st))
    else st := rfl
theorem intV_one (ld : List Int) : ∀ u ∈ ld.map intV, u.oneCell' = true := fun u hu => by
  obtain ⟨x, _, rfl⟩ := List.mem_map.1 hu
  rfl

set_option maxRecDepth 100000 in
set_option maxHeartbeats 4000000 in
theorem from_c (N s : Nat) (A : Option Addr) (c : Nat) (l : List Pc) (h16 : l.length ≤ 16) (hok : l.all okP = true) : ∀ (m i : Nat), l.length - i = m → i ≤ l.length → ∀ (wt l0 l1 : Int) (ld bs : List Int) (bw : Int) (w : World), SAt N w s A c l ld bs bw →
    0 ≤ wt → wt ≤ i * 1000000000000 → 0 ≤ l0 → l0 ≤ 1000000000000 → 0 ≤ l1 → l1 ≤ 1000000000000 → ld.length ≤ i → (bw < wt → ld ≠ []) →
    Calls Try.prog 26 #[.pointer (some ⟨s, 0, none⟩), .int .i64 (i : Int), .int .i64 wt, .agg #[.int .i64 l0, .int .i64 l1]] w fun e w' => e = .returned (.tuple #[]) ∧
      SAt N w' s A c l ld (srch (l.drop i) i wt l0 l1 ld (upd ld wt (bs, bw))).1 (srch (l.drop i) i wt l0 l1 ld (upd ld wt (bs, bw))).2 ∧ MT N w w' := by
  obtain ⟨i0, hi0, hz0, hz1, hz2⟩ := info_parts info3
  have Hok := hid hok
  clear hok
  intro m
  induction m using Nat.strongRecOn with
  | ind m ih =>
    intro i him hil wt l0 l1 ld bs bw w hS hwt0 hwt1 hl00 hl01 hl10 hl11 hldi hgl
    obtain ⟨vr, vl, vb, h⟩ := hS
    obtain ⟨T, hT⟩ : ∃ T, T = srch (l.drop i) i wt l0 l1 ld (upd ld wt (bs, bw)) := ⟨_, rfl⟩
    rw [← hT]
    have HT := hid hT
    have IH := hid ih
    have Him := hid him
    obtain ⟨w1, hw1⟩ : ∃ w1 : World, w1 = w.alloc (.cells #[.int .i64 l0, .int .i64 l1] 41) := ⟨_, rfl⟩
    have m1 : Mod (fun _ => False) w w1 := by rw [hw1]; exact (Mod.refl _ _).alloc _
    have HL1 := hid (show At w1 w.heap.size (.cells #[.int .i64 l0, .int .i64 l1] 41 (0, 0)) from by rw [hw1]; exact At.new _ _)
    have H1 := hid (h.mod0 m1)
    have Hw1 := hid hw1
    have M1 := hid m1
    have Hgl := hid hgl
    obtain ⟨c0, c1, c2, c3, c4⟩ := At.five H1.out.hs
    have f3 := H1.out.hs.free 3
    have f4 := H1.out.hs.free 4
    have hsl := H1.out.hs.lt
    clear hT ih him h hw1 m1 hgl c0 c1
    go_enter Try.func26, Try.ntmps26
    go_upto_region 1 with fail
    rw [← Hw1.out]
    go_upto_if 14 with fail
    go_cut [1] from 9 to 27 (fun s1 wx => s1 = .int .i64 (i : Int) ∧ Hid (SAt N wx s A c l ld (upd ld wt (bs, bw)).1 (upd ld wt (bs, bw)).2) ∧ Hid (MT N w1 wx))
    case first =>
      by_cases hgt : bw < wt
      · have eu : upd ld wt (bs, bw) = (ld, wt) := by unfold upd; rw [if_pos hgt]
        have hpos : 0 < ld.length := List.length_pos_iff.2 (Hgl.out hgt)
        obtain ⟨g, cap, hv, hgN, hgl⟩ := H1.out.hl.form hpos
        have Hv := hid hv
        rw [hv] at c2
        have hcells := hid ((H1.out.hl.alloc (.cells #[] 3)))
        have Eu := hid eu
        have hsN := H1.out.sN
        clear hv eu
        go_wp2_with (first | (at_builtin; refine wpList_append_grows _ rfl (.tmp 17) (.tmp 21) 25 rfl 3 i0 (.int .i64 0) 1 8 Try.underlying25 hi0 hz0 hz1 hz2 rfl (by decide) (some ⟨w1.heap.size, 0, none⟩) 0 0 [] rfl (fun h => by cases h) rfl (fun _ _ j u h => by simp at h) ⟨g, 0, none⟩ ld.length cap (ld.map intV) rfl (by simp) ?d1 (intV_one ld) (by omega) ?d2 ?d3 ?_))
        case d1 =>
          intro j u hj
          have q := hcells.out
          rw [Hv.out] at q
          exact q.cells (g := g) rfl j u hj
        case d2 => unfold maxLen; omega
        case d3 => omega
        intro v' w2 hown hgr
        obtain ⟨A', c', rfl⟩ := own_val hown
        obtain ⟨v', hv'⟩ : ∃ v', v' = Value.slice A' ld.length c' := ⟨_, rfl⟩
        rw [← hv'] at hown
        have m2 : Mod (fun _ => False) w1 w2 := ((Mod.refl _ w1).alloc (.cells #[] 3)).trans ⟨hgr.os, hgr.tape, hgr.output, hgr.size, fun k hk _ => hgr.block k hk (by simp)⟩
        have h2 := H1.out.mod0 m2
        obtain ⟨d0, d1, d2, d3, d4⟩ := At.five h2.hs
        have e3 := h2.hs.free 3
        have e4 := h2.hs.free 4
        have hsl2 := h2.hs.lt
        have hown' : w2.ownsRow w1.heap.size 3 1 v' ld.length (ld.map intV) := own_down hown (by omega)
        have hb := h2.better hown' (by omega) (fun q hq => own_lt H1.out.hl hq) wt
        have HB := hid (show SAt N ((w2.setCell ⟨s, 3, none⟩ v').setCell ⟨s, 4, none⟩ (.int .i64 wt)) s A c l ld (upd ld wt (bs, bw)).1 (upd ld wt (bs, bw)).2 from by rw [Eu.out]; exact ⟨_, _, _, hb.1⟩)
        have MB := hid ((MT.of0 (B := N) m2).trans hb.2)
        rw [hv'] at HB MB
        clear hv'
        clear hb hown hown' hgr h2 m2 hcells d0 d1 d2 c2 c3 c4 f3 f4
        go_wp2_with fail
        go_meet
        exact ⟨rfl, HB, MB⟩
      · have eu : upd ld wt (bs, bw) = (bs, bw) := by unfold upd; rw [if_neg hgt]
        have HB := hid (show SAt N w1 s A c l ld (upd ld wt (bs, bw)).1 (upd ld wt (bs, bw)).2 from by rw [eu]; exact ⟨_, _, _, H1.out⟩)
        have MB := hid (MT.refl N w1)
        clear eu
        go_wp2_with fail
        go_meet
        exact ⟨rfl, HB, MB⟩
    case rest =>
      obtain ⟨rfl, HB, MB⟩ := hcut
      clear c2 c3 c4 f3 f4 hsl
      go_wp2_with fail
      go_loopw [1] (fun s1 wr => ∃ (k : Nat) (bs' : List Int) (bw' : Int), i ≤ k ∧ k ≤ l.length ∧ s1 = .int .i64 (k : Int) ∧ Hid (srch (l.drop k) k wt l0 l1 ld (bs', bw') = T) ∧ Hid (SAt N wr s A c l ld bs' bw') ∧ Hid (At wr w.heap.size (.cells #[.int .i64 l0, .int .i64 l1] 41 (0, 0))) ∧ Hid (MT N w1 wr))
        (fun s1 _ => l.length - (intOf s1).toNat)
      case atStart => exact ⟨i, _, _, Nat.le_refl _, hil, rfl, hid HT.out.symm, HB, hid (MT.at_ HL1.out MB.out (by decide)), MB⟩
      case round =>
        clear HB MB
        obtain ⟨k, bs', bw', hik, hkl, rfl, hgo, hS, hL, hM⟩ := hrel
        obtain ⟨vr', vl', vb', h⟩ := hS.out
        obtain ⟨c0, c1, c2, c3, c4⟩ := At.five h.hs
        have H := hid h
        have hsl := h.hs.lt
        clear h
        by_cases hlt : k < l.length
        · obtain ⟨p, hp⟩ := getE hlt
          have hg := hgo.out
          have hX := sumX_drop Hok.out h16 k
          have hpe := hp
          rw [drop_at hp, srch_cons, ← drop_at hp] at hg
          obtain ⟨R, cR, hvR, _, hRl⟩ := H.out.hr.form (by omega)
          have hrc := H.out.hr
          rw [hvR] at hrc
          have y : wr.cell? ⟨R, k, none⟩ = some (.int .i64 (sumX (l.drop k))) := by
            have q := hrc.cells (g := R) rfl k (intV (sumX (l.drop k))) (by rw [List.getElem?_map, rests_get l k (by omega)]; rfl)
            rw [add_plain] at q
            exact q
          rw [hvR] at c1
          clear hrc
          have HvR := hid hvR
          have Hp := hid hp
          generalize hXe : sumX (l.drop k) = X at y hX hg
          obtain ⟨hX0, hX1⟩ := hX
          have hk1 : (k : Int) < l.length := by omega
          have hk2 : (k : Int) < (l.length : Int) + 1 := by omega
          have hw0 : IntKind.i64.wrap (wt + X) = wt + X := wrap_ok _ (by omega) (by omega)
          clear hvR hp hpe hXe hgo
          by_cases hgd : bw' < wt + X
          · rw [if_pos hgd] at hg
            have Hg := hid hg
            clear hg
            go_wp2_with fail
            go_quiet (fail)
            obtain ⟨w3, hw3⟩ : ∃ w3, w3 = wr.drewN nq := ⟨_, rfl⟩
            rw [← hw3]
            have m3 : Mod (fun _ => False) wr w3 := by rw [hw3]; exact (Mod.refl _ _).drewN _
            obtain ⟨w4, hw4⟩ : ∃ w4, w4 = w3.alloc (.cells #[.int .i64 p.w, .int .i64 p.v, .int .i64 p.x] 28) := ⟨_, rfl⟩
            have m4 : Mod (fun _ => False) wr w4 := by rw [hw4]; exact m3.alloc _
            have HP4 := hid (show At w4 w3.heap.size (.cells #[.int .i64 p.w, .int .i64 p.v, .int .i64 p.x] 28 (0, 0)) from by rw [hw4]; exact At.new _ _)
            have H4 := hid (H.out.mod0 m4)
            have HL4 := hid (hL.out.mod m4 id)
            have M4 := hid (hM.out.trans (MT.of0 m4))
            have H3 := H.out.mod0 m3
            obtain ⟨d0, _, _, _, _⟩ := At.five H3.hs
            obtain ⟨b, off, hA, hb, x0, x1, x2⟩ := H3.hp.get Hp.out
            have hsl3 := H3.hs.lt
            rw [hA] at d0
            have Hw4 := hid hw4
            clear hw3 hw4 m3 m4 H3 hA c0 c1 c2 c3 c4 y hRl hsl HvR
            go_upto_region 6 with fail
            rw [← Hw4.out]
            obtain ⟨q0, q1, q2⟩ := At.three HP4.out
            obtain ⟨g0, g1⟩ := At.two HL4.out
            have hpl := HP4.out.lt
            clear d0 x0 x1 x2 hsl3 hb
            by_cases hgu : l0 < p.w ∨ l1 < p.v
            · have hg := Hg.out
              rw [if_pos hgu] at hg
              have Hg := hid hg
              clear hg
              have hgu' : l0 < p.w ∨ (¬ l0 < p.w ∧ l1 < p.v) := by omega
              clear hgu
              rcases hgu' with hgu | ⟨hgu, hgv⟩
              · go_wp2_with fail
                go_roundw
                case rel => exact ⟨k + 1, bs', bw', by omega, by omega, by go_num, Hg, hid ⟨_, _, _, H4.out⟩, HL4, M4⟩
                case measure => simp [intOf]; omega
              · go_wp2_with fail
                go_roundw
                case rel => exact ⟨k + 1, bs', bw', by omega, by omega, by go_num, Hg, hid ⟨_, _, _, H4.out⟩, HL4, M4⟩
                case measure => simp [intOf]; omega
            · have n0 : ¬ l0 < p.w := fun q => hgu (.inl q)
              have n1 : ¬ l1 < p.v := fun q => hgu (.inr q)
              have hg := Hg.out
              rw [if_neg hgu] at hg
              obtain ⟨⟨pw0, pw1⟩, ⟨pv0, pv1⟩, ⟨px0, px1⟩⟩ := okP_t (all_get Hok.out Hp.out)
              have ex : IntKind.i64.wrap (wt + p.x) = wt + p.x := wrap_ok _ (by omega) (by omega)
              have ew : IntKind.i64.wrap (l0 - p.w) = l0 - p.w := wrap_ok _ (by omega) (by omega)
              have ev : IntKind.i64.wrap (l1 - p.v) = l1 - p.v := wrap_ok _ (by omega) (by omega)
              have ek : IntKind.i64.wrap ((k : Int) + 1) = (k : Int) + 1 := wrap_ok _ (by omega) (by omega)
              have hcall : ∀ w7, SAt N w7 s A c l (ld ++ [(k : Int)]) bs' bw' → _ := fun w7 h7 => IH.out (l.length - (k + 1)) (by have := Him.out; omega) (k + 1) rfl (by omega) (wt + p.x) (l0 - p.w) (l1 - p.v) (ld ++ [(k : Int)]) bs' bw' w7 h7 (by omega) (by omega) (by omega) (by omega) (by omega) (by omega) (by simp; omega) (fun _ => by simp)
              rw [show ((k + 1 : Nat) : Int) = (k : Int) + 1 from by omega] at hcall
              generalize srch (l.drop (k + 1)) (k + 1) (wt + p.x) (l0 - p.w) (l1 - p.v) (ld ++ [(k : Int)]) (upd (ld ++ [(k : Int)]) (wt + p.x) (bs', bw')) = st8 at hg hcall
              have Hcall := hid hcall
              clear Hg
              have Hg := hid hg
              obtain ⟨_, _, d2, _, _⟩ := At.five H4.out.hs
              have hsl4 := H4.out.hs.lt
              have hsN := H4.out.sN
              have h5 := hid (H4.out.mod0 ((Mod.refl _ w4).alloc (.cells #[.int .i64 (k : Int)] 3)))
              have hld : ld.length ≤ 16 := by omega
              clear hg hcall pw0 pw1 pv0 pv1 px0 px1 hgu
              go_wp2_with (first | (at_builtin; refine wpList_append_lies _ rfl (.tmp 76) (.tmp 78) 25 rfl N 3 i0 (.int .i64 0) 1 8 Try.underlying25 hi0 hz0 hz1 hz2 rfl (by decide) vl' ld.length (ld.map intV) rfl h5.out.hl ⟨w4.heap.size, 0, none⟩ 1 1 [.int .i64 (k : Int)] rfl rfl ?a2 ?a3 (by decide) ?a4 ?a5 ?a6 _ rfl ?_))
              case a3 => rfl
              case a4 => unfold maxLen; omega
              case a5 => omega
              case a6 => omega
              intro g6 cap6 w6 hown6 hgr6 hat6 hlt6
              obtain ⟨hs6, h7, m7⟩ := h5.out.push (k := (k : Int)) hown6 hgr6 (by simpa using hat6)
              have m6 := grown_MT h5.out.hl hgr6
              have HP6 := hid (MT.at_ ((HP4.out).alloc (.cells #[.int .i64 (k : Int)] 3)) m6 (by decide))
              have HL6 := hid (MT.at_ ((HL4.out).alloc (.cells #[.int .i64 (k : Int)] 3)) m6 (by decide))
              obtain ⟨w7, hw7⟩ : ∃ w7, w7 = w6.setCell ⟨s, 2, none⟩ (.slice (some ⟨g6, 0, none⟩) (ld.length + 1) cap6) := ⟨_, rfl⟩
              rw [← hw7] at h7 m7
              have hns : w3.heap.size ≠ s := (cells_ne hs6 HP6.out (by decide)).symm
              have hnl : w.heap.size ≠ s := (cells_ne hs6 HL6.out (by decide)).symm
              have HP7 := hid (show At w7 w3.heap.size (.cells #[.int .i64 p.w, .int .i64 p.v, .int .i64 p.x] 28 (0, 0)) from by rw [hw7]; exact At.other HP6.out _ _ hns)
              have HL7 := hid (show At w7 w.heap.size (.cells #[.int .i64 l0, .int .i64 l1] 41 (0, 0)) from by rw [hw7]; exact At.other HL6.out _ _ hnl)
              have M7 := hid (M4.out.trans (((MT.refl N w4).alloc (.cells #[.int .i64 (k : Int)] 3)).trans m7))
              have H7 := hid (show SAt N w7 s A c l (ld ++ [(k : Int)]) bs' bw' from ⟨_, _, _, h7⟩)
              have Hw7 := hid hw7
              obtain ⟨_, _, s2, _, _⟩ := At.five hs6
              have sf := hs6.free 2
              have sl := hs6.lt
              clear hw7 h7 m7 hs6 m6 hown6 hgr6 hat6 hlt6 d2 hsl4 q0 q1 q2 g0 g1 hpl hns hnl hsN h5
              go_upto_region 8 with fail
              rw [← Hw7.out]
              clear s2 sf sl Hw7
              obtain ⟨q0, q1, q2⟩ := At.three HP7.out
              obtain ⟨g0, g1⟩ := At.two HL7.out
              go_wp2_with fail
              refine (Hcall.out w7 H7.out).mono ?_
              rintro e w8 ⟨rfl, hS8, m8⟩
              obtain ⟨bs8, bw8⟩ := st8
              simp only at hS8
              have HL8 := hid (MT.at_ HL7.out m8 (by decide))
              have M8 := hid (M7.out.trans m8)
              obtain ⟨vr8, vl8, vb8, h8⟩ := hS8
              obtain ⟨g8, cap8, hv8, _, _⟩ := h8.hl.form (by simp)
              rw [List.length_append, List.length_singleton] at hv8
              subst hv8
              have hcap8 : ld.length + 1 ≤ cap8 := by
                rcases h8.hl.2 with ⟨q, _⟩ | ⟨g', c', cur, he, _, _, q, _⟩
                · cases q
                · rw [List.length_append, List.length_singleton] at he q
                  cases he
                  exact q
              obtain ⟨h9, m9⟩ := h8.pop rfl
              obtain ⟨_, _, s2, _, _⟩ := At.five h8.hs
              have sf := h8.hs.free 2
              have sl := h8.hs.lt
              have hc1 : ld.length ≤ cap8 := by omega
              have hc2 : (ld.length : Int) ≤ (cap8 : Int) := by omega
              have hc3 : (ld.length : Int) + 1 ≤ (cap8 : Int) := by omega
              have hc4 : IntKind.i64.wrap (ld.length : Int) = (ld.length : Int) := wrap_ok _ (by omega) (by omega)
              have hc5 : (0 : Int) ≤ (ld.length : Int) := by omega
              have H9 := hid h9
              have M9 := hid (M8.out.trans m9)
              have hnl8 : w.heap.size ≠ s := (cells_ne h8.hs HL8.out (by decide)).symm
              have HL9 := hid (At.other HL8.out ⟨s, 2, none⟩ (.slice (some ⟨g8, 0, none⟩) ld.length cap8) hnl8)
              clear q0 q1 q2 g0 g1 h8 h9 m9 m8 hnl8 ex ew ev
              go_wp2_with fail
              refine wp_region_still_tail 14 (by kernel_rfl) (by kernel_rfl) ?_
              simp only [List.take_succ_cons, List.take_zero, List.drop_succ_cons, List.drop_zero]
              change wpStill Try.prog _ (World.drew w8) (fun a' => wpList Try.prog _ _ _ a' (World.drew w8)) _ _
              repeat still_step
              refine wpStill_nil ?_
              go_wp2_with fail
              go_roundw
              case rel => exact ⟨k + 1, bs8, bw8, by omega, by omega, by go_num, Hg, hid ⟨_, _, _, H9.out.mod0 (Mod.refl _ _).drew⟩, hid HL9.out.drew, hid M9.out.drew⟩
              case measure => simp [intOf]; omega
          · rw [if_neg hgd] at hg
            subst hg
            go_wp2_with fail
            go_quiet (fail)
            go_wp2_with fail
            go_end0
            exact ⟨rfl, ⟨_, _, _, H.out.mod0 ((Mod.refl _ _).drewN _)⟩, (MT.of0 M1.out).trans (hM.out.trans (MT.of0 ((Mod.refl _ _).drewN _)))⟩
        · obtain rfl : k = l.length := by omega
          have hg := hgo.out
          rw [List.drop_length, srch_nil] at hg
          subst hg
          go_wp2_with fail
          go_quiet (fail)
          go_wp2_with fail
          go_end0
          exact ⟨rfl, ⟨_, _, _, H.out.mod0 ((Mod.refl _ _).drewN _)⟩, (MT.of0 M1.out).trans (hM.out.trans (MT.of0 ((Mod.refl _ _).drewN _)))⟩
end Go.Proofs.Ytdnodloinlijaaa
