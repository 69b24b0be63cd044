/- The specification's load. -/
import Derived.Test.YtdnodloinlijaaaRall
namespace Go.Proofs.Ytdnodloinlijaaa
open Go.RowKit
set_option linter.unusedVariables false
set_option linter.unusedSimpArgs false

/-- The load that the bits tell, of those that are left. -/
def loadGo (left : List Bool) : List Pc → Nat → Nat → List Int × Pc → Option (List Int × Pc)
  | [], _, _, acc => some acc
  | p :: r, i, bits, acc => if bits / 2 ^ i % 2 = 0 then loadGo left r (i + 1) bits acc else if left.getD i false = true then loadGo left r (i + 1) bits (acc.1 ++ [(i : Int)], plusP acc.2 p) else none
theorem loadGo_cons (left : List Bool) (p : Pc) (r : List Pc) (i bits : Nat) (acc : List Int × Pc) : loadGo left (p :: r) i bits acc = if bits / 2 ^ i % 2 = 0 then loadGo left r (i + 1) bits acc else if left.getD i false = true then loadGo left r (i + 1) bits (acc.1 ++ [(i : Int)], plusP acc.2 p) else none := rfl
def loadF (l : List Pc) (left : List Bool) (bits : Nat) : Option (List Int × Pc) := loadGo left l 0 bits ([], zeroP)
/-- A choice as a value. -/
def Choice (N : Nat) (w : World) (v : Value) (r : Option (List Int × Pc)) : Prop :=
  ∃ A c, v = .agg #[.slice A (r.getD ([], zeroP)).1.length c, .int .i64 (r.getD ([], zeroP)).2.w, .int .i64 (r.getD ([], zeroP)).2.v, .int .i64 (r.getD ([], zeroP)).2.x, .bool r.isSome] ∧
    w.ownsRow N 3 1 (.slice A (r.getD ([], zeroP)).1.length c) (r.getD ([], zeroP)).1.length ((r.getD ([], zeroP)).1.map intV)
theorem info56 : (Try.prog.info? 56).map (fun i => (i.zero, i.size, i.bytes)) = some (some (.agg #[.slice none 0 0, .int .i64 0, .int .i64 0, .int .i64 0, .bool false]), 5, 56) := by kernel_rfl

theorem own_store56 {N : Nat} {w : World} {v : Value} {n s i : Nat} {xs : List Value} {cs : Array Value} {fr : Nat × Nat} {u : Value} (h : w.ownsRow N 3 1 v n xs) (hs : At w s (.cells cs 56 fr)) : (w.setCell ⟨s, i, none⟩ u).ownsRow N 3 1 v n xs :=
  own_same h (fun g hg => Below.heap_setCell w ⟨s, i, none⟩ u g (fun e => own_ne h hs (by decide) (by rw [hg, e])))
theorem put_new {w w' : World} (m : Mod (fun _ => False) w w') {s : Nat} (hs : w.heap.size ≤ s) (i : Nat) (v : Value) : Mod (fun _ => False) w (w'.setCell ⟨s, i, none⟩ v) := m.put v (fun h => by simp only at h; omega)

set_option maxRecDepth 100000 in
set_option maxHeartbeats 4000000 in
theorem load_c (A : Option Addr) (c : Nat) (l : List Pc) (B : Option Addr) (d : Nat) (left : List Bool) (bits : Nat) (w : World) (h : Ps w A l) (h2 : Bs w B left) (h16 : l.length ≤ 16) (hok : l.all okP = true) (hll : left.length = l.length) (hb : bits < 65536) :
    Calls Try.prog 29 #[.slice A l.length c, .slice B l.length d, .int .i64 (bits : Int)] w fun e w' => ∃ v, e = .returned v ∧ Choice w.heap.size w' v (loadF l left bits) ∧ Mod (fun _ => False) w w' := by
  obtain ⟨T, hT⟩ : ∃ T, T = loadF l left bits := ⟨_, rfl⟩
  rw [← hT]
  have HT := hid hT
  have HP := hid h
  have HB := hid h2
  have Hok := hid hok
  obtain ⟨i0, hi0, hz0, hz1, hz2⟩ := info_parts info3
  clear hT h h2 hok
  obtain ⟨w2, hw2⟩ : ∃ w2 : World, w2 = (w.alloc (.cells #[.slice none 0 0, .int .i64 0, .int .i64 0, .int .i64 0, .bool false] 56)).alloc (.cells #[.slice none 0 0, .int .i64 0, .int .i64 0, .int .i64 0, .bool true] 56) := ⟨_, rfl⟩
  have m2 : Mod (fun _ => False) w w2 := by rw [hw2]; exact ((Mod.refl _ _).alloc _).alloc _
  have hR2 : At w2 w.heap.size (.cells #[.slice none 0 0, .int .i64 0, .int .i64 0, .int .i64 0, .bool false] 56 (0, 0)) := by rw [hw2]; exact (At.new _ _).alloc _
  have hC2 : At w2 (w.heap.size + 1) (.cells #[.slice none 0 0, .int .i64 0, .int .i64 0, .int .i64 0, .bool true] 56 (0, 0)) := by rw [hw2]; exact At.new1 _ _ _
  have M2 := hid m2
  have HR2 := hid hR2
  have HC2 := hid hC2
  have Hw2 := hid hw2
  clear hw2 m2 hR2 hC2
  go_enter Try.func29, Try.ntmps29
  go_upto_region 2 with fail
  rw [← Hw2.out]
  clear Hw2
  go_wp2_with fail
  go_loopw [8] (fun s8 wr => ∃ (k : Nat) (S : List Int) (s : Pc) (A3 : Option Addr) (c3 : Nat), k ≤ l.length ∧ s8 = .int .i64 (k : Int) ∧ S.length ≤ k ∧ Hid (loadGo left (l.drop k) k bits (S, s) = T) ∧ Hid (Small k s) ∧
      Hid (At wr w.heap.size (.cells #[.slice none 0 0, .int .i64 0, .int .i64 0, .int .i64 0, .bool false] 56 (0, 0))) ∧ Hid (At wr (w.heap.size + 1) (.cells #[.slice A3 S.length c3, .int .i64 s.w, .int .i64 s.v, .int .i64 s.x, .bool true] 56 (0, 0))) ∧
      Hid (wr.ownsRow w.heap.size 3 1 (.slice A3 S.length c3) S.length (S.map intV)) ∧ Hid (Mod (fun _ => False) w wr))
    (fun s8 _ => l.length - (intOf s8).toNat)
  case atStart => exact ⟨0, [], zeroP, none, 0, Nat.zero_le _, rfl, Nat.le_refl _, hid HT.out.symm, hid (by constructor <;> simp [zeroP]), HR2, HC2, hid (World.ownsRow_nil _ _ _ _), M2⟩
  case round =>
    clear HR2 HC2 M2
    obtain ⟨k, S, s, A3, c3, hk, rfl, hSk, hgo, hsm, hR, hC, hown, hM⟩ := hrel
    obtain ⟨r0, r1, r2, r3, r4⟩ := At.five hR.out
    obtain ⟨c0, c1, c2, c4, c5⟩ := At.five hC.out
    have rf := hR.out.free
    have cf := hC.out.free
    have rf0 := rf 0
    have rf1 := rf 1
    have rf2 := rf 2
    have rf3 := rf 3
    have rf4 := rf 4
    have cf0 := cf 0
    have cf1 := cf 1
    have cf2 := cf 2
    have cf3 := cf 3
    have hRl := hR.out.lt
    have hCl := hC.out.lt
    clear rf cf
    by_cases hlt : k < l.length
    · obtain ⟨p, hp⟩ := getE hlt
      obtain ⟨y, hy⟩ := getE (show k < left.length by omega)
      have hk1 : (k : Int) < l.length := by omega
      have hg := hgo.out
      rw [drop_at hp, loadGo_cons, show left.getD k false = y from by simp [List.getD, hy]] at hg
      have Hp := hid hp
      have Hy := hid hy
      have Hg := hid hg
      clear hp hy hg hgo
      have hbi : ((bits : Int) / 2 ^ k).tmod 2 = ((bits / 2 ^ k % 2 : Nat) : Int) := by
        rw [show ((bits : Int) / 2 ^ k) = ((bits / 2 ^ k : Nat) : Int) from by norm_cast]
        rfl
      by_cases hbit : bits / 2 ^ k % 2 = 0
      · rw [hbit] at hbi
        have hbi0 : ((bits : Int) / 2 ^ k).tmod 2 = 0 := hbi
        have hg := Hg.out
        rw [if_pos hbit] at hg
        have Hg := hid hg
        clear hbi hg
        go_wp2_with fail
        go_roundw
        case rel => exact ⟨k + 1, S, s, A3, c3, by omega, by go_num, by omega, Hg, hid (by obtain ⟨b1, b2, b3, b4, b5, b6⟩ := hsm.out; constructor <;> omega), hR, hC, hown, hM⟩
        case measure => simp [intOf]; omega
      · have hb1 : bits / 2 ^ k % 2 = 1 := by omega
        rw [hb1] at hbi
        have hbi0 : ((bits : Int) / 2 ^ k).tmod 2 = 1 := hbi
        have hg := Hg.out
        rw [if_neg hbit] at hg
        have Hg := hid hg
        obtain ⟨b43, o43, rfl, hb43, x43⟩ := (HB.out.mod0 hM.out).get Hy.out
        clear hbi hg hb1 hbit
        cases y with
        | false =>
          have hg := Hg.out
          rw [if_neg (by decide)] at hg
          subst hg
          go_wp2_with fail
          refine bodyPost_ret (v := .agg #[.slice none 0 0, .int .i64 0, .int .i64 0, .int .i64 0, .bool false]) (by simp [results, Try.results29, go_sem, r0, r1, r2, r3, r4]) rfl ⟨_, rfl, ⟨none, 0, rfl, World.ownsRow_nil _ _ _ _⟩, ?_⟩
          exact put_new (put_new (put_new (put_new (put_new hM.out (Nat.le_refl _) _ _) (Nat.le_refl _) _ _) (Nat.le_refl _) _ _) (Nat.le_refl _) _ _) (Nat.le_refl _) _ _
        | true =>
          have hg := Hg.out
          rw [if_pos rfl] at hg
          have Hg := hid hg
          have ho := hid (hown.out.alloc (.cells #[.int .i64 (k : Int)] 3))
          clear hg
          go_upto_region 8 with fail
          go_wp2_with (first | (at_builtin; refine wpList_append_lies _ rfl (.tmp 29) (.tmp 31) 25 rfl w.heap.size 3 i0 (.int .i64 0) 1 8 Try.underlying25 hi0 hz0 hz1 hz2 rfl (by decide) (.slice A3 S.length c3) S.length (S.map intV) rfl ho.out ⟨wr.heap.size, 0, none⟩ 1 1 [.int .i64 (k : Int)] rfl rfl (World.news_of_block (At.new wr (.cells #[.int .i64 (k : Int)] 3))) ?a3 (by decide) ?a4 ?a5 ?a6 _ rfl ?_))
          case a3 => rfl
          case a4 => unfold maxLen; omega
          case a5 => omega
          case a6 => have := hM.out.size; omega
          intro g cap w6 hown6 hgr6 hat6 hlt6
          have m6 : Mod (fun _ => False) w w6 := (hM.out.alloc (.cells #[.int .i64 (k : Int)] 3)).trans' (grown_mod hgr6) (fun i hi e => by have := own_base ho.out e; omega)
          have hC6 := (hC.out.alloc (.cells #[.int .i64 (k : Int)] 3)).grown ho.out hgr6 (by decide)
          have hR6 := (hR.out.alloc (.cells #[.int .i64 (k : Int)] 3)).grown ho.out hgr6 (by decide)
          obtain ⟨w7, hw7⟩ : ∃ w7 : World, w7 = w6.setCell ⟨w.heap.size + 1, 0, none⟩ (.slice (some ⟨g, 0, none⟩) (S.length + 1) cap) := ⟨_, rfl⟩
          have HC7 := hid (show At w7 (w.heap.size + 1) (.cells #[.slice (some ⟨g, 0, none⟩) (S.length + 1) cap, .int .i64 s.w, .int .i64 s.v, .int .i64 s.x, .bool true] 56 (0, 0)) from by rw [hw7]; exact hC6.put 0 _)
          have HR7 := hid (show At w7 w.heap.size (.cells #[.slice none 0 0, .int .i64 0, .int .i64 0, .int .i64 0, .bool false] 56 (0, 0)) from by rw [hw7]; exact hR6.other _ _ (by simp))
          have Ho7 := hid (show w7.ownsRow w.heap.size 3 1 (.slice (some ⟨g, 0, none⟩) (S.length + 1) cap) (S.length + 1) ((S ++ [(k : Int)]).map intV) from by rw [hw7, List.map_append]; exact own_store56 hown6 hC6)
          have M7 := hid (show Mod (fun _ => False) w w7 from by rw [hw7]; exact put_new m6 (by omega) _ _)
          obtain ⟨d0, _, _, _, _⟩ := At.five hC6
          have df0 := hC6.free 0
          have hCl6 := hC6.lt
          have Hw7 := hid hw7
          clear hown6 hgr6 hat6 hlt6 m6 hC6 hR6 hw7 ho r0 r1 r2 r3 r4 c0 c1 c2 c4 c5 rf0 rf1 rf2 rf3 rf4 cf0 cf1 cf2 cf3 x43
          go_upto_region 9 with fail
          rw [← Hw7.out]
          clear Hw7 d0 df0 hCl6
          obtain ⟨b9, o9, rfl, hb9, x0, x1, x2⟩ := (HP.out.mod0 M7.out).get Hp.out
          obtain ⟨c0, c1, c2, c4, c5⟩ := At.five HC7.out
          have HCd := hid HC7.out.drew
          have HRd := hid HR7.out.drew
          have Hod := hid Ho7.out.drew
          have Md := hid M7.out.drew
          have hokp := hid (all_get Hok.out Hp.out)
          have hCl7 := HC7.out.lt
          have hX := hid (fun (w8 : World) (m8 : Mod (fun _ => False) w7.drew w8) => HP.out.cells (Md.out.trans m8) Hp.out)
          refine wp_region_still_tail 6 (by kernel_rfl) (by kernel_rfl) ?_
          simp only [List.take_succ_cons, List.take_zero, List.drop_succ_cons, List.drop_zero]
          change wpStill Try.prog _ (World.drew w7) (fun a' => wpList Try.prog _ _ _ a' (World.drew w7)) _ _
          repeat still_step
          refine wpStill_nil ?_
          go_wp2_with fail
          refine (plus_c k s p w7.drew (by omega) hsm.out hokp.out).mono ?_
          rintro e w8 ⟨rfl, m8⟩
          have HC8 := hid (HCd.out.mod m8 id)
          have HR8 := hid (HRd.out.mod m8 id)
          have Ho8 := hid (own_mod0 Hod.out m8)
          have M8 := hid (Md.out.trans m8)
          have g1 := HC8.out.free 1
          have g2 := HC8.out.free 2
          have g3 := HC8.out.free 3
          have gl := HC8.out.lt
          obtain ⟨y0, y1, y2, y3, y4⟩ := At.five HC8.out
          clear x0 x1 x2 c0 c1 c2 c4 c5 m8
          go_wp2_with fail
          go_roundw
          case rel =>
            refine ⟨k + 1, S ++ [(k : Int)], plusP s p, some ⟨g, 0, none⟩, cap, by omega, by go_num, by rw [List.length_append, List.length_singleton]; omega, Hg, hid (hsm.out.step hokp.out), hid (At.other (At.other (At.other HR8.out _ _ (by simp)) _ _ (by simp)) _ _ (by simp)), ?_, ?_, hid (put_new (put_new (put_new M8.out (by omega) _ _) (by omega) _ _) (by omega) _ _)⟩
            · rw [List.length_append]
              exact hid (((HC8.out.put 1 _).put 2 _).put 3 _)
            · rw [List.length_append]
              exact hid (own_store56 (own_store56 (own_store56 Ho8.out HC8.out) (HC8.out.put 1 _)) ((HC8.out.put 1 _).put 2 _))
          case measure => simp [intOf]; omega
    · obtain rfl : k = l.length := by omega
      have hg := hgo.out
      rw [List.drop_length] at hg
      simp only [loadGo] at hg
      subst hg
      go_wp2_with fail
      refine bodyPost_ret (v := .agg #[.slice A3 S.length c3, .int .i64 s.w, .int .i64 s.v, .int .i64 s.x, .bool true]) (by simp [results, Try.results29, go_sem, r0, r1, r2, r3, r4]) rfl ⟨_, rfl, ⟨A3, c3, rfl, ?_⟩, ?_⟩
      · exact own_store56 (own_store56 (own_store56 (own_store56 (own_store56 hown.out hR.out) (hR.out.put _ _)) ((hR.out.put _ _).put _ _)) (((hR.out.put _ _).put _ _).put _ _)) ((((hR.out.put _ _).put _ _).put _ _).put _ _)
      · exact put_new (put_new (put_new (put_new (put_new hM.out (Nat.le_refl _) _ _) (Nat.le_refl _) _ _) (Nat.le_refl _) _ _) (Nat.le_refl _) _ _) (Nat.le_refl _) _ _
end Go.Proofs.Ytdnodloinlijaaa
