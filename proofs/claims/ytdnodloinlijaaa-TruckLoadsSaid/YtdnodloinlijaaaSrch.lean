/- The search in memory; newSearch. -/
import Derived.Test.YtdnodloinlijaaaRsum
namespace Go.Proofs.Ytdnodloinlijaaa
open Go.RowKit
set_option linter.unusedVariables false
set_option linter.unusedSimpArgs false

/-- The worth of all. -/
def sumX : List Pc → Int
  | [] => 0
  | p :: r => sumX r + p.x
def rests : List Pc → List Int
  | [] => [0]
  | p :: r => sumX (p :: r) :: rests r
def upd (ld : List Int) (wt : Int) (st : List Int × Int) : List Int × Int := if st.2 < wt then (ld, wt) else st
/-- The search over what begins at an index. -/
def srch : List Pc → Nat → Int → Int → Int → List Int → List Int × Int → List Int × Int
  | [], _, _, _, _, _, st => st
  | p :: r, i, wt, l0, l1, ld, st =>
    if st.2 < wt + sumX (p :: r) then
      if l0 < p.w ∨ l1 < p.v then srch r (i + 1) wt l0 l1 ld st
      else srch r (i + 1) wt l0 l1 ld (srch r (i + 1) (wt + p.x) (l0 - p.w) (l1 - p.v) (ld ++ [(i : Int)]) (upd (ld ++ [(i : Int)]) (wt + p.x) st))
    else st
theorem rests_len : ∀ l : List Pc, (rests l).length = l.length + 1
  | [] => rfl
  | p :: r => by simp [rests, rests_len r]
theorem rests_get : ∀ (l : List Pc) (j : Nat), j ≤ l.length → (rests l)[j]? = some (sumX (l.drop j))
  | [], j, h => by simp at h; subst h; rfl
  | p :: r, 0, h => rfl
  | p :: r, j + 1, h => by
    have := rests_get r j (by simpa using h)
    simpa [rests] using this
theorem sumX_bound : ∀ l : List Pc, l.all okP = true → 0 ≤ sumX l ∧ sumX l ≤ l.length * 1000000000000
  | [], _ => by simp [sumX]
  | p :: r, h => by
    simp only [List.all_cons, Bool.and_eq_true] at h
    obtain ⟨h0, h1⟩ := sumX_bound r h.2
    obtain ⟨_, _, a, b⟩ := okP_t h.1
    simp only [sumX, List.length_cons]
    omega
theorem all_drop {l : List Pc} (h : l.all okP = true) (j : Nat) : (l.drop j).all okP = true := by
  rw [List.all_eq_true] at h ⊢
  exact fun x hx => h x (List.mem_of_mem_drop hx)
theorem sumX_drop {l : List Pc} (h : l.all okP = true) (h16 : l.length ≤ 16) (j : Nat) : 0 ≤ sumX (l.drop j) ∧ sumX (l.drop j) ≤ 16000000000000 := by
  obtain ⟨a, b⟩ := sumX_bound _ (all_drop h j)
  rw [List.length_drop] at b
  omega

/-- Block k is of a kind that a search writes. -/
def isT (w : World) (k : Nat) : Prop := ∃ c t fr, At w k (.cells c t fr) ∧ (t = 52 ∨ t = 3)
def MT (B : Nat) (w w' : World) : Prop := Mod (fun k => B ≤ k ∧ isT w k) w w'
theorem isT_iff {w w' : World} {k : Nat} (h : w'.heap[k]? = w.heap[k]?) : isT w' k ↔ isT w k := by
  unfold isT At
  rw [h]
theorem MT.refl (B : Nat) (w : World) : MT B w w := Mod.refl _ _
theorem MT.of0 {B : Nat} {w w' : World} (h : Mod (fun _ => False) w w') : MT B w w' := h.mono (fun _ _ h => h.elim)
theorem MT.trans {B : Nat} {a b c : World} (h : MT B a b) (k : MT B b c) : MT B a c := by
  refine ⟨k.os.trans h.os, k.tape.trans h.tape, k.output.trans h.output, Nat.le_trans h.size k.size, fun i hi hs => ?_⟩
  have e := h.block i hi hs
  refine (k.block i (Nat.lt_of_lt_of_le hi h.size) (fun hk => hs ⟨hk.1, (isT_iff e).1 hk.2⟩)).trans e
theorem MT.at_ {B : Nat} {w w' : World} {b : Nat} {c : Array Value} {t : TypeId} {fr : Nat × Nat} (h : At w b (.cells c t fr)) (m : MT B w w') (ht : t ≠ 52 ∧ t ≠ 3) : At w' b (.cells c t fr) :=
  At.mod h m (fun hk => by
    obtain ⟨c', t', fr', h1, h2⟩ := hk.2
    have := At.inj h h1
    injection this with _ e _
    subst e
    rcases h2 with h2 | h2
    · exact ht.1 h2
    · exact ht.2 h2)
theorem MT.far {B : Nat} {w w' : World} {b : Nat} {o : Obj} (h : At w b o) (m : MT B w w') (hF : b < B) : At w' b o := At.mod h m (fun hk => by omega)
theorem MT.drew {B : Nat} {w w' : World} (m : MT B w w') : MT B w w'.drew := Mod.drew m
theorem MT.alloc {B : Nat} {w w' : World} (m : MT B w w') (o : Obj) : MT B w (w'.alloc o) := Mod.alloc m o
theorem MT.put {B : Nat} {w w' : World} (m : MT B w w') {s i : Nat} {cs : Array Value} {t : TypeId} {fr : Nat × Nat} (v : Value) (hs : At w' s (.cells cs t fr)) (ht : t = 52 ∨ t = 3) (hB : B ≤ s) : MT B w (w'.setCell ⟨s, i, none⟩ v) :=
  m.trans ((Mod.refl _ w').put v (fun _ => ⟨hB, cs, t, fr, hs, ht⟩))
theorem MT.toBelow {B : Nat} {w w' : World} (m : MT B w w') (hB : B ≤ w.heap.size) : Below B w w' := Mod.toBelow m B hB (fun i hi h => by omega)
theorem MT.toMod {w w' : World} (m : MT w.heap.size w w') : Mod (fun _ => False) w w' := m.mono (fun i hi h => by omega)

structure SIn (N : Nat) (w : World) (s : Nat) (A : Option Addr) (c : Nat) (l : List Pc) (vr vl vb : Value) (ld bs : List Int) (wt : Int) : Prop where
  hs : At w s (.cells #[.slice A l.length c, vr, vl, vb, .int .i64 wt] 52 (0, 0))
  sN : N ≤ s
  hr : w.ownsRow N 3 1 vr (l.length + 1) ((rests l).map intV)
  hl : w.ownsRow N 3 1 vl ld.length (ld.map intV)
  hb : w.ownsRow N 3 1 vb bs.length (bs.map intV)
  d1 : ∀ g, vl.ownBlock = some g → vr.ownBlock ≠ some g
  d2 : ∀ g, vl.ownBlock = some g → vb.ownBlock ≠ some g
  hp : Ps w A l
  pN : 0 < l.length → ∃ b off, A = some ⟨b, off, none⟩ ∧ b < N
def SAt (N : Nat) (w : World) (s : Nat) (A : Option Addr) (c : Nat) (l : List Pc) (ld bs : List Int) (wt : Int) : Prop := ∃ vr vl vb, SIn N w s A c l vr vl vb ld bs wt

theorem SIn.mod0 {N : Nat} {w w' : World} {s : Nat} {A : Option Addr} {c : Nat} {l : List Pc} {vr vl vb : Value} {ld bs : List Int} {wt : Int} (h : SIn N w s A c l vr vl vb ld bs wt) (m : Mod (fun _ => False) w w') : SIn N w' s A c l vr vl vb ld bs wt :=
  ⟨h.hs.mod m id, h.sN, own_mod0 h.hr m, own_mod0 h.hl m, own_mod0 h.hb m, h.d1, h.d2, h.hp.mod0 m, h.pN⟩
/-- A cell of the search is stored. -/
theorem Ps.far {N : Nat} {w w' : World} {A : Option Addr} {l : List Pc} (h : Ps w A l) (pN : 0 < l.length → ∃ b off, A = some ⟨b, off, none⟩ ∧ b < N) (m : MT N w w') : Ps w' A l := fun hn => by
  obtain ⟨b, off, t, fr, arr, e, ha, hc⟩ := h hn
  obtain ⟨b', off', e', hb⟩ := pN hn
  rw [e] at e'
  injection e' with e'
  injection e' with e1 e2
  subst e1
  exact ⟨b, off, t, fr, arr, e, MT.far ha m hb, hc⟩
theorem own_store {N : Nat} {w : World} {v : Value} {n s i : Nat} {xs : List Value} {cs : Array Value} {fr : Nat × Nat} {u : Value} (h : w.ownsRow N 3 1 v n xs) (hs : At w s (.cells cs 52 fr)) : (w.setCell ⟨s, i, none⟩ u).ownsRow N 3 1 v n xs :=
  own_same h (fun g hg => Below.heap_setCell w ⟨s, i, none⟩ u g (fun e => own_ne h hs (by decide) (by rw [hg, e])))

theorem info3 : (Try.prog.info? 3).map (fun i => (i.zero, i.size, i.bytes)) = some (some (.int .i64 0), 1, 8) := by kernel_rfl

theorem newSearch_c (A : Option Addr) (c : Nat) (l : List Pc) (w : World) (h : Ps w A l) (h16 : l.length ≤ 16) (hok : l.all okP = true) :
    Calls Try.prog 25 #[.slice A l.length c] w fun e w' => ∃ s, e = .returned (.pointer (some ⟨s, 0, none⟩)) ∧ SAt w.heap.size w' s A c l [] [] 0 ∧ Mod (fun _ => False) w w' := by
  obtain ⟨i0, hi0, hz0, hz1, hz2⟩ := info_parts info3
  have H := hid h
  have Hok := hid hok
  clear h hok
  go_enter Try.func25, Try.ntmps25
  go_wp2_with (first | (at_make; refine wpList_make_full _ rfl (.tmp 8) (.tmp 8) 25 rfl w.heap.size 3 i0 (.int .i64 0) 1 Try.underlying25 hi0 hz0 hz1 .i64 .i64 ((l.length : Int) + 1) ((l.length : Int) + 1) (l.length + 1) rfl rfl (by simp) (by simp) ?b2 ?b3 ?b4 ?_))
  case b2 => rw [hz2]; omega
  case b3 => unfold maxLen; omega
  case b4 => exact Nat.le_refl _
  intro w1 hown hg
  have m1 : Mod (fun _ => False) w w1 := ⟨hg.os, hg.tape, hg.output, hg.size, fun k hk _ => hg.block k hk (by simp)⟩
  obtain ⟨hR0, arr0, hA0, hsz0, ha0⟩ : ∃ h0 : w.heap.size < w1.heap.size, ∃ arr0, At w1 w.heap.size (.cells arr0 3 (0, 0)) ∧ arr0.size = l.length + 1 ∧ arr0[l.length]? = some (.int .i64 0) := by
    obtain ⟨hx, h2⟩ := hown
    rcases h2 with ⟨hv, _⟩ | ⟨g, cap, cur, hv, _, hh, _, _, hcs, ht⟩
    · cases hv
    · cases hv
      refine ⟨(Array.getElem?_eq_some_iff.1 hh).1, cur, hh, by omega, ?_⟩
      have e : (cur.toList.take ((l.length + 1) * 1))[l.length]? = some (.int .i64 0) := by
        rw [ht]
        simp [madeCells, Value.cells, Nat.mod_one]
      rw [List.getElem?_take_of_lt (by omega), Array.getElem?_toList] at e
      exact e
  have M1 := hid m1
  have HA0 := hid hA0
  have HA1 := hid ha0
  clear hown hg m1 hA0 ha0 hz0 hz1 hz2 hi0
  go_wp2_with fail
  go_loopw [4] (fun s4 wr => ∃ (m : Nat) (x : Int) (arr : Array Value), m ≤ l.length ∧ s4 = .int .i64 x ∧ x = (m : Int) - 1 ∧ Hid (At wr w1.heap.size (.cells #[.slice A l.length c, .slice (some ⟨w.heap.size, 0, none⟩) (l.length + 1) (l.length + 1), .slice none 0 0, .slice none 0 0, .int .i64 0] 52 (0, 0))) ∧
      Hid (At wr w.heap.size (.cells arr 3 (0, 0))) ∧ arr.size = l.length + 1 ∧ Hid (∀ j, m ≤ j → j ≤ l.length → arr[j]? = some (.int .i64 (sumX (l.drop j)))) ∧ Hid (Mod (fun _ => False) w wr))
    (fun s4 _ => (intOf s4 + 1).toNat)
  case atStart =>
    refine ⟨l.length, _, arr0, Nat.le_refl _, rfl, rfl, hid (At.new _ _), hid (HA0.out.alloc _), hsz0, hid (fun j h1 h2 => ?_), hid (M1.out.alloc _)⟩
    obtain rfl : j = l.length := by omega
    rw [HA1.out, List.drop_length]
    rfl
  case round =>
    obtain ⟨m, x, arr, hm, rfl, hx, hS, hR, hsz, hp, mw⟩ := hrel
    obtain ⟨c0, c1, _, _, _⟩ := At.five hS.out
    have hSl := hS.out.lt
    have hRl := hR.out.lt
    cases m with
    | zero =>
      obtain rfl : x = -1 := by omega
      clear hx
      go_wp2_with fail
      go_ret
      have hcur : arr.toList = (rests l).map intV := by
        apply List.ext_getElem?
        intro j
        rw [Array.getElem?_toList, List.getElem?_map]
        by_cases hj : j ≤ l.length
        · rw [hp.out j (by omega) hj, rests_get l j hj]
          rfl
        · rw [Array.getElem?_eq_none (by omega), List.getElem?_eq_none (by rw [rests_len]; omega)]
          rfl
      refine ⟨_, rfl, ⟨_, _, _, hS.out, M1.out.size, ⟨by simp [rests_len], .inr ⟨_, _, arr, rfl, Nat.le_refl _, hR.out, Nat.le_refl _, by unfold maxLen; omega, by omega, ?_⟩⟩, World.ownsRow_nil _ _ _ _, World.ownsRow_nil _ _ _ _, ?_, ?_, H.out.mod0 mw.out, ?_⟩, mw.out⟩
      · rw [hcur, List.take_of_length_le]
        simp [rests_len]
      · intro g hg
        simp [Value.ownBlock] at hg
      · intro g hg
        simp [Value.ownBlock] at hg
      · intro hn
        obtain ⟨b, off, t, fr, arr', e, ha, _⟩ := H.out hn
        exact ⟨b, off, e, ha.lt⟩
    | succ q =>
      obtain rfl : x = (q : Int) := by omega
      clear hx
      have hql : (q : Int) < l.length := by omega
      have hq0 : (0 : Int) ≤ q := by omega
      obtain ⟨p, hp0⟩ := getE (show q < l.length by omega)
      obtain ⟨b, off, rfl, hb, _⟩ := H.out.get hp0
      obtain ⟨_, _, x2⟩ := H.out.cells mw.out hp0
      have hbl : b < wr.heap.size := World.block_lt_of_cell? wr _ x2
      have y1 : wr.cell? ⟨w.heap.size, q + 1, none⟩ = some (.int .i64 (sumX (l.drop (q + 1)))) := arr_cell hR.out (hp.out (q + 1) (Nat.le_refl _) hm)
      have y0 : ∃ v, wr.cell? ⟨w.heap.size, q, none⟩ = some v := ⟨_, arr_cell hR.out (Array.getElem?_eq_getElem (show q < arr.size by omega))⟩
      obtain ⟨v0, y0⟩ := y0
      have f0 := hR.out.free q
      have hsum := sumX_drop Hok.out h16 (q + 1)
      obtain ⟨hs0, hs1⟩ := hsum
      have hpx := okP_t (all_get Hok.out hp0)
      obtain ⟨_, _, hp1, hp2⟩ := hpx
      have hdr : sumX (l.drop (q + 1)) + p.x = sumX (l.drop q) := by rw [drop_at hp0]; rfl
      have Hdr := hid hdr
      generalize sumX (l.drop (q + 1)) = X at y1 hs0 hs1 hdr
      have hw0 : IntKind.i64.wrap (X + p.x) = X + p.x := wrap_ok _ (by omega) (by omega)
      have hw1 : IntKind.i64.wrap ((q : Int) + 1) = (q : Int) + 1 := wrap_ok _ (by omega) (by omega)
      have ht : ((q : Int) + 1).toNat = q + 1 := by omega
      have hq1 : ¬ (q : Int) + 1 < 0 := by omega
      have hq3 : (q : Int) < (l.length : Int) + 1 := by omega
      have hq2 : (q : Int) + 1 < (l.length : Int) + 1 := by omega
      have Hdr2 := hid hdr
      have Hb1 := hid hs0
      clear hdr hs0 hs1 hp1 hp2 hp0
      go_wp2_with fail
      refine wp_region_still_tail 20 (by kernel_rfl) (by kernel_rfl) ?_
      simp only [List.take_succ_cons, List.take_zero, List.drop_succ_cons, List.drop_zero]
      change wpStill Try.prog _ (World.drew wr) (fun a' => wpList Try.prog _ _ _ a' (World.drew wr)) _ _
      repeat still_step
      refine wpStill_nil ?_
      go_wp2_with fail
      go_roundw
      case rel =>
        refine ⟨q, (q : Int) - 1, arr.setIfInBounds q (.int .i64 (X + p.x)), by omega, by go_num, rfl, hid ((At.other hS.out _ _ (cells_ne hS.out hR.out (by decide))).drew), hid ((hR.out.put q _).drew), by simpa using hsz, hid (fun j h1 h2 => ?_), hid ((mw.out.put _ (fun h => by simp at h)).drew)⟩
        by_cases e : j = q
        · subst e
          rw [Array.getElem?_setIfInBounds_self_of_lt (by omega), Hdr2.out]
        · rw [Array.getElem?_setIfInBounds_ne (by omega)]
          exact hp.out j (by omega) h2
      case measure => simp [intOf]
end Go.Proofs.Ytdnodloinlijaaa
