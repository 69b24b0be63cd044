/- The specification's Put and Take with the order of the items; the yard and its specification side by side. -/
import Derived.Test.YtknijmhhlfooaaaRany
import Derived.Test.YtknijmhhlfooaaaFinds
import Derived.Test.YtknijmhhlfooaaaNewW
namespace Go.Proofs.Ytknijmhhlfooaaa
open Go.RowKit
set_option linter.unusedVariables false
set_option linter.unusedSimpArgs false

theorem ages_len {cap puts : Int} {bays : List (List Pc)} {ag : List Pc} (hf : Fits cap puts bays) (hA : Ages puts bays ag) : ag.length ≤ 512 := by
  have := flatten_bound (bays := bays) (fun i hi => hf.len32 i hi) bays.length (Nat.le_refl _)
  rw [List.take_length, hA.perm.length_eq] at this
  have := hf.n2
  omega
theorem atF_split {it : ByteArray} {l1 l2 : List Pc} {x : Pc} (hx : x.1 = it) (h1 : ∀ y ∈ l1, y.1 ≠ it) : atF it (l1 ++ x :: l2) = (l1.length : Int) := by
  have e : (l1 ++ x :: l2).findIdx? (isIt it) = some l1.length := by
    rw [List.findIdx?_eq_some_iff_getElem]
    refine ⟨by simp, by simp [isIt, hx], fun j hj => ?_⟩
    rw [List.getElem_append_left hj]
    have := h1 _ (List.getElem_mem hj)
    simp [isIt, this]
  rw [atF, e]
theorem names_before {l1 l2 : List Pc} {x : Pc} (h : (l1 ++ x :: l2).Pairwise (fun x y => x.1 ≠ y.1)) : ∀ y ∈ l1, y.1 ≠ x.1 := fun y hy => by
  rw [List.pairwise_append] at h
  exact h.2.2 y hy x (by simp)

theorem rput_all {v : Value} {cap puts : Int} {bays : List (List Pc)} {ag : List Pc} (b : Int) (it : ByteArray) (w : World) (h : RefAt w v cap bays ag) (hf : Fits cap puts bays) (hA : Ages puts bays ag) :
    Calls Try.prog 20 #[v, .int .i64 b, .string it] w fun e w' => ∃ v' ag', e = .returned (.tuple #[v', .int .i64 (putF cap puts bays b it).1]) ∧ Ages (putF cap puts bays b it).2.1 (putF cap puts bays b it).2.2 ag' ∧ RefAt w' v' cap (putF cap puts bays b it).2.2 ag' ∧ Mod (fun _ => False) w w' := by
  obtain ⟨_, _, hp⟩ := put_ages (cap := cap) b it hf hA
  rcases hp with ⟨h0, hp1, hp2⟩ | ⟨h0, hp1, hp2⟩
  · have h0' := h0
    unfold putF at h0'
    split at h0'
    · simp at h0'
    · rename_i hb
      split at h0'
      · simp at h0'
      · rename_i hi
        split at h0'
        · simp at h0'
        · rename_i hx
          split at h0'
          · simp at h0'
          · rename_i hc
            obtain ⟨k, rfl⟩ := Int.eq_ofNat_of_zero_le (show 0 ≤ b by omega)
            rw [Int.toNat_natCast] at hc
            have e : (putF cap puts bays (k : Int) it).2.2 = bays.set k (bays.getD k [] ++ [(it, puts)]) := by
              rw [putF, if_neg hb, if_neg hi, if_neg hx, Int.toNat_natCast, if_neg hc]
            refine (rput_ok k it w h hf (ages_len hf hA) (by omega) hi (by simpa using hx) (by omega)).mono ?_
            rintro e' w' ⟨v', rfl, h1, h2⟩
            exact ⟨v', ag ++ [(it, puts)], by rw [h0], hp2, by rw [e]; exact h1, h2⟩
  · refine (rput_no (puts := puts) b it w h hf h0).mono ?_
    rintro e' w' ⟨v', rfl, h1, h2⟩
    exact ⟨v', ag, rfl, by rw [hp1, hp2]; exact hA, by rw [hp2]; exact h1, h2⟩
theorem rtake_all {v : Value} {cap puts : Int} {bays : List (List Pc)} {ag : List Pc} (it : ByteArray) (w : World) (h : RefAt w v cap bays ag) (hf : Fits cap puts bays) (hA : Ages puts bays ag) :
    Calls Try.prog 22 #[v, .string it] w fun e w' => ∃ v' ag', e = .returned (.tuple #[v', .int .i64 (takeF cap bays it).1, .int .i64 (takeF cap bays it).2.1]) ∧ Ages puts (takeF cap bays it).2.2 ag' ∧ RefAt w' v' cap (takeF cap bays it).2.2 ag' ∧ Mod (fun _ => False) w w' := by
  rcases find_cases it bays 0 with ⟨h1, _⟩ | ⟨i, k, hi, hk, he, ⟨x, hx, hxi⟩, _⟩
  · have hx : (find bays it).2.2 = false := by rw [show find bays it = _ from h1]
    have e : takeF cap bays it = (0, 8, bays) := by rw [takeF, if_pos hx]
    rw [e]
    refine (rtake_none it w h hf hx).mono ?_
    rintro e' w' ⟨v', rfl, h2, h3⟩
    exact ⟨v', ag, rfl, hA, h2, h3⟩
  · have hfd : find bays it = ((i : Int), (((bays.getD i []).length - 1 - k : Nat) : Int), true) := by
      rw [find, he]
      simp only [Nat.zero_add, Prod.mk.injEq, true_and, and_true]
      omega
    have hmem : x ∈ ag := by
      refine hA.perm.mem_iff.1 (List.mem_flatten.2 ⟨bays.getD i [], ?_, List.mem_of_getElem? hx⟩)
      have : bays.getD i [] = bays[i] := by simp [List.getD_eq_getElem?_getD, hi]
      rw [this]
      exact List.getElem_mem hi
    obtain ⟨l1, l2, hag⟩ := List.append_of_mem hmem
    have hat : atF it ag = (l1.length : Int) := by
      rw [hag]
      refine atF_split hxi (fun y hy => ?_)
      rw [← hxi]
      exact names_before (by rw [← hag]; exact hA.names) y hy
    have hlt : l1.length < ag.length := by rw [hag]; simp
    refine (rtake_go it i ((bays.getD i []).length - 1 - k) l1.length w h hf (ages_len hf hA) hfd hi (by omega) hat hlt).mono ?_
    rintro e' w' ⟨v', ⟨h1, rfl, h2, h3⟩ | ⟨h1, rfl, h2, h3⟩⟩
    · have e : takeF cap bays it = (0, 12, bays) := by
        rw [takeF, hfd]
        simp only [Int.toNat_natCast]
        rw [if_neg (by decide), if_pos h1]
      rw [e]
      exact ⟨v', ag, rfl, hA, h2, h3⟩
    · have e : takeF cap bays it = ((((bays.getD i []).length - 1 - k : Nat) : Int), 0, takeTop (movesF cap bays i ((bays.getD i []).length - 1 - k)) i) := by
        rw [takeF, hfd]
        simp only [Int.toNat_natCast]
        rw [if_neg (by decide), if_neg (by omega)]
      obtain ⟨_, _, ht⟩ := take_ages (cap := cap) it hf hA
      rw [e] at ht ⊢
      rcases ht with ⟨h0, _⟩ | ⟨_, l1', x', l2', hag', hx', hA'⟩
      · exact absurd rfl h0
      · have hl : l1' = l1 ∧ l2' = l2 := by
          have a1 : atF it ag = (l1'.length : Int) := by
            rw [hag']
            refine atF_split hx' (fun y hy => ?_)
            rw [← hx']
            exact names_before (by rw [← hag']; exact hA.names) y hy
          have hll : l1'.length = l1.length := by rw [hat] at a1; omega
          have := hag'.symm.trans hag
          obtain ⟨b1, b2⟩ := List.append_inj this hll
          exact ⟨b1, by injection b2⟩
        obtain ⟨rfl, rfl⟩ := hl
        have hd : ag.take l1'.length ++ ag.drop (l1'.length + 1) = l1' ++ l2' := by
          rw [hag]
          simp
        rw [hd] at h2
        exact ⟨v', l1' ++ l2', rfl, hA', h2, h3⟩

/-- The yard and its specification, side by side; T is the box of the specification's yard. -/
structure CS (B y T : Nat) (cap : Int) (w1 wr : World) (i : Nat) (puts : Int) (bays : List (List Pc)) (ag : List Pc) (Ab : Option Addr) (cb : Nat) (Aa : Option Addr) (ca : Nat) : Prop where
  ya : YardAt (Up B) wr y cap puts bays
  fits : Fits cap puts bays
  ages : Ages puts bays ag
  le : puts ≤ i
  bT : At wr T (.cells #[.int .i64 cap, .slice Ab bays.length cb, .slice Aa ag.length ca] 47 (0, 0))
  rf : RefAt wr (.agg #[.int .i64 cap, .slice Ab bays.length cb, .slice Aa ag.length ca]) cap bays ag
  m : Mod (fun _ => False) w1 wr
  hB : B = w1.heap.size
  hT : B ≤ T
theorem CS.mod0 {B y T : Nat} {cap : Int} {w1 wr w' : World} {i : Nat} {puts : Int} {bays : List (List Pc)} {ag : List Pc} {Ab Aa : Option Addr} {cb ca : Nat} (h : CS B y T cap w1 wr i puts bays ag Ab cb Aa ca) (m : Mod (fun _ => False) wr w') : CS B y T cap w1 w' i puts bays ag Ab cb Aa ca :=
  ⟨h.ya.mod0 m, h.fits, h.ages, h.le, h.bT.mod m id, h.rf.mod0 m, h.m.trans m, h.hB, h.hT⟩
theorem CS.leB {B y T : Nat} {cap : Int} {w1 wr : World} {i : Nat} {puts : Int} {bays : List (List Pc)} {ag : List Pc} {Ab Aa : Option Addr} {cb ca : Nat} (h : CS B y T cap w1 wr i puts bays ag Ab cb Aa ca) : B ≤ wr.heap.size := by have := h.m.size; have := h.hB; omega
theorem MT.none {B : Nat} {w1 w w' : World} (h : MT (Up B) w w') (m : Mod (fun _ => False) w1 w) (hB : B = w1.heap.size) : Mod (fun _ => False) w1 w' := m.trans' h (fun i hi hk => by have := hk.1; unfold Up at this; omega)
theorem CS.store {B y T : Nat} {cap : Int} {w1 W : World} {i : Nat} {puts : Int} {bays : List (List Pc)} {ag : List Pc} {Ab Aa : Option Addr} {cb ca : Nat} {cs : Array Value}
    (ya : YardAt (Up B) W y cap puts bays) (fits : Fits cap puts bays) (ages : Ages puts bays ag) (le : puts ≤ i) (bT : At W T (.cells cs 47 (0, 0))) (hcs : ∃ a b c, cs = #[a, b, c])
    (rf : RefAt W (.agg #[.int .i64 cap, .slice Ab bays.length cb, .slice Aa ag.length ca]) cap bays ag) (m : Mod (fun _ => False) w1 W) (hB : B = w1.heap.size) (hT : B ≤ T) :
    CS B y T cap w1 (((W.setCell ⟨T, 0, none⟩ (.int .i64 cap)).setCell ⟨T, 1, none⟩ (.slice Ab bays.length cb)).setCell ⟨T, 2, none⟩ (.slice Aa ag.length ca)) i puts bays ag Ab cb Aa ca := by
  obtain ⟨a, b, c, rfl⟩ := hcs
  have ms : Mod (fun k => k = T) W (((W.setCell ⟨T, 0, none⟩ (.int .i64 cap)).setCell ⟨T, 1, none⟩ (.slice Ab bays.length cb)).setCell ⟨T, 2, none⟩ (.slice Aa ag.length ca)) := (((Mod.refl _ _).here _ _).here _ _).here _ _
  refine ⟨?_, fits, ages, le, ((bT.put 0 _).put 1 _).put 2 _, rf.own bT ms, m.none_of ms (by omega), hB, hT⟩
  obtain ⟨Bk, c', ps, vs, h⟩ := ya
  refine ⟨Bk, c', ps, vs, h.keep ms (fun k _ _ hTt e => ?_)⟩
  have e' : k = T := e
  subst e'
  obtain ⟨c'', t', fr', a1, a2⟩ := hTt
  have := At.inj bT a1
  injection this with _ e _
  subst e
  simp at a2
theorem CS.box {B y T X : Nat} {cap : Int} {w1 wr : World} {i : Nat} {puts : Int} {bays : List (List Pc)} {ag : List Pc} {Ab Aa : Option Addr} {cb ca : Nat} {cs : Array Value} (h : CS B y T cap w1 wr i puts bays ag Ab cb Aa ca) (hX : At wr X (.cells cs 47 (0, 0))) (hne : T ≠ X) (hBX : B ≤ X) (u0 u1 u2 : Value) :
    CS B y T cap w1 (((wr.setCell ⟨X, 0, none⟩ u0).setCell ⟨X, 1, none⟩ u1).setCell ⟨X, 2, none⟩ u2) i puts bays ag Ab cb Aa ca := by
  have ms : Mod (fun k => k = X) wr (((wr.setCell ⟨X, 0, none⟩ u0).setCell ⟨X, 1, none⟩ u1).setCell ⟨X, 2, none⟩ u2) := (((Mod.refl _ _).here _ _).here _ _).here _ _
  have hB := h.hB
  refine ⟨?_, h.fits, h.ages, h.le, h.bT.mod ms hne, h.rf.own hX ms, h.m.none_of ms (by omega), h.hB, h.hT⟩
  obtain ⟨Bk, c', ps, vs, hy⟩ := h.ya
  refine ⟨Bk, c', ps, vs, hy.keep ms (fun k _ _ hTt e => ?_)⟩
  have e' : k = X := e
  subst e'
  obtain ⟨c'', t', fr', a1, a2⟩ := hTt
  have := At.inj hX a1
  injection this with _ e _
  subst e
  simp at a2
end Go.Proofs.Ytknijmhhlfooaaa
