/- awake: the examples of the chapter; the nil sorter. -/
import Derived.Test.YtdipncjbobhbjaaAny
namespace Go.Proofs.Ytdipncjbobhbjaa
open Go.RowKit Go.Maps
set_option linter.unusedVariables false
set_option linter.unusedSimpArgs false

theorem MT.below {B : Nat} {w w' : World} (h : MT B w w') (hB : B ≤ w.heap.size) : Below B w w' := Mod.toBelow h B hB (fun i hi hk => by have := hk.1; omega)

def kx : ByteArray := ⟨#[120]⟩
def ky : ByteArray := ⟨#[121]⟩
def ia : ByteArray := ⟨#[97]⟩
def ib : ByteArray := ⟨#[98]⟩
def ic : ByteArray := ⟨#[99]⟩
def id_ : ByteArray := ⟨#[100]⟩
def b0 : List Bin := [(ByteArray.empty, []), (ByteArray.empty, [])]
def b1 : List Bin := [(kx, [ia]), (ByteArray.empty, [])]
def b2 : List Bin := [(kx, [ia, ib]), (ByteArray.empty, [])]
def b3 : List Bin := [(kx, [ia, ib]), (kx, [ic])]
def b4 : List Bin := [(ByteArray.empty, []), (kx, [ic])]
def b5 : List Bin := [(ky, [id_]), (kx, [ic])]

theorem fits_of {cap : Int} {bins : List Bin} (n1 : 1 ≤ bins.length) (n2 : bins.length ≤ 16) (c1 : 1 ≤ cap) (c2 : cap ≤ 32) (len : ∀ l ∈ bins, (l.2.length : Int) ≤ cap) : Fits cap bins :=
  ⟨n1, n2, c1, c2, fun i hi => by
    have : bi bins i = bins[i].2 := by simp [bi, List.getD_eq_getElem?_getD, hi]
    rw [this]
    exact len _ (List.getElem_mem hi)⟩

set_option maxRecDepth 100000 in
set_option maxHeartbeats 1600000 in
theorem awake_c (w : World) : Calls Try.prog 10 #[] w fun e w' => e = .returned (.bool true) ∧ Below w.heap.size w w' := by
  have f0 : Hid (Fits 2 b0) := fits_of (by decide) (by decide) (by decide) (by decide) (by decide)
  have f1 : Hid (Fits 2 b1) := fits_of (by decide) (by decide) (by decide) (by decide) (by decide)
  have f2 : Hid (Fits 2 b2) := fits_of (by decide) (by decide) (by decide) (by decide) (by decide)
  have f3 : Hid (Fits 2 b3) := fits_of (by decide) (by decide) (by decide) (by decide) (by decide)
  have f4 : Hid (Fits 2 b4) := fits_of (by decide) (by decide) (by decide) (by decide) (by decide)
  have f5 : Hid (Fits 2 b5) := fits_of (by decide) (by decide) (by decide) (by decide) (by decide)
  have p1 : Hid (putR 2 b0 kx ia = (b1, 0, 0)) := by show _ = _; decide
  have p2 : Hid (putR 2 b1 kx ib = (b2, 0, 0)) := by show _ = _; decide
  have p3 : Hid (putR 2 b2 kx ic = (b3, 1, 0)) := by show _ = _; decide
  have p4 : Hid (putR 2 b3 ky id_ = (b3, 0, 12)) := by show _ = _; decide
  have p5 : Hid (putR 2 b3 ky ia = (b3, 0, 7)) := by show _ = _; decide
  have u1 : Hid (fullI 2 b3 = 0 ∧ fullB 2 b3 = true) := by show _ ∧ _; decide
  have l1 : Hid (tot b5 b5.length = 2) := by show _ = _; decide
  have hm1 : ∀ it : ByteArray, it.size = 1 → it.size ≤ maxLen := fun it h => by unfold maxLen; omega
  have Hm := hid hm1
  clear hm1
  go_enter Try.func10, Try.ntmps10
  go_wp2_with fail
  refine (new_good 2 2 w (by decide) (by decide) (by decide) (by decide)).mono ?_
  rintro e w1 ⟨s, rfl, h0, _, m0⟩
  have H0 : Hid (SorterAt w.heap.size w1 s 2 b0) := h0
  clear h0
  go_wp2_with fail
  refine (put_any kx ia w1 H0.out f0.out m0.size (Hm.out _ rfl)).mono ?_
  rw [p1.out]
  rintro e w2 ⟨rfl, h1, mt1⟩
  have H1 : Hid (SorterAt w.heap.size w2 s 2 b1) := h1
  have mt : MT w.heap.size w w2 := (MT.of0 m0).trans mt1
  clear h1 mt1
  go_wp2_with fail
  refine (put_any kx ib w2 H1.out f1.out mt.size (Hm.out _ rfl)).mono ?_
  rw [p2.out]
  rintro e w3 ⟨rfl, h2, mt2⟩
  have H2 : Hid (SorterAt w.heap.size w3 s 2 b2) := h2
  replace mt := mt.trans mt2
  clear h2 mt2
  go_wp2_with fail
  refine (put_any kx ic w3 H2.out f2.out mt.size (Hm.out _ rfl)).mono ?_
  rw [p3.out]
  rintro e w4 ⟨rfl, h3, mt3⟩
  have H3 : Hid (SorterAt w.heap.size w4 s 2 b3) := h3
  replace mt := mt.trans mt3
  clear h3 mt3
  go_wp2_with fail
  refine (put_any ky id_ w4 H3.out f3.out mt.size (Hm.out _ rfl)).mono ?_
  rw [p4.out]
  rintro e w5 ⟨rfl, h4, mt4⟩
  have H4 : Hid (SorterAt w.heap.size w5 s 2 b3) := h4
  replace mt := mt.trans mt4
  clear h4 mt4
  go_wp2_with fail
  refine (put_any ky ia w5 H4.out f3.out mt.size (Hm.out _ rfl)).mono ?_
  rw [p5.out]
  rintro e w6 ⟨rfl, h5, mt5⟩
  have H5 : Hid (SorterAt w.heap.size w6 s 2 b3) := h5
  replace mt := mt.trans mt5
  clear h5 mt5
  go_wp2_with fail
  refine (full_c w6 H5.out f3.out).mono ?_
  rw [u1.out.1, u1.out.2]
  rintro e w7 ⟨rfl, m7⟩
  have H7 : Hid (SorterAt w.heap.size w7 s 2 b3) := H5.out.mod0 m7
  replace mt := mt.trans (MT.of0 m7)
  clear m7
  go_wp2_with fail
  refine (take_ok 0 w7 H7.out f3.out (by decide) (by decide)).mono ?_
  rintro e w8 ⟨A, c, rfl, hrow, ⟨R, c', vs, ms, h8, haway⟩, mt8⟩
  have t0 : bk b3 0 = kx := rfl
  have t1 : bi b3 0 = [ia, ib] := rfl
  rw [t0, t1]
  rw [t1] at hrow haway
  obtain ⟨g, cc, hv, _, _⟩ := hrow.form (by decide)
  injection hv with hA _ hc
  subst hA
  subst hc
  obtain ⟨cur, hcur⟩ := own_at hrow (g := g) rfl
  have haw := haway g rfl
  have g0 : w8.cell? ⟨g, 0, none⟩ = some (.string ia) := by
    have := hrow.cells (g := g) rfl 0 _ rfl
    rwa [add_plain] at this
  have g1 : w8.cell? ⟨g, 1, none⟩ = some (.string ib) := by
    have := hrow.cells (g := g) rfl 1 _ rfl
    rwa [add_plain] at this
  have G0 := hid g0
  have G1 := hid g1
  have Hcur := hid hcur
  have Haw := hid haw
  have H8 : Hid (SIn w.heap.size w8 s 2 b4 R c' vs ms) := h8
  have H8' : Hid (SorterAt w.heap.size w8 s 2 b4) := ⟨R, c', vs, ms, h8⟩
  replace mt := mt.trans mt8
  clear hrow haway h8 mt8 hcur haw g0 g1 t0 t1
  go_wp2_with fail
  refine (take_empty 0 w8 H8'.out (by decide) rfl).mono ?_
  rintro e w9 ⟨rfl, rfl⟩
  go_wp2_with fail
  refine (take_range 2 w8 H8'.out (by decide)).mono ?_
  rintro e w9 ⟨rfl, rfl⟩
  go_wp2_with fail
  refine (put_c ky id_ w8 H8.out f4.out mt.size (fun q => absurd (size0.1 q) (by decide)) (fun q => absurd (size0.1 q) (by decide)) (Hm.out _ rfl)).mono ?_
  intro e w10 hp
  obtain ⟨rfl, h10, mt10, m10⟩ := hp.ok (fun q => absurd (hasB_iff.2 q) (by decide)) 0 (by decide)
  obtain ⟨arr, hA, _⟩ := H8.out.hR
  have hcur := Hcur.out.mod m10 (fun q => by
    rcases q with q | q | q
    · exact cells_ne Hcur.out hA (by decide) q
    · exact map_ne Hcur.out (H8.out.hm 0 (by decide)) q
    · exact Haw.out 0 (by decide) q)
  have g0 : w10.cell? ⟨g, 0, none⟩ = some (.string ia) := (hcur.cell 0).trans ((Hcur.out.cell 0).symm.trans G0.out)
  have g1 : w10.cell? ⟨g, 1, none⟩ = some (.string ib) := (hcur.cell 1).trans ((Hcur.out.cell 1).symm.trans G1.out)
  have H10 : Hid (SorterAt w.heap.size w10 s 2 b5) := h10
  replace mt := mt.trans mt10
  have sx : kx.toList = [120] := by rw [ByteArray.toList_eq]; rfl
  have sa : ia.toList = [97] := by rw [ByteArray.toList_eq]; rfl
  have sb : ib.toList = [98] := by rw [ByteArray.toList_eq]; rfl
  clear hp h10 mt10 m10 hA hcur
  go_wp2_with fail
  refine (len_c w10 H10.out f5.out).mono ?_
  rw [l1.out]
  rintro e w11 ⟨rfl, m11⟩
  go_wp2_with fail
  go_ret
  exact ⟨rfl, (mt.trans (MT.of0 m11)).below (Nat.le_refl _)⟩
end Go.Proofs.Ytdipncjbobhbjaa
