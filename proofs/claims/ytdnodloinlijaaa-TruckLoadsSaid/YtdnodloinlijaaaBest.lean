/- truck.Best: its contract. -/
import Derived.Test.YtdnodloinlijaaaFrom
namespace Go.Proofs.Ytdnodloinlijaaa
open Go.RowKit
set_option linter.unusedVariables false
set_option linter.unusedSimpArgs false

/-- What Best finds, of parcels that can be offered. -/
def bestF (l : List Pc) (W V : Int) : List Int := (srch l 0 0 W V [] ([], 0)).1
def bestR (l : List Pc) (W V : Int) : List Int := if checkF l W V = 0 then bestF l W V else []

theorem best_c (A : Option Addr) (c : Nat) (l : List Pc) (W V : Int) (w : World) (h : Ps w A l) :
    Calls Try.prog 15 #[.slice A l.length c, .int .i64 W, .int .i64 V] w fun e w' => ∃ B d, e = .returned (.tuple #[.slice B (bestR l W V).length d, .int .i64 (checkF l W V)]) ∧
      w'.ownsRow w.heap.size 3 1 (.slice B (bestR l W V).length d) (bestR l W V).length ((bestR l W V).map intV) ∧ Mod (fun _ => False) w w' := by
  have hck := check_c A c l W V w h
  by_cases hc : checkF l W V = 0
  · have e : bestR l W V = bestF l W V := by rw [bestR, if_pos hc]
    rw [e, hc]
    rw [hc] at hck
    obtain ⟨h16, ⟨hW0, hW1⟩, ⟨hV0, hV1⟩, hok⟩ := checkF_ok hc
    clear e hc
    obtain ⟨L, hL⟩ : ∃ L, L = bestF l W V := ⟨_, rfl⟩
    rw [← hL]
    have HL := hid hL
    have Hok := hid hok
    clear hL hok
    go_enter Try.func15, Try.ntmps15
    go_wp2_with fail
    refine hck.mono ?_
    rintro e w1 ⟨rfl, m1⟩
    go_wp2_with fail
    refine (newSearch_c A c l w1 (h.mod0 m1) h16 Hok.out).mono ?_
    rintro e w2 ⟨s, rfl, hS2, m2⟩
    go_wp2_with fail
    have hf := from_c w1.heap.size s A c l h16 Hok.out l.length 0 rfl (Nat.zero_le _) 0 W V [] [] 0 w2 hS2 (Int.le_refl _) (by simp) hW0 hW1 hV0 hV1 (Nat.le_refl _) (fun q => absurd q (by decide))
    rw [show upd [] 0 ([], 0) = (([] : List Int), (0 : Int)) from rfl, List.drop_zero] at hf
    refine hf.mono ?_
    rintro e w3 ⟨rfl, hS3, m3⟩
    rw [show (srch l 0 0 W V [] ([], 0)).1 = L from HL.out.symm] at hS3
    obtain ⟨vr, vl, vb, hS⟩ := hS3
    obtain ⟨B, d, hvb⟩ := own_val hS.hb
    subst hvb
    obtain ⟨_, _, _, c3, _⟩ := At.five hS.hs
    have hb := hid (own_down hS.hb m1.size)
    have M := hid (m1.trans (m2.trans' m3 (fun i hi hk => by have := m1.size; have := m2.size; omega)))
    clear hf hS2 hS m1 m2 m3
    go_wp2_with fail
    go_ret2
    refine ⟨B, d, rfl, ?_, ?_⟩
    · exact hb.out
    · exact M.out
  · have e : bestR l W V = [] := by rw [bestR, if_neg hc]
    rw [e]
    clear e
    generalize checkF l W V = r at hc hck
    go_enter Try.func15, Try.ntmps15
    go_wp2_with fail
    refine hck.mono ?_
    rintro e w1 ⟨rfl, m1⟩
    go_wp2_with fail
    go_ret2
    exact ⟨none, 0, rfl, World.ownsRow_nil _ _ _ _, m1⟩
end Go.Proofs.Ytdnodloinlijaaa
