/- Check, Sum, the specification's Check and Sum, Same: their contracts. -/
import Derived.Test.YtdnodloinlijaaaSt
namespace Go.Proofs.Ytdnodloinlijaaa
open Go.RowKit
set_option linter.unusedVariables false
set_option linter.unusedSimpArgs false

theorem rng_t {n : Int} (h : rng n = true) : 0 ≤ n ∧ n ≤ 1000000000000 := by simpa [rng] using h
theorem rng_f {n : Int} (h : rng n = false) : n < 0 ∨ (0 ≤ n ∧ 1000000000000 < n) := by
  simp [rng] at h
  omega
theorem all_get {l : List Pc} {f : Pc → Bool} (h : l.all f = true) {i : Nat} {p : Pc} (hi : l[i]? = some p) : f p = true := by
  rw [List.all_eq_true] at h
  exact h p (List.mem_of_getElem? hi)
theorem all_of {α : Type} {l : List α} {f : α → Bool} (h : ∀ j, j < l.length → ∀ y, l[j]? = some y → f y = true) : l.all f = true := by
  rw [List.all_eq_true]
  intro y hy
  obtain ⟨j, hj⟩ := List.getElem?_of_mem hy
  exact h j (List.getElem?_eq_some_iff.1 hj).1 y hj
theorem all_bad {α : Type} {l : List α} {f : α → Bool} {i : Nat} {y : α} (hi : l[i]? = some y) (h : f y = false) : l.all f = false := by
  rw [Bool.eq_false_iff]
  intro hall
  rw [List.all_eq_true] at hall
  have := hall y (List.mem_of_getElem? hi)
  rw [h] at this
  exact absurd this (by decide)
theorem getE {α : Type} {l : List α} {i : Nat} (h : i < l.length) : ∃ y, l[i]? = some y := ⟨_, List.getElem?_eq_getElem h⟩

theorem valid_c (A : Option Addr) (c : Nat) (l : List Int) (w : World) (h : Is w A l) (hl : l.length ≤ 1000) :
    Calls Try.prog 23 #[.slice A l.length c] w fun e w' => e = .returned (.bool (l.all rng)) ∧ w' = w := by
  obtain ⟨B, hB⟩ : ∃ B, B = l.all rng := ⟨_, rfl⟩
  rw [← hB]
  have HB := hid hB
  clear hB
  go_enter Try.func23, Try.ntmps23
  go_wp2_with fail
  go_loopw [7] (fun s wr => ∃ k : Nat, k ≤ l.length ∧ s = .int .i64 k ∧ Hid (∀ j, j < k → ∀ y, l[j]? = some y → rng y = true) ∧ wr = w)
    (fun s _ => l.length - (intOf s).toNat)
  case atStart => exact ⟨0, by omega, rfl, fun j hj => by omega, rfl⟩
  case round =>
    obtain ⟨k, hk, rfl, hp, rfl⟩ := hrel
    by_cases hlt : k < l.length
    · obtain ⟨y, hy⟩ := getE hlt
      obtain ⟨b, off, rfl, hb, x0⟩ := h.get hy
      have hk1 : (k : Int) < l.length := by omega
      have Hy := hid hy
      clear hy h
      cases hr : rng y with
      | true =>
        obtain ⟨q1, q2⟩ := rng_t hr
        have q3 : ¬ y < 0 := by omega
        have q4 : ¬ (1000000000000 : Int) < y := by omega
        have Hr := hid hr
        clear hr
        go_wp2_with fail
        go_roundw
        case rel => exact ⟨k + 1, by omega, by go_num, hid (fun j hj z hz => by
            by_cases e : j = k
            · subst e
              have h1 := Hy.out
              rw [hz] at h1
              cases h1
              exact Hr.out
            · exact hp.out j (by omega) z hz), trivial⟩
        case measure => simp [intOf]; omega
      | false =>
        have hall := HB.out.trans (all_bad Hy.out hr)
        subst hall
        rcases rng_f hr with q1 | ⟨q1, q2⟩
        · clear hr
          go_wp2_with fail
          go_ret
          exact ⟨rfl, rfl⟩
        · have q3 : ¬ y < 0 := by omega
          clear hr
          go_wp2_with fail
          go_ret
          exact ⟨rfl, rfl⟩
    · have : k = l.length := by omega
      subst this
      have hall := HB.out.trans (all_of hp.out)
      subst hall
      go_wp2_with fail
      go_ret
      exact ⟨rfl, rfl⟩

theorem ranged_c (n : Int) (w : World) : Calls Try.prog 24 #[.int .i64 n] w fun e w' => e = .returned (.bool (rng n)) ∧ w' = w := by
  cases hr : rng n with
  | true =>
    obtain ⟨q1, q2⟩ := rng_t hr
    clear hr
    go_enter Try.func24, Try.ntmps24
    go_wp2_with fail
    go_ret
    exact ⟨rfl, rfl⟩
  | false =>
    rcases rng_f hr with q1 | ⟨q1, q2⟩
    · have q3 : ¬ 0 ≤ n := by omega
      clear hr
      go_enter Try.func24, Try.ntmps24
      go_wp2_with fail
      go_ret
      exact ⟨rfl, rfl⟩
    · have q3 : ¬ n ≤ 1000000000000 := by omega
      clear hr
      go_enter Try.func24, Try.ntmps24
      go_wp2_with fail
      go_ret
      exact ⟨rfl, rfl⟩
theorem ranged_v (n : Int) (b : Bool) (h : Hid (rng n = b)) (w : World) : Calls Try.prog 24 #[.int .i64 n] w fun e w' => e = .returned (.bool b) ∧ w' = w := by
  have := ranged_c n w
  rwa [h.out] at this

theorem check_c (A : Option Addr) (c : Nat) (l : List Pc) (W V : Int) (w : World) (h : Ps w A l) :
    Calls Try.prog 12 #[.slice A l.length c, .int .i64 W, .int .i64 V] w fun e w' => e = .returned (.int .i64 (checkF l W V)) ∧ Mod (fun _ => False) w w' := by
  by_cases h16 : 16 < l.length
  · have e : checkF l W V = 4 := by rw [checkF, if_pos h16]
    rw [e]
    have g : (16 : Int) < l.length := by omega
    go_enter Try.func12, Try.ntmps12
    go_wp2_with fail
    go_ret
    exact ⟨rfl, Mod.refl _ _⟩
  · have g : ¬ (16 : Int) < l.length := by omega
    have hI := Is.of (l := [W, V]) (At.new w (.cells #[.int .i64 W, .int .i64 V] 3)) rfl
    have hv := valid_c (some ⟨w.heap.size, 0, none⟩) 2 [W, V] _ hI (by simp)
    have m1 : Mod (fun _ => False) w (w.alloc (.cells #[.int .i64 W, .int .i64 V] 3)) := (Mod.refl _ _).alloc _
    simp only [List.length_cons, List.length_nil, Nat.zero_add, Nat.reduceAdd] at hv
    have e : checkF l W V = if [W, V].all rng then (if l.all okP then 0 else 9) else 9 := by
      rw [checkF, if_neg h16]
      simp
    rw [e]
    clear e
    have Hm := hid m1
    clear m1 hI
    cases hr : [W, V].all rng with
    | false =>
      rw [hr] at hv
      clear hr
      go_enter Try.func12, Try.ntmps12
      go_wp2_with fail
      refine hv.mono ?_
      rintro e w1 ⟨rfl, rfl⟩
      go_wp2_with fail
      go_ret
      exact ⟨rfl, Hm.out⟩
    | true =>
      rw [hr] at hv
      clear hr
      have H := hid h
      clear h
      rw [if_pos rfl]
      obtain ⟨E, hE⟩ : ∃ E : Int, E = if l.all okP then 0 else 9 := ⟨_, rfl⟩
      rw [← hE]
      have HE := hid hE
      clear hE
      go_enter Try.func12, Try.ntmps12
      go_wp2_with fail
      refine hv.mono ?_
      rintro e w1 ⟨rfl, hw1⟩
      rw [← hw1] at Hm
      clear hw1 hv
      go_wp2_with fail
      go_loopw [19] (fun s wr => ∃ k : Nat, k ≤ l.length ∧ s = .int .i64 k ∧ Hid (∀ j, j < k → ∀ y, l[j]? = some y → okP y = true) ∧ Hid (Mod (fun _ => False) w wr))
        (fun s _ => l.length - (intOf s).toNat)
      case atStart => exact ⟨0, by omega, rfl, fun j hj => by omega, Hm⟩
      case round =>
        obtain ⟨k, hk, rfl, hp, m⟩ := hrel
        by_cases hlt : k < l.length
        · obtain ⟨p, hy⟩ := getE hlt
          obtain ⟨b, off, rfl, hb, x0, x1, x2⟩ := (H.out.mod0 m.out).get hy
          have hk1 : (k : Int) < l.length := by omega
          have Hy := hid hy
          clear hy
          have hI := Is.of (l := [p.w, p.v, p.x]) (At.new1 wr (.cells #[.int .i64 p.w, .int .i64 p.v, .int .i64 p.x] 28) (.cells #[.int .i64 p.w, .int .i64 p.v, .int .i64 p.x] 3)) rfl
          have hv := valid_c (some ⟨wr.heap.size + 1, 0, none⟩) 3 [p.w, p.v, p.x] _ hI (by simp)
          have m3 := hid ((m.out.alloc (.cells #[.int .i64 p.w, .int .i64 p.v, .int .i64 p.x] 28)).alloc (.cells #[.int .i64 p.w, .int .i64 p.v, .int .i64 p.x] 3))
          simp only [List.length_cons, List.length_nil, Nat.zero_add, Nat.reduceAdd] at hv
          have e : [p.w, p.v, p.x].all rng = okP p := by simp [okP]
          rw [e] at hv
          clear hI e
          cases hr : okP p with
          | true =>
            rw [hr] at hv
            have Hr := hid hr
            clear hr
            go_wp2_with fail
            refine hv.mono ?_
            rintro e w2 ⟨rfl, hw2⟩
            rw [← hw2] at m3
            clear hw2 hv
            go_wp2_with fail
            go_roundw
            case rel => exact ⟨k + 1, by omega, by go_num, hid (fun j hj z hz => by
                by_cases e : j = k
                · subst e
                  have h1 := Hy.out
                  rw [hz] at h1
                  cases h1
                  exact Hr.out
                · exact hp.out j (by omega) z hz), m3⟩
            case measure => simp [intOf]; omega
          | false =>
            rw [hr] at hv
            have hall := HE.out.trans (by rw [all_bad Hy.out hr])
            subst hall
            clear hr
            go_wp2_with fail
            refine hv.mono ?_
            rintro e w2 ⟨rfl, hw2⟩
            rw [← hw2] at m3
            clear hw2 hv
            go_wp2_with fail
            go_ret
            exact ⟨rfl, m3.out⟩
        · have : k = l.length := by omega
          subst this
          have hall := HE.out.trans (by rw [all_of hp.out])
          subst hall
          go_wp2_with fail
          go_ret
          exact ⟨rfl, m.out⟩

theorem rcheck_c (A : Option Addr) (c : Nat) (l : List Pc) (W V : Int) (w : World) (h : Ps w A l) :
    Calls Try.prog 13 #[.slice A l.length c, .int .i64 W, .int .i64 V] w fun e w' => e = .returned (.int .i64 (checkF l W V)) ∧ Mod (fun _ => False) w w' := by
  by_cases h16 : 16 < l.length
  · have e : checkF l W V = 4 := by rw [checkF, if_pos h16]
    rw [e]
    have g : (16 : Int) < l.length := by omega
    go_enter Try.func13, Try.ntmps13
    go_wp2_with fail
    go_ret
    exact ⟨rfl, Mod.refl _ _⟩
  · have g : ¬ (16 : Int) < l.length := by omega
    have e : checkF l W V = if rng W && rng V then (if l.all okP then 0 else 9) else 9 := by
      rw [checkF, if_neg h16]
    rw [e]
    clear e
    cases hW : rng W with
    | false =>
      have HW := hid hW
      clear hW
      go_enter Try.func13, Try.ntmps13
      go_wp2_with fail
      refine (ranged_v W _ HW w).mono ?_
      rintro e w1 ⟨rfl, rfl⟩
      go_wp2_with fail
      go_ret
      exact ⟨rfl, Mod.refl _ _⟩
    | true =>
      have HW := hid hW
      clear hW
      cases hV : rng V with
      | false =>
        have HV := hid hV
        clear hV
        go_enter Try.func13, Try.ntmps13
        go_wp2_with fail
        refine (ranged_v W _ HW w).mono ?_
        rintro e w1 ⟨rfl, rfl⟩
        go_wp2_with fail
        refine (ranged_v V _ HV _).mono ?_
        rintro e w1 ⟨rfl, rfl⟩
        go_wp2_with fail
        go_ret
        exact ⟨rfl, Mod.refl _ _⟩
      | true =>
        have HV := hid hV
        clear hV
        have H := hid h
        clear h
        rw [Bool.true_and, if_pos rfl]
        obtain ⟨E, hE⟩ : ∃ E : Int, E = if l.all okP then 0 else 9 := ⟨_, rfl⟩
        rw [← hE]
        have HE := hid hE
        clear hE
        go_enter Try.func13, Try.ntmps13
        go_wp2_with fail
        refine (ranged_v W _ HW w).mono ?_
        rintro e w1 ⟨rfl, rfl⟩
        go_wp2_with fail
        refine (ranged_v V _ HV _).mono ?_
        rintro e w1 ⟨rfl, rfl⟩
        go_wp2_with fail
        go_loopw [7] (fun s wr => ∃ k : Nat, k ≤ l.length ∧ s = .int .i64 k ∧ Hid (∀ j, j < k → ∀ y, l[j]? = some y → okP y = true) ∧ wr = w1)
          (fun s _ => l.length - (intOf s).toNat)
        case atStart => exact ⟨0, by omega, rfl, fun j hj => by omega, rfl⟩
        case round =>
          obtain ⟨k, hk, rfl, hp, rfl⟩ := hrel
          by_cases hlt : k < l.length
          · obtain ⟨p, hy⟩ := getE hlt
            obtain ⟨b, off, rfl, hb, x0, x1, x2⟩ := H.out.get hy
            have hk1 : (k : Int) < l.length := by omega
            have Hy := hid hy
            clear hy
            cases hr0 : rng p.w with
            | false =>
              have hall := HE.out.trans (by rw [all_bad Hy.out (f := okP) (by simp [okP, hr0])])
              subst hall
              have H0 := hid hr0
              clear hr0
              go_wp2_with fail
              refine (ranged_v _ _ H0 _).mono ?_
              rintro e w1 ⟨rfl, rfl⟩
              go_wp2_with fail
              go_ret
              exact ⟨rfl, Mod.refl _ _⟩
            | true =>
              cases hr1 : rng p.v with
              | false =>
                have hall := HE.out.trans (by rw [all_bad Hy.out (f := okP) (by simp [okP, hr1])])
                subst hall
                have H0 := hid hr0
                have H1 := hid hr1
                clear hr0 hr1
                go_wp2_with fail
                refine (ranged_v _ _ H0 _).mono ?_
                rintro e w1 ⟨rfl, rfl⟩
                go_wp2_with fail
                refine (ranged_v _ _ H1 _).mono ?_
                rintro e w1 ⟨rfl, rfl⟩
                go_wp2_with fail
                go_ret
                exact ⟨rfl, Mod.refl _ _⟩
              | true =>
                cases hr2 : rng p.x with
                | false =>
                  have hall := HE.out.trans (by rw [all_bad Hy.out (f := okP) (by simp [okP, hr2])])
                  subst hall
                  have H0 := hid hr0
                  have H1 := hid hr1
                  have H2 := hid hr2
                  clear hr0 hr1 hr2
                  go_wp2_with fail
                  refine (ranged_v _ _ H0 _).mono ?_
                  rintro e w1 ⟨rfl, rfl⟩
                  go_wp2_with fail
                  refine (ranged_v _ _ H1 _).mono ?_
                  rintro e w1 ⟨rfl, rfl⟩
                  go_wp2_with fail
                  refine (ranged_v _ _ H2 _).mono ?_
                  rintro e w1 ⟨rfl, rfl⟩
                  go_wp2_with fail
                  go_ret
                  exact ⟨rfl, Mod.refl _ _⟩
                | true =>
                  have Hr := hid (show okP p = true from by simp [okP, hr0, hr1, hr2])
                  have H0 := hid hr0
                  have H1 := hid hr1
                  have H2 := hid hr2
                  clear hr0 hr1 hr2
                  go_wp2_with fail
                  refine (ranged_v _ _ H0 _).mono ?_
                  rintro e w1 ⟨rfl, rfl⟩
                  go_wp2_with fail
                  refine (ranged_v _ _ H1 _).mono ?_
                  rintro e w1 ⟨rfl, rfl⟩
                  go_wp2_with fail
                  refine (ranged_v _ _ H2 _).mono ?_
                  rintro e w1 ⟨rfl, rfl⟩
                  go_wp2_with fail
                  go_roundw
                  case rel => exact ⟨k + 1, by omega, by go_num, hid (fun j hj z hz => by
                      by_cases e : j = k
                      · subst e
                        have h1 := Hy.out
                        rw [hz] at h1
                        cases h1
                        exact Hr.out
                      · exact hp.out j (by omega) z hz), trivial⟩
                  case measure => simp [intOf]; omega
          · have : k = l.length := by omega
            subst this
            have hall := HE.out.trans (by rw [all_of hp.out])
            subst hall
            go_wp2_with fail
            go_ret
            exact ⟨rfl, Mod.refl _ _⟩

theorem same_c (A1 A2 : Option Addr) (c1 c2 : Nat) (l1 l2 : List Int) (w : World) (h1 : Is w A1 l1) (h2 : Is w A2 l2) (hl : l1.length ≤ 1000) :
    Calls Try.prog 17 #[.slice A1 l1.length c1, .slice A2 l2.length c2] w fun e w' => e = .returned (.bool (decide (l1 = l2))) ∧ Mod (fun _ => False) w w' := by
  by_cases hll : l1.length = l2.length
  · have g : (l1.length : Int) = l2.length := by omega
    have H1 := hid h1
    have H2 := hid h2
    have Hll := hid hll
    rw [← hll]
    clear h1 h2 hll g
    obtain ⟨B, hB⟩ : ∃ B, B = decide (l1 = l2) := ⟨_, rfl⟩
    rw [← hB]
    have HB := hid hB
    clear hB
    go_enter Try.func17, Try.ntmps17
    go_wp2_with fail
    go_loopw [5] (fun s wr => ∃ k : Nat, k ≤ l1.length ∧ s = .int .i64 k ∧ Hid (∀ j, j < k → l1[j]? = l2[j]?) ∧ Mod (fun _ => False) w wr)
      (fun s _ => l1.length - (intOf s).toNat)
    case atStart => exact ⟨0, by omega, rfl, fun j hj => by omega, Mod.refl _ _⟩
    case round =>
      obtain ⟨k, hk, rfl, hp, m⟩ := hrel
      by_cases hlt : k < l1.length
      · obtain ⟨y, hy⟩ := getE hlt
        obtain ⟨z, hz⟩ := getE (show k < l2.length by rw [← Hll.out]; exact hlt)
        obtain ⟨b, off, rfl, hb, x0⟩ := (H1.out.mod0 m).get hy
        obtain ⟨b', off', rfl, hb', x0'⟩ := (H2.out.mod0 m).get hz
        have hk1 : (k : Int) < l1.length := by omega
        have Hy := hid hy
        have Hz := hid hz
        have M := hid m
        clear hy hz m
        by_cases e : y = z
        · subst e
          go_wp2_with fail
          go_quiet (fail)
          go_wp2_with fail
          go_roundw
          case rel => exact ⟨k + 1, by omega, by go_num, hid (fun j hj => by
              by_cases e : j = k
              · subst e; rw [Hy.out, Hz.out]
              · exact hp.out j (by omega)), M.out.drewN _⟩
          case measure => simp [intOf]; omega
        · have hd : decide (l1 = l2) = false := by
            rw [decide_eq_false_iff_not]
            intro q
            have h1 := Hy.out
            rw [q, Hz.out] at h1
            cases h1
            exact e rfl
          have hd := HB.out.trans hd
          subst hd
          go_wp2_with fail
          go_quiet (fail)
          go_wp2_with fail
          go_ret
          exact ⟨rfl, M.out.drewN _⟩
      · have hkl : k = l1.length := by omega
        subst hkl
        have hd : decide (l1 = l2) = true := by
          rw [decide_eq_true_iff]
          apply List.ext_getElem? 
          intro j
          by_cases hj : j < l1.length
          · exact hp.out j hj
          · rw [List.getElem?_eq_none (by omega), List.getElem?_eq_none (by have := Hll.out; omega)]
        have hd := HB.out.trans hd
        subst hd
        go_wp2_with fail
        go_ret
        exact ⟨rfl, m⟩
  · have g : ¬ (l1.length : Int) = l2.length := by omega
    have hd : decide (l1 = l2) = false := by
      rw [decide_eq_false_iff_not]
      intro q
      exact hll (by rw [q])
    rw [hd]
    clear hd hll
    go_enter Try.func17, Try.ntmps17
    go_wp2_with fail
    go_ret
    exact ⟨rfl, Mod.refl _ _⟩
end Go.Proofs.Ytdnodloinlijaaa
