/- The law SorterKeeps: its walk. -/
import Derived.Test.YtdipncjbobhbjaaKeepsP
import Derived.Laws.AppendOwnNone
namespace Go.Proofs.Ytdipncjbobhbjaa
open Go.RowKit Go.Maps Go.ChangeShapes Go.WideShapes Go.Deep
set_option linter.unusedVariables false
set_option linter.unusedSimpArgs false

theorem open_script2 {H : Type} {enc : TypeId × Value → H} {w : World} {base : Nat} {spare : Nat → Bool} {held : Bool} {r : Reach} {b0 : Nat} {v : Value} {d : DataW H} {p : List MemPlace}
    (hv : Value.okWide Try.prog w r b0 24 v) (h : DataW.Trod enc Try.prog w base spare held 24 v d p) :
    ∃ (nb cap : Int) (A : Option Addr) (n c : Nat) (f : Nat → Cl), v = .agg #[.int .i64 nb, .int .i64 cap, .slice A n c] ∧ Ops w A n f ∧ (A = none → n = 0 ∧ c = 0) := by
  obtain ⟨l, rfl, hl, hg⟩ := open_struct Try.underlying24 (by kernel_rfl) (by kernel_rfl) hv h
  obtain ⟨c0, y0, n0, e0, t0⟩ := hg 0 _ rfl
  obtain ⟨c1, y1, n1, e1, t1⟩ := hg 1 _ rfl
  obtain ⟨c2, y2, n2, e2, t2⟩ := hg 2 _ rfl
  obtain ⟨x0, rfl, _⟩ := one_int (k := .i64) Try.underlying3 ⟨_, _, t0⟩
  obtain ⟨x1, rfl, _⟩ := one_int (k := .i64) Try.underlying3 ⟨_, _, t1⟩
  have hz : ∃ A n c f, c2 = .slice A n c ∧ Ops w A n f ∧ (A = none → n = 0 ∧ c = 0) := by
    obtain ⟨A, n, c, f, rfl, ho⟩ := open_rows4 t2
    refine ⟨A, n, c, f, rfl, ho, fun hA => ?_⟩
    subst hA
    rcases open_rows (fs := _) Try.underlying22 Try.underlying33 (by kernel_rfl) (by kernel_rfl) t2 with h0 | ⟨a, len, cap, hcs, _⟩
    · simp at h0; exact h0
    · simp at hcs
  obtain ⟨A, n, c, f, rfl, ho, hz⟩ := hz
  have hl3 : l.length = 3 := hl
  refine ⟨x0, x1, A, n, c, f, ?_, ho, hz⟩
  match l, hl3, e0, e1, e2 with
  | [a, b, c], _, e0, e1, e2 => simp at e0 e1 e2; subst e0; subst e1; subst e2; rfl

/-- A fresh row that has grown: nothing older has turned. -/
theorem grown_fresh {w w0 w1 : World} {v : Value} {n e size : Nat} {xs : List Value} (m : Mod (fun _ => False) w w0) (ho : w0.ownsRow w.heap.size e size v n xs) (hg : w0.grownBy w1 v.ownBlock) : Mod (fun _ => False) w w1 := by
  exact m.trans' (T := fun q => v.ownBlock = some q) ⟨hg.os, hg.tape, hg.output, hg.size, fun q hq hn => hg.block q hq (fun e => hn e.symm)⟩ (fun q hq h => by have := own_base ho h; omega)
theorem own_MT {B : Nat} {w w' : World} {base : Nat} {e : TypeId} {size n : Nat} {v : Value} {xs : List Value} (h : w.ownsRow base e size v n xs) (m : MT B w w') (he : e ≠ 61 ∧ e ≠ 64 ∧ e ≠ 9) : w'.ownsRow base e size v n xs :=
  own_same h (fun g hg => by
    obtain ⟨cur, hc⟩ := own_at h hg
    exact (MT.at_ hc m he).trans hc.symm)
theorem own_weaken0 {w : World} {base : Nat} {e : TypeId} {size n : Nat} {v : Value} {xs : List Value} (h : w.ownsRow base e size v n xs) : w.ownsRow 0 e size v n xs := by
  obtain ⟨h1, h2⟩ := h
  refine ⟨h1, ?_⟩
  rcases h2 with h0 | ⟨g, cap, cur, rfl, hg, hh, r⟩
  · exact .inl h0
  · exact .inr ⟨g, cap, cur, rfl, Nat.zero_le _, hh, r⟩

theorem own_zero (w : World) (e : TypeId) (size : Nat) : (w.alloc (.cells #[] e)).ownsRow w.heap.size e size (.slice (some ⟨w.heap.size, 0, none⟩) 0 0) 0 [] :=
  ⟨by simp, .inr ⟨w.heap.size, 0, #[], rfl, Nat.le_refl _, At.new w _, Nat.le_refl _, Nat.zero_le _, by simp, by simp⟩⟩
def cl4 (x : Cl) : Nat → Value
  | 0 => .int .u8 x.kd
  | 1 => .string x.key
  | 2 => .string x.item
  | _ => .int .i64 x.bin
def opc (g : Nat → Cl) (N : Nat) : List Value := (List.range (N * 4)).map fun j => cl4 (g (j / 4)) (j % 4)
theorem opc_len (g : Nat → Cl) (N : Nat) : (opc g N).length = N * 4 := by simp [opc]
theorem opc_get (g : Nat → Cl) (N k c : Nat) (hk : k < N) (hc : c < 4) : (opc g N)[k * 4 + c]? = some (cl4 (g k) c) := by
  have h : k * 4 + c < N * 4 := by omega
  have e1 : (k * 4 + c) / 4 = k := by omega
  have e2 : (k * 4 + c) % 4 = c := by omega
  simp only [opc, List.getElem?_map, List.getElem?_range h, Option.map_some, e1, e2]
theorem opc_succ {g : Nat → Cl} {N : Nat} {x : Cl} (hx : g N = x) : opc g N ++ [.int .u8 x.kd, .string x.key, .string x.item, .int .i64 x.bin] = opc g (N + 1) := by
  subst hx
  have e : (N + 1) * 4 = N * 4 + 1 + 1 + 1 + 1 := by omega
  have d0 : N * 4 / 4 = N := by omega
  have d1 : (N * 4 + 1) / 4 = N := by omega
  have d2 : (N * 4 + 1 + 1) / 4 = N := by omega
  have d3 : (N * 4 + 1 + 1 + 1) / 4 = N := by omega
  have m0 : N * 4 % 4 = 0 := by omega
  have m1 : (N * 4 + 1) % 4 = 1 := by omega
  have m2 : (N * 4 + 1 + 1) % 4 = 2 := by omega
  have m3 : (N * 4 + 1 + 1 + 1) % 4 = 3 := by omega
  unfold opc
  rw [e, List.range_succ, List.range_succ, List.range_succ, List.range_succ]
  simp only [List.map_append, List.map_cons, List.map_nil, List.append_assoc, d0, d1, d2, d3, m0, m1, m2, m3, cl4, List.cons_append, List.nil_append]
theorem opc_congr {g g' : Nat → Cl} {N : Nat} (h : ∀ j, j < N → g j = g' j) : opc g N = opc g' N := by
  unfold opc
  refine List.map_congr_left (fun j hj => ?_)
  have := List.mem_range.1 hj
  rw [h _ (by omega)]
theorem cl4_one (x : Cl) (k : Nat) : (cl4 x k).oneCell' = true := by
  match k with
  | 0 => rfl
  | 1 => rfl
  | 2 => rfl
  | k + 3 => rfl
def ptc (l : List Pt) : List Value := l.flatMap fun x => [.string x.key, .string x.item, .int .i64 x.bin]
theorem ptc_len (l : List Pt) : (ptc l).length = l.length * 3 := by
  induction l with
  | nil => rfl
  | cons a l ih => simp only [ptc, List.flatMap_cons, List.length_append, List.length_cons, List.length_nil] at *; omega
theorem ptc_append (l m : List Pt) : ptc (l ++ m) = ptc l ++ ptc m := by simp [ptc]
theorem ptc_get (l : List Pt) (k : Nat) (h : k < l.length) : (ptc l)[k * 3]? = some (.string (l[k]'h).key) ∧ (ptc l)[k * 3 + 1]? = some (.string (l[k]'h).item) ∧ (ptc l)[k * 3 + 2]? = some (.int .i64 (l[k]'h).bin) := by
  induction l generalizing k with
  | nil => simp at h
  | cons a l ih =>
    cases k with
    | zero => exact ⟨rfl, rfl, rfl⟩
    | succ k =>
      have := ih k (by simpa using h)
      have e1 : (k + 1) * 3 = (k * 3) + 1 + 1 + 1 := by omega
      have e2 : (k + 1) * 3 + 1 = (k * 3 + 1) + 1 + 1 + 1 := by omega
      have e3 : (k + 1) * 3 + 2 = (k * 3 + 2) + 1 + 1 + 1 := by omega
      rw [e2, e3, e1]
      exact this
theorem row4_get {w : World} {base : Nat} {A : Option Addr} {N c : Nat} {g : Nat → Cl} (h : w.ownsRow base 33 4 (.slice A N c) N (opc g N)) {k : Nat} (hk : k < N) :
    ∃ gb, A = some ⟨gb, 0, none⟩ ∧ gb < w.heap.size ∧ w.cell? ⟨gb, k * 4, none⟩ = some (.int .u8 (g k).kd) ∧ w.cell? ⟨gb, k * 4 + 1, none⟩ = some (.string (g k).key) ∧ w.cell? ⟨gb, k * 4 + 2, none⟩ = some (.string (g k).item) ∧ w.cell? ⟨gb, k * 4 + 3, none⟩ = some (.int .i64 (g k).bin) := by
  obtain ⟨gb, cap, hv, _, hlt⟩ := h.form (by omega)
  have hA : A = some ⟨gb, 0, none⟩ := by injection hv
  subst hA
  have hg := h.cells (g := gb) rfl
  have f0 := hg _ _ (opc_get g N k 0 hk (by omega))
  have f1 := hg _ _ (opc_get g N k 1 hk (by omega))
  have f2 := hg _ _ (opc_get g N k 2 hk (by omega))
  have f3 := hg _ _ (opc_get g N k 3 hk (by omega))
  rw [add_plain] at f0 f1 f2 f3
  exact ⟨gb, rfl, hlt, f0, f1, f2, f3⟩
theorem row3_get {w : World} {base : Nat} {A : Option Addr} {c : Nat} {l : List Pt} (h : w.ownsRow base 37 3 (.slice A l.length c) l.length (ptc l)) {k : Nat} (hk : k < l.length) :
    ∃ gb, A = some ⟨gb, 0, none⟩ ∧ gb < w.heap.size ∧ w.cell? ⟨gb, k * 3, none⟩ = some (.string (l[k]'hk).key) ∧ w.cell? ⟨gb, k * 3 + 1, none⟩ = some (.string (l[k]'hk).item) ∧ w.cell? ⟨gb, k * 3 + 2, none⟩ = some (.int .i64 (l[k]'hk).bin) := by
  obtain ⟨gb, cap, hv, _, hlt⟩ := h.form (by omega)
  have hA : A = some ⟨gb, 0, none⟩ := by injection hv
  subst hA
  have hg := h.cells (g := gb) rfl
  obtain ⟨p0, p1, p2⟩ := ptc_get l k hk
  have f0 := hg _ _ p0
  have f1 := hg _ _ p1
  have f2 := hg _ _ p2
  rw [add_plain] at f0 f1 f2
  exact ⟨gb, rfl, hlt, f0, f1, f2⟩
theorem info33 : (Try.prog.info? 33).map (fun i => (i.zero, i.size, i.bytes)) = some (some (.agg #[.int .u8 0, .string ByteArray.empty, .string ByteArray.empty, .int .i64 0]), 4, 48) := by kernel_rfl
theorem info37 : (Try.prog.info? 37).map (fun i => (i.zero, i.size, i.bytes)) = some (some (.agg #[.string ByteArray.empty, .string ByteArray.empty, .int .i64 0]), 3, 40) := by kernel_rfl

theorem own_weaken {w : World} {base base' : Nat} {e : TypeId} {size n : Nat} {v : Value} {xs : List Value} (h : w.ownsRow base e size v n xs) (hb : base' ≤ base) : w.ownsRow base' e size v n xs := by
  obtain ⟨h1, h2⟩ := h
  refine ⟨h1, ?_⟩
  rcases h2 with h0 | ⟨g, cap, cur, rfl, hg, hh, r⟩
  · exact .inl h0
  · exact .inr ⟨g, cap, cur, rfl, Nat.le_trans hb hg, hh, r⟩
theorem own_apart {w : World} {base base' : Nat} {e e' : TypeId} {size size' n n' : Nat} {v v' : Value} {xs xs' : List Value} (h : w.ownsRow base e size v n xs) (h' : w.ownsRow base' e' size' v' n' xs') (he : e ≠ e') : ∀ g, v.ownBlock = some g → v'.ownBlock ≠ some g := fun g hg hg' => by
  obtain ⟨cur, hc⟩ := own_at h hg
  exact own_ne h' hc (fun q => he q.symm) hg'.symm
theorem grown_mod {w w1 : World} {v : Value} (hg : w.grownBy w1 v.ownBlock) : Mod (fun q => v.ownBlock = some q) w w1 := ⟨hg.os, hg.tape, hg.output, hg.size, fun q hq hn => hg.block q hq (fun e => hn e.symm)⟩
/-- A row of what was put has grown. -/
theorem Run.grow {B s : Nat} {cap : Int} {L : Nat} {w0 wr w' : World} {bins : List Bin} {v : Value} {n : Nat} {xs : List Value} (h : Run B s cap L w0 wr bins) (ho : wr.ownsRow B 37 3 v n xs) (hg : wr.grownBy w' v.ownBlock) : Run B s cap L w0 w' bins := by
  refine ⟨h.at_.keep (grown_mod hg) (fun k hk _ hT e => ?_), h.fits, h.tidy, h.len, h.m.trans' (grown_mod hg) (fun i hi e => by have := own_base ho e; have := h.hB; omega), h.hB⟩
  obtain ⟨cur, hc⟩ := own_at ho e
  rcases hT with ⟨c', t', fr', a1, a2⟩ | ⟨es, cl, a1⟩
  · have := At.inj hc a1
    injection this with _ e _
    subst e
    simp at a2
  · have := At.inj hc a1
    cases this
/-- The calls of a script, then one Take for each bin. -/
def calls (f : Nat → Cl) (n : Nat) (j : Nat) : Cl := if j < n then f j else ⟨1, ByteArray.empty, ByteArray.empty, ((j - n : Nat) : Int)⟩

set_option maxRecDepth 100000 in
set_option maxHeartbeats 6400000 in
theorem sorterKeeps_walk (nb cap : Int) (A : Option Addr) (n c : Nat) (f : Nat → Cl) (w : World) (h : Ops w A n f ∧ (A = none → n = 0 ∧ c = 0)) :
    Calls Try.prog 3 #[.agg #[.int .i64 nb, .int .i64 cap, .slice A n c]] w fun e w' => e = .returned (.bool true) ∧ Below w.heap.size w w' := by
  obtain ⟨h, hz⟩ := h
  obtain ⟨i33, hi33, hz33, hs33, hb33⟩ := info_parts info33
  obtain ⟨i37, hi37, hz37, hs37, hb37⟩ := info_parts info37
  have hbox := At.new w (.cells #[.int .i64 nb, .int .i64 cap, .slice A n c] 24)
  have m0 : Mod (fun _ => False) w (w.alloc (.cells #[.int .i64 nb, .int .i64 cap, .slice A n c] 24)) := (Mod.refl _ _).alloc _
  have hops := h.mod m0 (fun _ _ _ _ h => h)
  have Hops := hid hops
  have Hbox := hid hbox
  have M0 := hid m0
  have Hz := hid hz
  clear hbox m0 hops h hz
  cases hs : smallF n f
  · have Hs := hid hs
    clear hs
    go_enter Try.func3, Try.ntmps3
    go_wp2_with fail
    refine (small_c nb cap A n c f _ Hops.out).mono ?_
    rw [Hs.out]
    rintro e w1 ⟨rfl, m1⟩
    have M1 := hid (M0.out.trans m1)
    go_wp2_with fail
    refine (awake_c _).mono ?_
    rintro e w8 ⟨rfl, m8⟩
    go_wp2_with fail
    go_ret
    exact ⟨rfl, (M1.out.toBelow _ (Nat.le_refl _) (fun _ _ h => h)).trans (m8.mono M1.out.size)⟩
  · obtain ⟨hn150, hsm⟩ := smallF_true hs
    have Hsm := hid hsm
    have Hs := hid hs
    clear hs hsm
    go_enter Try.func3, Try.ntmps3
    go_wp2_with fail
    refine (small_c nb cap A n c f _ Hops.out).mono ?_
    rw [Hs.out]
    rintro e w1 ⟨rfl, m1⟩
    have Hb1 := hid (Hbox.out.mod m1 id)
    have Ho1 := hid (Hops.out.mod m1 (fun _ _ _ _ h => h))
    have M1 := hid (M0.out.trans m1)
    obtain ⟨b0, b1, b2⟩ := At.three Hb1.out
    by_cases hg : 1 ≤ nb ∧ nb ≤ 16 ∧ 1 ≤ cap ∧ cap ≤ 32
    · obtain ⟨h1, h2, h3, h4⟩ := hg
      obtain ⟨L, rfl⟩ := Int.eq_ofNat_of_zero_le (show 0 ≤ nb by omega)
      go_wp2_with fail
      refine (new_good L cap w1 (by omega) (by omega) h3 h4).mono ?_
      rintro e w2 ⟨s, rfl, hsr, hf, m2⟩
      have R2 : Hid (Run w1.heap.size s cap L w1 w2 (empties L)) := ⟨hsr, hf, tidy_empties L, empties_len L, m2, rfl⟩
      clear hsr hf m2 b0 b1 b2
      obtain ⟨b0, b1, b2⟩ := At.three (Hb1.out.mod R2.out.m id)
      have hnil := own_zero w2 33 4
      have hbl2 := (Hb1.out.mod R2.out.m id).lt
      have hbl3 : w.heap.size < w2.heap.size + 1 := by omega
      have hL1 : ¬ (L : Int) < 1 := by omega
      have hL2 : ¬ (16 : Int) < L := by omega
      have Ho2 := hid (Ho1.out.mod R2.out.m (fun _ _ _ _ h => h))
      go_upto_region 9 with fail
      go_cut [6] from 41 to 44 (fun s6 wx => ∃ Ar cr, s6 = .slice Ar n cr ∧ Hid (wx.ownsRow w2.heap.size 33 4 (.slice Ar n cr) n (opc f n)) ∧ Hid (Mod (fun _ => False) w2 wx))
      case first =>
        rcases A with _ | ad
        · obtain ⟨rfl, rfl⟩ := Hz.out rfl
          go_wp2_with (first
            | (at_builtin; refine wpList_append_own_none rfl (.tmp 41) (.tmp 43) 22 rfl w2.heap.size 33 i33 4 Try.underlying22 hi33 (.slice (some ⟨w2.heap.size, 0, none⟩) 0 0) 0 [] rfl hnil rfl ?_))
          go_meet
          exact ⟨_, 0, rfl, hnil, (Mod.refl _ _).alloc _⟩
        · go_wp2_with (first
            | (at_builtin; refine wpList_append_own _ rfl (.tmp 41) (.tmp 43) 22 rfl w2.heap.size 33 i33 (.agg #[.int .u8 0, .string ByteArray.empty, .string ByteArray.empty, .int .i64 0]) 4 48 Try.underlying22 hi33 hz33 hs33 hb33 rfl (by decide) (.slice (some ⟨w2.heap.size, 0, none⟩) 0 0) 0 [] rfl hnil ad n c (opc f n) rfl ?d0 ?d1 ?d2 ?d3 ?d4 ?d5 ?_))
          case d0 => rw [opc_len]
          case d1 =>
            intro j u hj
            have hjl : j < n * 4 := by
              have := (List.getElem?_eq_some_iff.1 hj).1
              rwa [opc_len] at this
            obtain ⟨b, off, e, hb, o0, o1, o2, o3, _, _⟩ := Ho2.out.get (i := j / 4) (by omega)
            injection e with e
            subst e
            have ea : (⟨b, off, none⟩ : Addr).add j = ⟨b, off + j, none⟩ := by unfold Addr.add; split <;> simp_all
            have hg := opc_get f n (j / 4) (j % 4) (by omega) (by omega)
            rw [show j / 4 * 4 + j % 4 = j from by omega, hj] at hg
            injection hg with hg
            subst hg
            rw [ea]
            have hup : ∀ {x : Nat} {v : Value}, w2.cell? ⟨b, x, none⟩ = some v → (w2.alloc (.cells #[] 33)).cell? ⟨b, x, none⟩ = some v := fun h => ((Mod.refl (fun _ => False) w2).alloc _).keep0 h
            have hm : j % 4 = 0 ∨ j % 4 = 1 ∨ j % 4 = 2 ∨ j % 4 = 3 := by omega
            rcases hm with q | q | q | q <;> rw [q]
            · rw [show off + j = off + j / 4 * 4 from by omega]; exact hup o0
            · rw [show off + j = off + j / 4 * 4 + 1 from by omega]; exact hup o1
            · rw [show off + j = off + j / 4 * 4 + 2 from by omega]; exact hup o2
            · rw [show off + j = off + j / 4 * 4 + 3 from by omega]; exact hup o3
          case d2 =>
            intro u hu
            simp only [opc, List.mem_map] at hu
            obtain ⟨j, _, rfl⟩ := hu
            exact cl4_one _ _
          case d3 => unfold maxLen; omega
          case d4 => omega
          case d5 => simp
          · intro v' w3 hown hgr _
            have mw := grown_fresh ((Mod.refl _ _).alloc _) hnil hgr
            obtain ⟨Ar, cr, rfl⟩ := own_val hown
            go_wp2_with fail
            go_meet
            exact ⟨Ar, cr, rfl, hown, mw⟩
      case rest =>
        obtain ⟨Ar, cr, rfl, hown, mw⟩ := hcut
        clear b0 b1 b2 hnil hbl2 hbl3 Ho2
        go_wp2_with fail
        go_loopw [7, 6] (fun s7 s6 wr => ∃ (i : Nat) (Ar : Option Addr) (cr : Nat), i ≤ L ∧ s7 = .int .i64 i ∧ s6 = .slice Ar (n + i) cr ∧ Hid (wr.ownsRow w2.heap.size 33 4 (.slice Ar (n + i) cr) (n + i) (opc (calls f n) (n + i))) ∧ Hid (Mod (fun _ => False) w2 wr))
          (fun s7 _ _ => L - (intOf s7).toNat)
        case atStart =>
          refine ⟨0, Ar, cr, by omega, rfl, rfl, ?_, mw⟩
          have e : opc f n = opc (calls f n) (n + 0) := opc_congr (fun j hj => by rw [calls, if_pos hj])
          show World.ownsRow _ _ _ _ _ _ _
          rw [← e]
          exact hown.out
        case round =>
          obtain ⟨i, Ai0, ci0, hi, rfl, rfl, hrow, hmw⟩ := hrel
          have hbx := (Hb1.out.mod (R2.out.m.trans hmw.out) id)
          obtain ⟨b0, b1, b2⟩ := At.three hbx
          have hbl := hbx.lt
          by_cases hlt : i < L
          · have hrow' := hrow.out.alloc (.cells #[.int .u8 1, .string { data := #[] }, .string { data := #[] }, .int .i64 i] 33)
            have hsz := hmw.out.size
            have hnl : n + i ≤ 400 := by omega
            go_wp2_with (first
              | (at_builtin; refine wpList_append_own _ rfl (.tmp 51) (.tmp 54) 22 rfl w2.heap.size 33 i33 (.agg #[.int .u8 0, .string ByteArray.empty, .string ByteArray.empty, .int .i64 0]) 4 48 Try.underlying22 hi33 hz33 hs33 hb33 rfl (by decide) (.slice Ai0 (n + i) ci0) (n + i) (opc (calls f n) (n + i)) rfl hrow' ⟨wr.heap.size, 0, none⟩ 1 1 [.int .u8 1, .string { data := #[] }, .string { data := #[] }, .int .i64 i] rfl rfl ?c1 ?c2 ?c3 ?c4 ?c5 ?_))
            case c1 =>
              intro j u hj
              have hat := (At.new wr (.cells #[.int .u8 1, .string { data := #[] }, .string { data := #[] }, .int .i64 i] 33)).cell j
              rw [add_plain, hat]
              simpa using hj
            case c2 =>
              intro u hu
              simp at hu
              rcases hu with rfl | rfl | rfl | rfl <;> rfl
            case c3 => unfold maxLen; omega
            case c4 => omega
            case c5 => simp; omega
            · intro v' w3 hown3 hgr _
              have e := opc_succ (g := calls f n) (N := n + i) (x := ⟨1, { data := #[] }, { data := #[] }, (i : Int)⟩) (by
                rw [calls, if_neg (by omega), Nat.add_sub_cancel_left]; rfl)
              simp only at e
              rw [e] at hown3
              have mw3 := grown_fresh (hmw.out.alloc _) hrow' hgr
              obtain ⟨A3, c3, rfl⟩ := own_val hown3
              have Hown3 := hid hown3
              have Mw3 := hid mw3
              clear hown3 mw3 hgr e hrow' b0 b1 b2
              go_wp2_with fail
              go_roundw
              case rel => exact ⟨i + 1, A3, c3, by omega, by go_num, by first | rfl | trivial, Hown3, Mw3⟩
              case measure => simp [intOf]; omega
          · obtain rfl : i = L := by omega
            have R3 := hid (R2.out.mod0 hmw.out)
            have hsz2 := R2.out.m.size
            have hsz3 := hmw.out.size
            have hrowB := hid (own_weaken hrow.out hsz2)
            have hni : n + i ≤ 400 := by omega
            have hiB : Hid (1 ≤ i ∧ i ≤ 16) := by show _ ∧ _; omega
            clear hrow hmw hown mw hbl hbx
            generalize hN : n + i = N at hrowB hni
            have HN := hid hN
            clear hN
            go_wp2_with fail
            go_loopw [8, 5] (fun s8 s5 wr => ∃ (j : Nat) (bins : List Bin) (ins : List Pt) (Ai : Option Addr) (ci : Nat), j ≤ N ∧ s8 = .int .i64 j ∧ s5 = .slice Ai ins.length ci ∧ Hid (Run w1.heap.size s cap i w1 wr bins) ∧ Hid (wr.ownsRow w1.heap.size 37 3 (.slice Ai ins.length ci) ins.length (ptc ins)) ∧ Hid (Inv bins ins) ∧ Hid (wr.ownsRow w1.heap.size 33 4 (.slice Ai0 N ci0) N (opc (calls f n) N)) ∧ Hid (∀ b : Nat, b < j - n → bi bins b = []))
              (fun s8 _ _ => N - (intOf s8).toNat)
            case atStart => exact ⟨0, _, [], none, 0, by omega, rfl, rfl, R3, World.ownsRow_nil _ _ _ _, Inv.empties _, hrowB, fun b hb => by omega⟩
            case round =>
              obtain ⟨j, bins, ins, Ai, ci, hj, rfl, rfl, hR, hIn, hI, hOp, hE⟩ := hrel
              have hl512 : ins.length ≤ 512 := by
                have a := hI.out.tot
                have b := hR.out.fits.tot bins.length (Nat.le_refl _)
                have c := hR.out.fits.n2
                omega
              have hN' := HN.out
              by_cases hlt : j < N
              · obtain ⟨gb, rfl, hgb, o0, o1, o2, o3⟩ := row4_get hOp.out hlt
                have hone : Hid ((calls f n j).kd = 0 → j < n) := fun h => by
                  by_cases q : j < n
                  · exact q
                  · rw [calls, if_neg q] at h
                    simp at h
                have hbin : Hid (¬ j < n → (calls f n j).bin = ((j - n : Nat) : Int)) := fun q => by rw [calls, if_neg q]
                have hszs : Hid (j < n → (calls f n j).key.size ≤ maxLen ∧ (calls f n j).item.size ≤ maxLen) := fun q => by
                  rw [calls, if_pos q]
                  have := Hsm.out j q
                  unfold maxLen
                  omega
                generalize calls f n j = o at o0 o1 o2 o3 hone hbin hszs
                have hbo := At.new wr (.cells #[.int .u8 o.kd, .string o.key, .string o.item, .int .i64 o.bin] 33)
                have hm0 : Mod (fun _ => False) wr (wr.alloc (.cells #[.int .u8 o.kd, .string o.key, .string o.item, .int .i64 o.bin] 33)) := (Mod.refl _ _).alloc _
                have R3 := hid (hR.out.mod0 hm0)
                have In3 := hid (hIn.out.alloc (.cells #[.int .u8 o.kd, .string o.key, .string o.item, .int .i64 o.bin] 33))
                have Op3 := hid (hOp.out.alloc (.cells #[.int .u8 o.kd, .string o.key, .string o.item, .int .i64 o.bin] 33))
                have Hbo := hid hbo
                clear hbo hm0 hN'
                by_cases hkd : o.kd = 0
                · have hjn := hone.out hkd
                  have Hjn := hid hjn
                  obtain ⟨hz1, hz2⟩ := hszs.out hjn
                  have Hz2 := hid hz2
                  have hput := hI.out.put hR.out.fits o.key o.item
                  generalize hKd : o.kd = Kd at hkd o0 R3 In3 Op3 Hbo
                  subst hkd
                  clear hKd hjn hz1 hz2
                  rcases hput with ⟨e0, hI4⟩ | ⟨e0, eb⟩
                  · have E0 := hid e0
                    have I4 := hid hI4
                    clear e0 hI4
                    go_wp2_with fail
                    refine (put_any o.key o.item _ R3.out.at_ R3.out.fits R3.out.le Hz2.out).mono ?_
                    rw [E0.out]
                    rintro e w4 ⟨rfl, h4, mt4⟩
                    have R4 := hid (R3.out.put _ _ h4 mt4)
                    have hbo4 := MT.at_ Hbo.out mt4 (by decide)
                    have In4 := hid (own_MT In3.out mt4 (by decide))
                    have Op4 := hid (own_MT Op3.out mt4 (by decide))
                    generalize (putR cap bins o.key o.item).2.1 = pp at I4
                    generalize (putR cap bins o.key o.item).1 = bins4 at R4 I4
                    have q0 := hbo4.cell 0
                    have q1 : w4.cell? ⟨wr.heap.size, 1, none⟩ = some (.string o.key) := hbo4.cell 1
                    have q2 : w4.cell? ⟨wr.heap.size, 2, none⟩ = some (.string o.item) := hbo4.cell 2
                    have hin4 := In4.out.alloc (.cells #[.string o.key, .string o.item, .int .i64 pp] 37)
                    have hBle := R4.out.le
                    have hbl4 := hbo4.lt
                    have hbl5 : wr.heap.size < w4.heap.size + 1 := by omega
                    clear h4 mt4 hbo4 q0
                    go_wp2_with (first
                      | (at_builtin; refine wpList_append_own _ rfl (.tmp 80) (.tmp 87) 31 rfl w1.heap.size 37 i37 (.agg #[.string ByteArray.empty, .string ByteArray.empty, .int .i64 0]) 3 40 Try.underlying31 hi37 hz37 hs37 hb37 rfl (by decide) (.slice Ai ins.length ci) ins.length (ptc ins) rfl hin4 ⟨w4.heap.size, 0, none⟩ 1 1 [.string o.key, .string o.item, .int .i64 pp] rfl rfl ?c1 ?c2 ?c3 ?c4 ?c5 ?_))
                    case c1 =>
                      intro x u hx
                      have hat := (At.new w4 (.cells #[.string o.key, .string o.item, .int .i64 pp] 37)).cell x
                      rw [add_plain, hat]
                      simpa using hx
                    case c2 =>
                      intro u hu
                      simp at hu
                      rcases hu with rfl | rfl | rfl <;> rfl
                    case c3 => unfold maxLen; omega
                    case c4 => omega
                    case c5 => simp; omega
                    · intro v' w5 hown5 hgr _
                      have R5 := hid ((R4.out.mod0 ((Mod.refl _ _).alloc _)).grow hin4 hgr)
                      have Op5 := hid (own_mod (Op4.out.alloc (.cells #[.string o.key, .string o.item, .int .i64 pp] 37)) (grown_mod hgr) (fun g hg hg' => own_apart (Op4.out.alloc (.cells #[.string o.key, .string o.item, .int .i64 pp] 37)) hin4 (by decide) g hg hg'))
                      have e : ptc ins ++ [.string o.key, .string o.item, .int .i64 pp] = ptc (ins ++ [⟨o.key, o.item, pp⟩]) := by rw [ptc_append]; rfl
                      rw [e] at hown5
                      obtain ⟨A5, c5, rfl⟩ := own_val hown5
                      have In5 : Hid (w5.ownsRow w1.heap.size 37 3 (.slice A5 (ins ++ [(⟨o.key, o.item, pp⟩ : Pt)]).length c5) (ins ++ [(⟨o.key, o.item, pp⟩ : Pt)]).length (ptc (ins ++ [⟨o.key, o.item, pp⟩]))) := by
                        show World.ownsRow _ _ _ _ _ _ _
                        rw [List.length_append]
                        exact hown5
                      clear hown5 hgr e hin4 q1 q2
                      go_wp2_with fail
                      go_roundw
                      case rel => exact ⟨j + 1, bins4, ins ++ [⟨o.key, o.item, pp⟩], A5, c5, by omega, by go_num, by simp, R5, In5, I4, Op5, fun b hb => by have := Hjn.out; omega⟩
                      case measure => simp [intOf]; omega
                  · have E0 := hid e0
                    have Eb := hid eb
                    clear e0 eb
                    go_wp2_with fail
                    refine (put_any o.key o.item _ R3.out.at_ R3.out.fits R3.out.le Hz2.out).mono ?_
                    rintro e w4 ⟨rfl, h4, mt4⟩
                    have R4 := R3.out.put _ _ h4 mt4
                    rw [Eb.out] at R4
                    replace R4 := hid R4
                    have In4 := hid (own_MT In3.out mt4 (by decide))
                    have Op4 := hid (own_MT Op3.out mt4 (by decide))
                    generalize (putR cap bins o.key o.item).2.1 = pp
                    have hne := E0.out
                    generalize (putR cap bins o.key o.item).2.2 = er at hne
                    clear h4 mt4
                    go_wp2_with fail
                    go_roundw
                    case rel => exact ⟨j + 1, bins, ins, Ai, ci, by omega, by go_num, rfl, R4, In4, hI, Op4, fun b hb => by have := Hjn.out; omega⟩
                    case measure => simp [intOf]; omega
                · have htk := hI.out.take o.bin
                  go_wp2_with fail
                  refine (take_any o.bin _ R3.out.at_ R3.out.fits).mono ?_
                  rintro e w4 ⟨A4, c4, rfl, hrow4, h4, mt4⟩
                  have R4 := hid (R3.out.take _ h4 mt4)
                  have hbo4 := MT.at_ Hbo.out mt4 (by decide)
                  have In4 := hid (own_MT In3.out mt4 (by decide))
                  have Op4 := hid (own_MT Op3.out mt4 (by decide))
                  generalize (takeR bins o.bin).2.2.2 = er at htk
                  generalize (takeR bins o.bin).2.2.1 = l at htk hrow4
                  generalize (takeR bins o.bin).2.1 = kk at htk
                  generalize (takeR bins o.bin).1 = bins4 at R4 htk
                  have Htk := hid htk
                  have Hrow4 := hid hrow4
                  have Hbo4 := hid hbo4
                  have hBle := R4.out.le
                  have hll : Hid (l.length = (ins.filter (isIn o.bin)).length) := by show _ = _; rw [Htk.out.items, List.length_map]
                  have hlb := filter_both ins o.bin
                  have hl' := hll.out
                  have hl5 : l.length ≤ 512 := by omega
                  clear h4 mt4 hbo4 hrow4 htk hlb hl' o0 o1 o2 o3
                  go_wp2_with fail
                  go_loopw [17, 15, 16] (fun s17 s15 s16 wx => ∃ (k : Nat) (Ax : Option Addr) (cx : Nat), k ≤ ins.length ∧ s17 = .int .i64 k ∧ s15 = .slice Ax ((ins.take k).filter (notIn o.bin)).length cx ∧ s16 = .int .i64 ((((ins.take k).filter (isIn o.bin)).length : Nat) : Int) ∧ Hid (wx.ownsRow w4.heap.size 37 3 (.slice Ax ((ins.take k).filter (notIn o.bin)).length cx) ((ins.take k).filter (notIn o.bin)).length (ptc ((ins.take k).filter (notIn o.bin)))) ∧ Hid (Mod (fun _ => False) w4 wx))
                    (fun s17 _ _ _ => ins.length - (intOf s17).toNat)
                  case atStart => exact ⟨0, none, 0, by omega, rfl, rfl, rfl, World.ownsRow_nil _ _ _ _, Mod.refl _ _⟩
                  case round =>
                    obtain ⟨k, Ax, cx, hk, rfl, rfl, rfl, hrx, hmx⟩ := hrel
                    have hrl : ((ins.take k).filter (notIn o.bin)).length ≤ 512 := by
                      have := List.length_filter_le (notIn o.bin) (ins.take k)
                      have := List.length_take_le k ins
                      omega
                    have hcl : ((ins.take k).filter (isIn o.bin)).length ≤ 512 := by
                      have := List.length_filter_le (isIn o.bin) (ins.take k)
                      have := List.length_take_le k ins
                      omega
                    by_cases hki : k < ins.length
                    · obtain ⟨gi, hAi, hgi, p0, p1, p2⟩ := row3_get In4.out hki
                      have p0 := hmx.out.keep0 p0
                      have p1 := hmx.out.keep0 p1
                      have p2 := hmx.out.keep0 p2
                      have hbx := Hbo4.out.mod hmx.out id
                      have q3 : _ = some (Value.int .i64 o.bin) := hbx.cell 3
                      have hsx := hmx.out.size
                      have hgx : gi < wr.heap.size := by omega
                      have hbxl := hbx.lt
                      have Hnth := hid (nth_in ins o.bin k hki)
                      have Hkeys := hid (Htk.out.keys (ins[k]'hki) (List.getElem_mem hki))
                      have Hs1 := hid (take_snoc_filter ins (notIn o.bin) k hki)
                      have Hs2 := hid (take_snoc_filter ins (isIn o.bin) k hki)
                      rw [← Htk.out.items] at Hnth
                      generalize ins[k]'hki = x at p0 p1 p2 Hnth Hkeys Hs1 Hs2
                      generalize hrest : (ins.take k).filter (notIn o.bin) = rest at hrx hrl Hs1
                      generalize hcnt : (ins.take k).filter (isIn o.bin) = cnt at hcl Hnth Hs2
                      have HAi := hid hAi
                      subst hAi
                      clear hrest hcnt hbx
                      by_cases hb : x.bin = o.bin
                      · have hit := Hnth.out hb
                        obtain ⟨hk1, hk2⟩ := Hkeys.out hb
                        have hml : cnt.length < l.length := (List.getElem?_eq_some_iff.1 hit).1
                        obtain ⟨gl, hA4, hgl, hcell⟩ := row_get Hrow4.out hml
                        have hxi : l.getD cnt.length ByteArray.empty = x.item := by rw [List.getD_eq_getElem?_getD, hit]; rfl
                        rw [hxi] at hcell
                        have hcell := hmx.out.keep0 hcell
                        have hn1 : Hid ((ins.take (k + 1)).filter (notIn o.bin) = rest) := by show _ = _; rw [Hs1.out]; simp [notIn, isIn, hb]
                        have hn2 : Hid ((ins.take (k + 1)).filter (isIn o.bin) = cnt ++ [x]) := by show _ = _; rw [Hs2.out]; simp [isIn, hb]
                        generalize hcn : cnt.length = m at hml hcell hcl
                        have Hcn := hid hcn
                        have hml' : (m : Int) < l.length := by omega
                        have hb1 : (x.bin == o.bin) = true := by simp [hb]
                        have hs1 : (x.item.toList == x.item.toList) = true := seq_true rfl
                        have hs2 : (kk.toList == x.key.toList) = true := seq_true hk1.symm
                        have Hb := hid hb
                        subst hA4
                        subst hk2
                        clear hcn hit hxi hk1 hb
                        go_wp2_with fail
                        go_quiet (fail)
                        go_wp2_with fail
                        have hd : decide ((l.length : Int) ≤ m) = false := by simp; omega
                        go_quiet (fail)
                        go_wp2_with fail
                        go_roundw
                        case rel =>
                          refine ⟨k + 1, Ax, cx, by omega, by go_num, by rw [hn1.out], ?_, ?_, ?_⟩
                          · rw [hn2.out, List.length_append, Hcn.out]
                            simp only [List.length_singleton]
                            go_num
                          · rw [hn1.out]
                            exact own_mod0 hrx.out (by first | exact ((Mod.refl _ _).drewN _).drewN _ | exact (Mod.refl _ _).drewN _)
                          · exact hmx.out.trans (by first | exact ((Mod.refl _ _).drewN _).drewN _ | exact (Mod.refl _ _).drewN _)
                        case measure => simp [intOf]; omega
                      · have hn1 : Hid ((ins.take (k + 1)).filter (notIn o.bin) = rest ++ [x]) := by show _ = _; rw [Hs1.out]; simp [notIn, isIn, hb]
                        have hn2 : Hid ((ins.take (k + 1)).filter (isIn o.bin) = cnt) := by show _ = _; rw [Hs2.out]; simp [isIn, hb]
                        have hb1 : (x.bin == o.bin) = false := by simp [hb]
                        have Hb := hid hb
                        clear hb
                        go_wp2_with fail
                        go_quiet (fail)
                        obtain ⟨w6, hw6⟩ : ∃ w6 : World, w6 = wr.drewN nq := ⟨_, rfl⟩
                        rw [← hw6]
                        have m6 : Mod (fun _ => False) wr w6 := by rw [hw6]; exact (Mod.refl _ _).drewN _
                        have p0' := m6.keep0 p0
                        have p1' := m6.keep0 p1
                        have p2' := m6.keep0 p2
                        have hr6 := own_mod0 hrx.out m6
                        have M6 := hid m6
                        have hs6 := m6.size
                        have hrow6 := hr6.alloc (.cells #[.string x.key, .string x.item, .int .i64 x.bin] 37)
                        clear hw6 p0 p1 p2 m6 q3
                        go_wp2_with (first
                          | (at_builtin; refine wpList_append_own _ rfl (.tmp 111) (.tmp 116) 31 rfl w4.heap.size 37 i37 (.agg #[.string ByteArray.empty, .string ByteArray.empty, .int .i64 0]) 3 40 Try.underlying31 hi37 hz37 hs37 hb37 rfl (by decide) (.slice Ax rest.length cx) rest.length (ptc rest) rfl hrow6 ⟨w6.heap.size, 0, none⟩ 1 1 [.string x.key, .string x.item, .int .i64 x.bin] rfl rfl ?c1 ?c2 ?c3 ?c4 ?c5 ?_))
                        case c1 =>
                          intro y u hy
                          have hat := (At.new w6 (.cells #[.string x.key, .string x.item, .int .i64 x.bin] 37)).cell y
                          rw [add_plain, hat]
                          simpa using hy
                        case c2 =>
                          intro u hu
                          simp at hu
                          rcases hu with rfl | rfl | rfl <;> rfl
                        case c3 => unfold maxLen; omega
                        case c4 => omega
                        case c5 => simp; omega
                        · intro v' w7 hown7 hgr _
                          have e : ptc rest ++ [.string x.key, .string x.item, .int .i64 x.bin] = ptc (rest ++ [x]) := by rw [ptc_append]; rfl
                          rw [e] at hown7
                          have mw7 := hid (grown_fresh ((hmx.out.trans M6.out).alloc _) hrow6 hgr)
                          obtain ⟨A7, c7, rfl⟩ := own_val hown7
                          have In7 := hid hown7
                          clear hown7 hgr e hrow6 hr6
                          go_wp2_with fail
                          go_roundw
                          case rel =>
                            refine ⟨k + 1, A7, c7, by omega, by go_num, ?_, by rw [hn2.out], ?_, mw7⟩
                            · rw [hn1.out, List.length_append]; rfl
                            · rw [hn1.out, List.length_append]
                              exact In7
                          case measure => simp [intOf]; omega
                    · obtain rfl : k = ins.length := by omega
                      rw [List.take_length] at hrx hrl hcl ⊢
                      rw [← hll.out]
                      have R5 := hid (R4.out.mod0 hmx.out)
                      have In5 := hid (own_weaken hrx.out hBle)
                      have Op5 := hid (own_mod0 Op4.out hmx.out)
                      have hE5 : Hid (∀ b : Nat, b < j + 1 - n → bi bins4 b = []) := fun b hb => by
                        by_cases q : b < j - n
                        · exact Htk.out.clear b (hE.out b q)
                        · have hbj : b = j - n := by omega
                          have hnj : ¬ j < n := by omega
                          refine Htk.out.done b (by rw [hbin.out hnj, hbj]) ?_
                          rw [hR.out.len]
                          have := HN.out
                          omega
                      have hIt := hid Htk.out.inv.tot
                      generalize hrest : ins.filter (notIn o.bin) = rest at hrx hrl In5 hIt
                      have Hinv : Hid (Inv bins4 rest) := by show Inv _ _; rw [← hrest]; exact Htk.out.inv
                      clear hrest hrx
                      go_wp2_with fail
                      refine (len_c wr R5.out.at_ R5.out.fits).mono ?_
                      rw [hIt.out]
                      rintro e w8 ⟨rfl, m8⟩
                      have R8 := hid (R5.out.mod0 m8)
                      have In8 := hid (own_mod0 In5.out m8)
                      have Op8 := hid (own_mod0 Op5.out m8)
                      go_wp2_with fail
                      go_roundw
                      case rel => exact ⟨j + 1, bins4, rest, Ax, cx, by omega, by go_num, rfl, R8, In8, Hinv, Op8, hE5⟩
                      case measure => simp [intOf]; omega
              · obtain rfl : j = N := by omega
                have ht0 : tot bins bins.length = 0 := tot_zero bins bins.length (fun b hb => by
                  rw [hE.out b (by rw [hR.out.len] at hb; omega)]
                  rfl)
                obtain rfl : ins = [] := by
                  have := hI.out.tot
                  rw [ht0] at this
                  exact List.length_eq_zero_iff.1 this.symm
                have Ht0 := hid ht0
                clear ht0 hN'
                go_wp2_with fail
                refine (len_c wr hR.out.at_ hR.out.fits).mono ?_
                rw [Ht0.out]
                rintro e w8 ⟨rfl, m8⟩
                go_wp2_with fail
                refine (awake_c _).mono ?_
                rintro e w9 ⟨rfl, m9⟩
                go_wp2_with fail
                go_ret
                have mm := (M1.out.trans hR.out.m).trans m8
                exact ⟨rfl, (mm.toBelow _ (Nat.le_refl _) (fun _ _ h => h)).trans (m9.mono mm.size)⟩
    · have hb : nb < 1 ∨ (1 ≤ nb ∧ 16 < nb) ∨ (1 ≤ nb ∧ nb ≤ 16 ∧ cap < 1) ∨ (1 ≤ nb ∧ nb ≤ 16 ∧ 1 ≤ cap ∧ 32 < cap) := by omega
      have Hb := hid hb
      clear hg hb
      go_wp2_with fail
      refine (new_bad nb cap w1 Hb.out).mono ?_
      rintro e w2 ⟨rfl, rfl⟩
      go_wp2_with fail
      refine (awake_c _).mono ?_
      rintro e w8 ⟨rfl, m8⟩
      go_wp2_with fail
      go_ret
      exact ⟨rfl, (M1.out.toBelow _ (Nat.le_refl _) (fun _ _ h => h)).trans (m8.mono M1.out.size)⟩
end Go.Proofs.Ytdipncjbobhbjaa
