import Derived.Test.YtfhgnnlhacjnkaaDoorPart8
import Derived.Test.YtfhgnnlhacjnkaaDoorPart5
import Derived.Test.YtfhgnnlhacjnkaaDoorPart7
/-
  pattern.read, pattern.Right: the walks.
-/
namespace Go.Proofs.YtfhgnnlhacjnkaaDoor
set_option linter.unusedVariables false
set_option linter.unusedSimpArgs false
open Go.RowKit PT
open Go.Lib (validD)

/-- what pattern.read gives -/
def ReadRes (p : ByteArray) (w : World) (e : Ending) (w' : World) : Prop := ∃ (a : Option Addr) (n c : Nat) (ok : Bool), e = .returned (.tuple #[.slice a n c, .bool ok]) ∧ Below w.heap.size w w' ∧ ok = rightF p.data.toList ∧ (ok = true → ∃ rs, patP (sigs p.data.toList) = some rs ∧ RowsV (Ge w.heap.size) (AtomV (Ge w.heap.size) tcls tgrp 8) rs (.slice a n c) w')
theorem u8_two {w : World} (h : U8 w) : 2 ≤ w.heap.size := by
  have h1 := (h.2 0 (by omega)).1
  simp only [World.cell?] at h1
  rcases Nat.lt_or_ge 1 w.heap.size with h' | h'
  · exact h'
  · rw [Array.getElem?_eq_none (show w.heap.size ≤ 1 from h')] at h1
    cases h1
theorem alloc_size (w : World) (o : Obj) : (w.alloc o).heap.size = w.heap.size + 1 := Array.size_push _
theorem kq {P : Prop} {l : List Nat} {B : Nat} {v : Value} {w w' : World} (h : P → ∃ rs, patP l = some rs ∧ RowsV (Ge B) (AtomV (Ge B) tcls tgrp 8) rs v w) (hb : Below w.heap.size w w') : P → ∃ rs, patP l = some rs ∧ RowsV (Ge B) (AtomV (Ge B) tcls tgrp 8) rs v w' := fun hp => by
  obtain ⟨rs, h1, h2⟩ := h hp
  exact ⟨rs, h1, rowsv_kept h2 (Hi.of_below hb)⟩
theorem patP_some {l : List Nat} {rs : List (List Pce)} (h : rowsF (atomK 8) l = some (rs, [])) : patP l = some rs := by
  unfold patP
  rw [show rowsG (atomK 8) (l.length + 1) l = some (rs, []) from h]
  rfl
theorem rightF_of {p : ByteArray} (h1 : p.size ≤ 200) (h2 : validD p.data.toList = true) : rightF p.data.toList = (patP (sigs p.data.toList)).isSome := by
  unfold rightF
  rw [decide_eq_true (show p.data.toList.length ≤ 200 by rw [size_list]; exact h1), h2, Bool.true_and, Bool.true_and]
set_option maxHeartbeats 4000000 in
set_option maxRecDepth 100000 in
theorem read_any (p : ByteArray) (w : World) (hp : p.size ≤ maxLen) (hU : U8 w) :
    Calls Tryd.prog 14 #[.string p] w fun e w' => ReadRes p w e w' := by
  have hU := Lib.hid hU
  try unfold maxLen at hp
  by_cases h2 : p.size ≤ 200
  · have a1 : decide ((200 : Int) < (p.size : Nat)) = false := decide_eq_false (by omega)
    have a2 : decide ((p.size : Int) > 200) = false := decide_eq_false (by omega)
    go_enter Tryd.func14, Tryd.ntmps14
    go_wp2_with fail
    refine (Tryd.utf8_ValidString p _ (by omega) hU.out).mono ?_
    rintro e w1 ⟨rfl, hb1⟩
    cases hv : validD p.data.toList with
    | false =>
      go_wp2_with fail
      go_ret2
      exact ⟨none, 0, 0, false, rfl, hb1, by unfold rightF; rw [hv, Bool.false_and, Bool.and_false], fun h => by cases h⟩
    | true =>
      have hvh := Lib.hid hv
      have hU1 := Lib.hid (Utf8Tabs_below hU.out hb1)
      have hsz := hb1.size
      have h2s := u8_two hU.out
      have hRD : RD w1.heap.size (sigs p.data.toList) 0 false (w1.alloc (.cells #[.string p, .int .i64 0, .bool false] 47)) := by
        have hba := (Below.refl _ w1).alloc (Nat.le_refl _) (.cells #[.string p, .int .i64 0, .bool false] 47)
        exact ⟨by omega, by rw [alloc_size]; omega, Utf8Tabs_below hU1.out hba, p, h2, hv, rfl, Go.heap_alloc_new w1 _⟩
      have hR := Lib.hid hRD
      have hba := Lib.hid (hb1.alloc hsz (.cells #[.string p, .int .i64 0, .bool false] 47))
      have hsz2 : (w1.alloc (.cells #[.string p, .int .i64 0, .bool false] 47)).heap.size = w1.heap.size + 1 := alloc_size _ _
      clear hRD hb1 hv
      go_upto_region 4 with fail
      generalize World.alloc _ _ = W2 at hR hba hsz2 ⊢
      generalize w1.heap.size = r at *
      go_wp2_with fail
      refine (rows_top r _ false _ trivial hR.out).mono ?_
      rintro e w3 ⟨va, vn, vc, X1, b1, rfl, hR3, hd3, hl3, hm3, hs3⟩
      replace hs3 := Lib.hid (hs3 rfl)
      clear hm3
      have hB := Lib.hid (hba.out.trans (hd3.below hsz (by omega)))
      have hsz3 : w.heap.size ≤ w3.heap.size := hB.out.size
      obtain ⟨s, c0, c1, c2, f0, f1, f2, hs, hvs, hX⟩ := hR3.at
      have hok : Hid ((!b1 && decide (X1 = [])) = rightF p.data.toList ∧ ((!b1 && decide (X1 = [])) = true → ∃ rs, patP (sigs p.data.toList) = some rs ∧ RowsV (Ge w.heap.size) (AtomV (Ge w.heap.size) tcls tgrp 8) rs (.slice va vn vc) w3)) := Lib.hid (by
        have h3 := hs3.out
        rw [rightF_of h2 hvh.out, patP_iff]
        unfold OkRows at h3
        cases hr : rowsF (atomK 8) (sigs p.data.toList) with
        | none =>
          rw [hr] at h3
          simp only at h3
          subst h3
          exact ⟨rfl, fun h => by cases h⟩
        | some q =>
          obtain ⟨rs, r2⟩ := q
          rw [hr] at h3
          obtain ⟨rfl, rfl, h6⟩ := h3
          refine ⟨by cases X1 <;> rfl, fun h => ?_⟩
          have he : X1 = [] := by simpa using h
          subst he
          exact ⟨rs, patP_some hr, rowsv_mono h6 (fun j hj _ => by show w.heap.size ≤ j; have : W2.heap.size ≤ j := hj; omega)⟩)
      have hse : Hid (decide (X1 = []) = decide (s.size = 0)) := Lib.hid (by
        rw [decide_eq_decide, ← hX.out, sigs_eq_nil, ← size_list, List.length_eq_zero_iff])
      clear hs3 hR3 hd3 c1 f0 f1 f2 hX
      rw [hse.out] at hok
      clear hse
      cases b1 with
      | true =>
        go_wp2_with fail
        go_quiet (fail)
        generalize hq9 : w3.drewN _ = wq
        have hbq : Below w3.heap.size w3 wq := by rw [← hq9]; exact below_draws _ _
        clear hq9
        go_wp2_with fail
        go_ret2
        exact ⟨va, vn, vc, false, rfl, hB.out.trans (hbq.mono hsz3), hok.out.1, kq hok.out.2 hbq⟩
      | false =>
        by_cases hs0 : s.size = 0
        · have hse := empS_yes hs0
          subst hse
          clear hs0
          go_wp2_with fail
          go_quiet (fail)
          generalize hq9 : w3.drewN _ = wq
          have hbq : Below w3.heap.size w3 wq := by rw [← hq9]; exact below_draws _ _
          clear hq9
          go_wp2_with fail
          go_ret2
          exact ⟨va, vn, vc, true, rfl, hB.out.trans (hbq.mono hsz3), hok.out.1, kq hok.out.2 hbq⟩
        · rw [decide_eq_false hs0] at hok
          obtain ⟨e1, e2, e3, _⟩ := empS_no hs0
          clear hs0
          go_wp2_with fail
          go_quiet (fail)
          generalize hq9 : w3.drewN _ = wq
          have hbq : Below w3.heap.size w3 wq := by rw [← hq9]; exact below_draws _ _
          clear hq9
          go_wp2_with fail
          go_ret2
          exact ⟨va, vn, vc, false, rfl, hB.out.trans (hbq.mono hsz3), hok.out.1, kq hok.out.2 hbq⟩
  · have a1 : decide ((200 : Int) < (p.size : Nat)) = true := decide_eq_true (by omega)
    have a2 : decide ((p.size : Int) > 200) = true := decide_eq_true (by omega)
    go_enter Tryd.func14, Tryd.ntmps14
    go_wp2_with fail
    go_ret2
    exact ⟨none, 0, 0, false, rfl, Below.refl _ _, by unfold rightF; rw [decide_eq_false (show ¬ p.data.toList.length ≤ 200 by rw [size_list]; exact h2), Bool.false_and], fun h => by cases h⟩
set_option maxHeartbeats 1000000 in
set_option maxRecDepth 100000 in
theorem right_any (p : ByteArray) (w : World) (hp : p.size ≤ maxLen) (hU : U8 w) :
    Calls Tryd.prog 9 #[.string p] w fun e w' => e = .returned (.bool (rightF p.data.toList)) ∧ Below w.heap.size w w' := by
  have hU := Lib.hid hU
  try unfold maxLen at hp
  go_enter Tryd.func9, Tryd.ntmps9
  go_wp2_with fail
  refine (read_any p _ hp hU.out).mono ?_
  rintro e w1 ⟨a, n, c, ok, rfl, hb, hok, _⟩
  subst hok
  go_wp2_with fail
  go_ret
  exact ⟨rfl, hb⟩
end Go.Proofs.YtfhgnnlhacjnkaaDoor

/-
  pattern.class.in: the walk.
-/
namespace Go.Proofs.YtfhgnnlhacjnkaaDoor
set_option linter.unusedVariables false
set_option linter.unusedSimpArgs false
open Go.RowKit PT

theorem inSp_hit {sp : List (Nat × Nat)} {x k : Nat} (hk : k < sp.length) (h : sp[k].1 ≤ x ∧ x ≤ sp[k].2) : inSp sp x = true := by
  unfold inSp
  rw [List.any_eq_true]
  exact ⟨sp[k], List.getElem_mem hk, by rw [decide_eq_true h.1, decide_eq_true h.2]; rfl⟩
theorem inSp_next {sp : List (Nat × Nat)} {x k : Nat} (hk : k < sp.length) (h : ¬ (sp[k].1 ≤ x ∧ x ≤ sp[k].2)) (hA : inSp (sp.take k) x = false) : inSp (sp.take (k + 1)) x = false := by
  unfold inSp at *
  rw [List.take_succ_eq_append_getElem hk, List.any_append, hA, Bool.false_or]
  simp only [List.any_cons, List.any_nil, Bool.or_false, Bool.and_eq_false_iff, decide_eq_false_iff_not]
  omega
/-- a class as it lies -/
theorem spans_at {S : Nat → Prop} {sp : List (Nat × Nat)} {v : Value} {w : World} (h : RowAt S sp.length (sp.flatMap spanCells) v w) {k : Nat} (hk : k < sp.length) : ∃ b o cap, v = .slice (some ⟨b, o, none⟩) sp.length cap ∧ b < w.heap.size ∧ w.cell? ⟨b, o + k * 2, none⟩ = some (.int .i32 sp[k].1) ∧ w.cell? ⟨b, o + k * 2 + 1, none⟩ = some (.int .i32 sp[k].2) := by
  obtain ⟨b, o, cap, rfl, hb, hc⟩ := h.at (by omega)
  have hg := flat_get (f := spanCells) (m := 2) (fun x => rfl) sp k sp[k] (List.getElem?_eq_getElem hk)
  exact ⟨b, o, cap, rfl, hb, hc _ _ (hg 0 _ rfl), by have := hc _ _ (hg 1 _ rfl); rwa [← Nat.add_assoc] at this⟩
set_option maxHeartbeats 4000000 in
set_option maxRecDepth 100000 in
theorem clsIn_any (S : Nat → Prop) (sp : List (Nat × Nat)) (neg : Bool) (g x : Nat) (sv : Value) (w : World) (hx : x ≤ 1114111) (hg : g < w.heap.size) (c0 : w.cell? ⟨g, 0, none⟩ = some sv) (c1 : w.cell? ⟨g, 1, none⟩ = some (.bool neg)) (hrow : RowAt S sp.length (sp.flatMap spanCells) sv w) (hS : ∀ k, k < w.heap.size → S k) :
    Calls Tryd.prog 25 #[.pointer (some ⟨g, 0, none⟩), .int .i32 x] w fun e w' => e = .returned (.bool (Klass.fits ⟨sp, neg⟩ x)) ∧ Below w.heap.size w w' := by
  have hmx := hrow.max
  obtain ⟨a, cap, rfl⟩ := hrow.form
  have hrow := Lib.hid hrow
  have hF := Lib.hid (show Klass.fits ⟨sp, neg⟩ x = if inSp sp x then !neg else neg from rfl)
  go_enter Tryd.func25, Tryd.ntmps25
  go_wp2_with fail
  go_loopw [12] (fun i wr => ∃ k : Nat, k ≤ sp.length ∧ i = .int .i64 k ∧ Hid (inSp (sp.take k) x = false) ∧ Below w.heap.size w wr) (fun i _ => sp.length - (intOf i).toNat)
  case atStart => exact ⟨0, Nat.zero_le _, rfl, Lib.hid rfl, Below.refl _ _⟩
  case round =>
    obtain ⟨k, hk, rfl, hA, hbel⟩ := hrel
    have d1 := cellK hbel hg c1
    by_cases hlt : k < sp.length
    · have hrow2 := hrow.out.kept (Hi.of_below hbel)
      obtain ⟨b, o, cap', hv, hb, hc0, hc1⟩ := spans_at hrow2 hlt
      cases hv
      clear hrow2
      have hH := Lib.hid (fun h => inSp_hit (x := x) hlt h)
      have hN := Lib.hid (fun h => inSp_next (x := x) hlt h hA.out)
      generalize sp[k] = s at *
      obtain ⟨lo, hi⟩ := s
      simp only at hc0 hc1 hH hN
      have hsz := hbel.size
      have hn0 := Go.heap_alloc_new wr (.cells #[.int .i32 lo, .int .i32 hi] 77)
      have hba := (Below.refl _ wr).alloc (Nat.le_refl _) (.cells #[.int .i32 lo, .int .i32 hi] 77)
      have d2 := cellK hba (by omega) d1
      have hfin := Lib.hid (hbel.trans (hba.mono hsz))
      by_cases hin : lo ≤ x ∧ x ≤ hi
      · have p1 : decide (lo ≤ x) = true := decide_eq_true (by omega)
        have p2 : decide (x ≤ hi) = true := decide_eq_true (by omega)
        have hR := Lib.hid (hF.out.trans (if_pos (hH.out hin)))
        clear hin hn0 hba
        go_wp2_with fail
        go_ret
        exact ⟨ret_bool hR.out.symm, hfin.out⟩
      · have hN2 := Lib.hid (hN.out hin)
        by_cases h1 : lo ≤ x
        · have p1 : decide (lo ≤ x) = true := decide_eq_true (by omega)
          have p2 : decide (x ≤ hi) = false := decide_eq_false (by omega)
          clear hin h1 hn0 hba
          go_wp2_with fail
          go_roundw
          case rel => exact ⟨k + 1, by omega, by go_num, hN2, hfin.out⟩
          case measure => simp [intOf]; omega
        · have p1 : decide (lo ≤ x) = false := decide_eq_false (by omega)
          clear hin h1 hn0 hba
          go_wp2_with fail
          go_roundw
          case rel => exact ⟨k + 1, by omega, by go_num, hN2, hfin.out⟩
          case measure => simp [intOf]; omega
    · obtain rfl : k = sp.length := by omega
      have hR := Lib.hid (hF.out.trans (if_neg (by have := hA.out; rw [List.take_of_length_le (Nat.le_refl _)] at this; rw [this]; decide)))
      go_wp2_with fail
      go_ret
      exact ⟨ret_bool hR.out.symm, hbel⟩
end Go.Proofs.YtfhgnnlhacjnkaaDoor

/-
  The program's Fits side: what the walks of once, along, piecewise are to show; a read atom adds up.
-/
namespace Go.Proofs.YtfhgnnlhacjnkaaDoor
set_option linter.unusedVariables false
set_option linter.unusedSimpArgs false
open Go.RowKit PT

theorem rowV_all {S : Nat → Prop} {A : Den → Value → World → Prop} {P : Den → Prop} (hA : ∀ d v w, A d v w → P d) {ps : List Pce} {v : Value} {w : World} (h : RowV S A ps v w) : ∀ p ∈ ps, P p.d := by
  intro p hp
  obtain ⟨j, hj, rfl⟩ := List.getElem_of_mem hp
  obtain ⟨_, _, _, a, _, _, ⟨ha, _⟩, _⟩ := h.at hj
  exact hA _ _ _ ha
theorem rowsV_all {S : Nat → Prop} {A : Den → Value → World → Prop} {P : Den → Prop} (hA : ∀ d v w, A d v w → P d) {rs : List (List Pce)} {v : Value} {w : World} (h : RowsV S A rs v w) : ∀ ps ∈ rs, ∀ p ∈ ps, P p.d := by
  intro ps hps
  obtain ⟨j, hj, rfl⟩ := List.getElem_of_mem hps
  obtain ⟨_, _, _, u, _, _, _, hu⟩ := h.at hj
  exact rowV_all hA hu
theorem clsV_adds {S : Nat → Prop} {tc : TypeId} {d : Den} {v : Value} {w : World} (h : ClsV S tc d v w) : AddsD d := by
  obtain ⟨c, _, _, rfl, _⟩ := h
  exact fun t => clsL_adds _ t
theorem atomV_adds {S : Nat → Prop} {tc tg : TypeId} : ∀ (k : Nat) (d : Den) (v : Value) (w : World), AtomV S tc tg k d v w → AddsD d
  | 0, _, _, _, h => clsV_adds h
  | k + 1, _, _, _, h => by
    rcases h with h | ⟨rs, g, rv, rfl, _, _, _, _, h4⟩
    · exact clsV_adds h
    · exact fun t => grpL_adds fun ps hps p hp => rowsV_all (atomV_adds k) h4 ps hps p hp t
abbrev Al : Nat → Prop := fun _ => True
/-- a text within the law's bound -/
structure Txt9 (t : List Nat) (tv : Value) (w : World) : Prop where
  len : t.length ≤ 4000
  max : ∀ x ∈ t, x ≤ 1114111
  lies : Sg .i32 t tv w
theorem Txt9.kept {t : List Nat} {tv : Value} {w w' : World} (h : Txt9 t tv w) (hb : Below w.heap.size w w') : Txt9 t tv w' := ⟨h.len, h.max, h.lies.kept hb⟩
/-- places that a call gives back in a row that it has made -/
def PlOwn (bs : List Bool) (w : World) (e : Ending) (w' : World) : Prop := ∃ g, e = .returned (.slice (some ⟨g, 0, none⟩) bs.length bs.length) ∧ w.heap.size ≤ g ∧ w'.heap[g]? = some (.cells (blA bs) 4 (0, 0)) ∧ Below w.heap.size w w'
/-- a slice that lies in a block from number B on -/
def New9 (B : Nat) (v : Value) : Prop := ∃ b o n c, v = .slice (some ⟨b, o, none⟩) n c ∧ B ≤ b
/-- these places themselves, or new ones -/
def Old9 (B : Nat) (pv v : Value) : Prop := v = pv ∨ New9 B v
theorem New9.mono {B C : Nat} {v : Value} (h : New9 C v) (hb : B ≤ C) : New9 B v := by
  obtain ⟨b, o, n, c, h1, h2⟩ := h
  exact ⟨b, o, n, c, h1, by omega⟩
/-- places that a call gives back -/
def PlRes (bs : List Bool) (pv : Value) (w : World) (e : Ending) (w' : World) : Prop := ∃ v', e = .returned v' ∧ Bl bs v' w' ∧ Old9 w.heap.size pv v' ∧ Below w.heap.size w w'
def PlNew (bs : List Bool) (w : World) (e : Ending) (w' : World) : Prop := ∃ v', e = .returned v' ∧ Bl bs v' w' ∧ New9 w.heap.size v' ∧ Below w.heap.size w w'
/-- what once, along, piecewise are to show, by depth -/
def OnceQ (k : Nat) : Prop := ∀ (d : Den) (av : Value) (t : List Nat) (tv : Value) (bs : List Bool) (pv : Value) (w : World), AtomV Al tcls tgrp k d av w → Txt9 t tv w → bs.length = t.length + 1 → Bl bs pv w → Calls Tryd.prog 18 #[av, tv, pv] w fun e w' => PlOwn (d t bs) w e w'
def AlongQ (k : Nat) : Prop := ∀ (ps : List Pce) (rv : Value) (t : List Nat) (tv : Value) (bs : List Bool) (pv : Value) (w : World), RowV Al (AtomV Al tcls tgrp k) ps rv w → Txt9 t tv w → bs.length = t.length + 1 → Bl bs pv w → Calls Tryd.prog 24 #[rv, tv, pv] w fun e w' => PlRes (rowL ps t bs) pv w e w'
def PieceQ (k : Nat) : Prop := ∀ (p : Pce) (av : Value) (t : List Nat) (tv : Value) (bs : List Bool) (pv : Value) (w : World), AtomV Al tcls tgrp k p.d av w → OftB p.lo p.hi → Txt9 t tv w → bs.length = t.length + 1 → Bl bs pv w → Calls Tryd.prog 34 #[.agg #[av, .int .i64 p.lo, .int .i64 (hiV p.hi)], tv, pv] w fun e w' => PlNew (pceL p t bs) w e w'
theorem rowL_snoc {ps : List Pce} {k : Nat} (hk : k < ps.length) (t : List Nat) (bs : List Bool) : rowL (ps.take (k + 1)) t bs = pceL ps[k] t (rowL (ps.take k) t bs) := by
  unfold rowL
  rw [List.take_succ_eq_append_getElem hk, List.foldl_append]
  rfl
theorem rowV_max {S : Nat → Prop} {A : Den → Value → World → Prop} {ps : List Pce} {v : Value} {w : World} (h : RowV S A ps v w) : ps.length ≤ 9223372036854775807 ∧ ∃ a cap, v = .slice a ps.length cap := by
  obtain ⟨_, _, h2, _⟩ := h
  exact ⟨h2.max, h2.form⟩
theorem atomV_form {S : Nat → Prop} {tc tg : TypeId} {k : Nat} {d : Den} {v : Value} {w : World} (h : AtomV S tc tg k d v w) : ∃ ty g, v = .iface ty (.pointer (some ⟨g, 0, none⟩)) := by
  cases k with
  | zero =>
    obtain ⟨_, g, _, _, rfl, _⟩ := h
    exact ⟨_, g, rfl⟩
  | succ k =>
    rcases h with ⟨_, g, _, _, rfl, _⟩ | ⟨_, g, _, _, rfl, _⟩
    · exact ⟨_, g, rfl⟩
    · exact ⟨_, g, rfl⟩
theorem bl_all {ps : List Pce} {t : List Nat} {bs : List Bool} {v : Value} {w : World} (h : Bl (rowL (ps.take ps.length) t bs) v w) : Bl (rowL ps t bs) v w := by rwa [List.take_of_length_le (Nat.le_refl _)] at h
end Go.Proofs.YtfhgnnlhacjnkaaDoor

/-
  pattern.along: the walk.
-/
namespace Go.Proofs.YtfhgnnlhacjnkaaDoor
set_option linter.unusedVariables false
set_option linter.unusedSimpArgs false
open Go.RowKit PT

set_option maxHeartbeats 4000000 in
set_option maxRecDepth 100000 in
theorem along_q (kk : Nat) (hp : PieceQ kk) : AlongQ kk := by
  intro ps rv t tv bs pv w hrow hT hbl hB
  obtain ⟨hmx, a, cap, rfl⟩ := rowV_max hrow
  have hadd := Lib.hid (rowV_all (P := AddsD) (atomV_adds kk) hrow)
  have hlen := Lib.hid (fun k => show (rowL (ps.take k) t bs).length = t.length + 1 from (rowL_adds (ps := ps.take k) (t := t) fun p hp => hadd.out p (List.mem_of_mem_take hp) t).len bs hbl)
  have hrow := Lib.hid hrow
  have hT := Lib.hid hT
  have hp := Lib.hid hp
  clear hadd hbl
  go_enter Tryd.func24, Tryd.ntmps24
  go_wp2_with fail
  go_loopw [11, 2] (fun i v wr => ∃ k : Nat, k ≤ ps.length ∧ i = .int .i64 k ∧ Hid (Bl (rowL (ps.take k) t bs) v wr) ∧ Hid (Old9 w.heap.size pv v) ∧ Below w.heap.size w wr) (fun i _ _ => ps.length - (intOf i).toNat)
  case atStart => exact ⟨0, Nat.zero_le _, rfl, Lib.hid hB, Lib.hid (.inl rfl), Below.refl _ _⟩
  case round =>
    obtain ⟨k, hk, rfl, hA, hOv, hbel⟩ := hrel
    have hsz := hbel.size
    by_cases hlt : k < ps.length
    · have hrow2 := hrow.out.kept (AtomV.kept kk) (Hi.of_below hbel)
      obtain ⟨b, o, cap', ua, hv, hb, ⟨hat, hof⟩, c0, c1, c2⟩ := hrow2.at hlt
      cases hv
      clear hrow2
      obtain ⟨uty, ug, rfl⟩ := atomV_form hat
      have hstep := Lib.hid (rowL_snoc hlt t bs)
      have hl := Lib.hid (hlen.out k)
      generalize ps[k] = p at *
      generalize rowL (ps.take k) t bs = cur at *
      have hba := (Below.refl _ wr).alloc (Nat.le_refl _) (.cells #[.iface uty (.pointer (some ⟨ug, 0, none⟩)), .int .i64 p.lo, .int .i64 (hiV p.hi)] 71)
      have hat2 := Lib.hid (AtomV.kept kk _ _ _ _ hat (Hi.of_below hba))
      have hT2 := Lib.hid ((hT.out.kept hbel).kept hba)
      have hA2 := Lib.hid (hA.out.kept hba)
      have hn0 := Go.heap_alloc_new wr (.cells #[.iface uty (.pointer (some ⟨ug, 0, none⟩)), .int .i64 p.lo, .int .i64 (hiV p.hi)] 71)
      have hsz2 := alloc_size wr (.cells #[.iface uty (.pointer (some ⟨ug, 0, none⟩)), .int .i64 p.lo, .int .i64 (hiV p.hi)] 71)
      have hof := Lib.hid hof
      obtain ⟨H, hH⟩ : ∃ H, hiV p.hi = H := ⟨_, rfl⟩
      have hbA := Lib.hid (hbel.trans (hba.mono hsz))
      clear hat hba
      rw [hH] at hat2 hT2 hA2 hn0 hsz2 hbA c2
      go_upto_region 4 with fail
      generalize World.alloc _ _ = W2 at hat2 hT2 hA2 hn0 hsz2 hbA ⊢
      have q0 : W2.cell? ⟨wr.heap.size, 0, none⟩ = some (.iface uty (.pointer (some ⟨ug, 0, none⟩))) := by simp [World.cell?, hn0]
      have q1 : W2.cell? ⟨wr.heap.size, 1, none⟩ = some (.int .i64 p.lo) := by simp [World.cell?, hn0]
      have q2 : W2.cell? ⟨wr.heap.size, 2, none⟩ = some (.int .i64 H) := by simp [World.cell?, hn0]
      clear hn0
      go_wp2_with fail
      rw [← hH]
      refine (hp.out p _ t tv cur _ _ hat2.out hof.out hT2.out hl.out hA2.out).mono ?_
      rintro e w3 ⟨v3, rfl, hB3, ho3, hb3⟩
      have hO3 := Lib.hid (show Old9 w.heap.size pv v3 from .inr (ho3.mono hbA.out.size))
      have hB4 := Lib.hid (show Bl (rowL (ps.take (k + 1)) t bs) v3 w3 by rw [hstep.out]; exact hB3)
      have hfin := Lib.hid (hbA.out.trans (hb3.mono hbA.out.size))
      clear hB3 hb3 ho3
      go_wp2_with fail
      go_roundw
      case rel => exact ⟨k + 1, by omega, by go_num, hB4, hO3, hfin.out⟩
      case measure => simp [intOf]; omega
    · obtain rfl : k = ps.length := by omega
      have hR := Lib.hid (bl_all hA.out)
      clear hA
      go_wp2_with fail
      go_ret
      exact ⟨_, rfl, hR.out, hOv.out, hbel⟩
end Go.Proofs.YtfhgnnlhacjnkaaDoor

/-
  What a sign fits, by the document: ref09.fitsItem, fitsOne: the walks.
-/
namespace Go.Proofs.YtfhgnnlhacjnkaaDoor
set_option linter.unusedVariables false
set_option linter.unusedSimpArgs false
open Go.RowKit PT

theorem sign_named {l : List Nat} {k : Nat} {sp : List (Nat × Nat)} {r : List Nat} (h : signP (l.drop k) = some (sp, false, r)) : ∃ (hk : k < l.length) (hk2 : k + 1 < l.length), l[k] = 92 ∧ l[k + 1] ∈ [100, 119, 115] ∧ sp = (someP l[k + 1]).getD [] := by
  rcases signP_form h with ⟨c, _, _, ho, _⟩ | ⟨c, h1, h2⟩
  · cases ho
  · obtain ⟨hk, e1, e2⟩ := drop_head h1
    obtain ⟨hk2, e3, e4⟩ := drop_head e2
    rcases h2 with ⟨ho, _⟩ | ⟨_, hn, hs⟩
    · cases ho
    · exact ⟨hk, hk2, e1, by rw [e3]; simpa using hn, by rw [e3]; exact hs⟩
/-- an item: named, one sign, or from one to another -/
theorem item_at {l : List Nat} {k : Nat} {sp : List (Nat × Nat)} {r : List Nat} (h : itemP (l.drop k) = some (sp, r)) : ∃ (n m : Nat) (hk : k < l.length) (hn : n ≤ l.length) (hm : m ≤ l.length), sgR (l.drop k) = some (l.drop n) ∧ k < n ∧ n ≤ m ∧ m + r.length = l.length ∧ l.drop m = r ∧
    ((∃ hk2 : k + 1 < l.length, l[k] = 92 ∧ l[k + 1] ∈ [100, 119, 115] ∧ sp = (someP l[k + 1]).getD []) ∨
      ((l[k] ≠ 92 ∨ ∃ hk2 : k + 1 < l.length, l[k] = 92 ∧ l[k + 1] ∉ [100, 119, 115]) ∧ ((n = m ∧ sp = [(l[n - 1], l[n - 1])]) ∨ (n < m ∧ sp = [(l[n - 1], l[m - 1])])))) := by
  cases hs : signP (l.drop k) with
  | none => unfold itemP at h; rw [hs] at h; cases h
  | some q =>
    obtain ⟨sp1, one, r1⟩ := q
    obtain ⟨n, hk, hn, hkn, hnr, hdn, hA⟩ := sign_at hs
    have hsg : sgR (l.drop k) = some (l.drop n) := by rw [hdn]; exact sgR_some hs
    have hone : r1 = [] ∨ (∃ x r2, r1 = x :: r2 ∧ x ≠ 45) ∨ ∃ r2, r1 = 45 :: r2 := by
      cases r1 with
      | nil => exact .inl rfl
      | cons x r2 =>
        by_cases hx : x = 45
        · exact .inr (.inr ⟨r2, by rw [hx]⟩)
        · exact .inr (.inl ⟨x, r2, rfl, hx⟩)
    have hsame : (r1 = [] ∨ ∃ x r2, r1 = x :: r2 ∧ x ≠ 45) → sp = sp1 ∧ r = r1 := by
      intro h3
      unfold itemP at h
      rw [hs] at h
      rcases h3 with rfl | ⟨x, r2, rfl, hx⟩
      · cases h; exact ⟨rfl, rfl⟩
      · simp only at h
        rw [if_neg hx] at h
        cases h
        exact ⟨rfl, rfl⟩
    have hcase : (r1 = [] ∨ ∃ x r2, r1 = x :: r2 ∧ x ≠ 45) ∨ ∃ r2, r1 = 45 :: r2 := by
      rcases hone with h | h | h
      · exact .inl (.inl h)
      · exact .inl (.inr h)
      · exact .inr h
    rcases hcase with h3 | ⟨r2, rfl⟩
    · obtain ⟨rfl, rfl⟩ := hsame h3
      refine ⟨n, n, hk, hn, hn, hsg, hkn, Nat.le_refl _, hnr, hdn, ?_⟩
      rcases hA with ⟨ho, h92, hsp⟩ | ⟨hk2, h92, hni, ho, hsp⟩ | ⟨hk2, h92, hin, ho⟩
      · exact .inr ⟨.inl h92, .inl ⟨rfl, hsp⟩⟩
      · exact .inr ⟨.inr ⟨hk2, h92, hni⟩, .inl ⟨rfl, hsp⟩⟩
      · subst ho
        obtain ⟨_, _, _, _, hsp⟩ := sign_named hs
        exact .inl ⟨hk2, h92, hin, hsp⟩
    · have hI := h
      unfold itemP at hI
      rw [hs] at hI
      simp only [if_true] at hI
      obtain ⟨hn2, e1, e2⟩ := drop_head hdn
      cases hs2 : signP r2 with
      | none => rw [hs2] at hI; cases hI
      | some q =>
        obtain ⟨sp2, one2, r3⟩ := q
        rw [hs2] at hI
        simp only at hI
        rw [← e2] at hs2
        obtain ⟨m, hn3, hm, hnm, hmr, hdm, hB⟩ := sign_at hs2
        split at hI
        · rename_i hc
          obtain ⟨hc1, hc2⟩ := hc
          obtain ⟨o1, o2⟩ := Bool.and_eq_true_iff.1 hc1
          cases hI
          refine ⟨n, m, hk, hn, hm, hsg, hkn, by omega, hmr, hdm, .inr ⟨?_, .inr ⟨by omega, ?_⟩⟩⟩
          · rcases hA with ⟨ho, h92, hsp⟩ | ⟨hk2, h92, hni, ho, hsp⟩ | ⟨hk2, h92, hin, ho⟩
            · exact .inl h92
            · exact .inr ⟨hk2, h92, hni⟩
            · rw [ho] at o1; cases o1
          · have hs1 : fromP sp1 = l[n - 1] := by
              rcases hA with ⟨ho, h92, hsp⟩ | ⟨hk2, h92, hni, ho, hsp⟩ | ⟨hk2, h92, hin, ho⟩
              · rw [hsp]; rfl
              · rw [hsp]; rfl
              · rw [ho] at o1; cases o1
            have hs3 : fromP sp2 = l[m - 1] := by
              rcases hB with ⟨ho, h92, hsp⟩ | ⟨hk2, h92, hni, ho, hsp⟩ | ⟨hk2, h92, hin, ho⟩
              · rw [hsp]; rfl
              · rw [hsp]; rfl
              · rw [ho] at o2; cases o2
            rw [hs1, hs3]
        · cases hI
theorem in1_eq (c x : Nat) : inSp [(c, c)] x = decide (x = c) := by
  rw [Bool.eq_iff_iff]
  simp [inSp]
  omega
theorem in1_to (c d x : Nat) : inSp [(c, d)] x = (decide (c ≤ x) && decide (x ≤ d)) := by
  simp [inSp]
set_option maxHeartbeats 1000000 in
set_option maxRecDepth 100000 in
theorem fitsItem_any (l : List Nat) (v : Value) (hl : l.length ≤ 1000000) (k m x : Nat) (sp : List (Nat × Nat)) (r : List Nat) (hit : itemP (l.drop k) = some (sp, r)) (hmr : m + r.length = l.length) (w : World) (hS : Sg .i64 l v w) :
    Calls Tryd.prog 51 #[v, .int .i64 k, .int .i64 m, .int .i64 x] w fun e w' => e = .returned (.bool (inSp sp x)) ∧ w = w' := by
  have hSS := Lib.hid hS
  obtain ⟨n, m', hk, hn, hm, hsg, hkn, hnm, hmr', hdm, hA⟩ := item_at hit
  obtain rfl : m' = m := by omega
  obtain ⟨b, o, cap, rfl, hb, hc⟩ := hS.at (by omega)
  replace hc := Lib.hid hc
  have q0 : (k : Int) < (l.length : Int) := by omega
  have q1 : (0 : Int) ≤ (n : Int) - 1 := by omega
  have q2 : (n : Int) - 1 < (l.length : Int) := by omega
  have q3 : ((n : Int) - 1).toNat = n - 1 := by omega
  have q4 : (0 : Int) ≤ (m' : Int) - 1 := by omega
  have q5 : (m' : Int) - 1 < (l.length : Int) := by omega
  have q6 : ((m' : Int) - 1).toNat = m' - 1 := by omega
  have cn := hc.out (n - 1) (by omega)
  have cm := hc.out (m' - 1) (by omega)
  have ck := hc.out k hk
  have hsg2 := Lib.hid (show endV l.length (sgR (l.drop k)) = (n : Int) by rw [hsg]; exact endV_at (by rw [List.length_drop]; omega))
  clear hit hsg hdm
  go_enter Tryd.func51, Tryd.ntmps51
  rcases hA with ⟨hk2, h92, hin, hsp⟩ | ⟨hA, hB⟩
  · have q7 : (k : Int) + 1 < (l.length : Int) := by omega
    have c1 := hc.out (k + 1) hk2
    obtain ⟨e, he⟩ : ∃ e, l[k + 1] = e := ⟨_, rfl⟩
    rw [he] at c1 hin hsp
    rw [h92] at ck
    have hR := Lib.hid (show namedP e x = inSp sp x by rw [hsp]; exact named_in (by simpa using hin) x)
    have hin' := Lib.hid (decide_eq_true hin)
    clear he h92 hin hsp
    generalize l[n - 1] = y1 at *
    generalize l[m' - 1] = y2 at *
    go_wp2_with fail
    refine (behind_any l _ hl k (by omega) _ hSS.out).mono ?_
    rintro e1 w' ⟨rfl, rfl⟩
    rw [hsg2.out]
    go_wp2_with fail
    refine (in9_any e _ (by decide) _).mono ?_
    rintro e1 w' ⟨rfl, rfl⟩
    rw [in_3, hin'.out]
    go_wp2_with fail
    refine (named_any e x _).mono ?_
    rintro e1 w' ⟨rfl, rfl⟩
    go_wp2_with fail
    go_ret
    exact ⟨ret_bool hR.out, rfl⟩
  · have hfin : ∀ (c d : Nat), l[n - 1] = c → l[m' - 1] = d → ((n = m' ∧ inSp sp x = decide (x = c)) ∨ (n < m' ∧ inSp sp x = (decide (c ≤ x) && decide (x ≤ d)))) := by
      intro c d h1 h2
      rcases hB with ⟨rfl, hsp⟩ | ⟨hlt, hsp⟩
      · exact .inl ⟨rfl, by rw [hsp, h1]; exact in1_eq c x⟩
      · exact .inr ⟨hlt, by rw [hsp, h1, h2]; exact in1_to c d x⟩
    obtain ⟨c, hcc⟩ : ∃ c, l[n - 1] = c := ⟨_, rfl⟩
    obtain ⟨d, hdd⟩ : ∃ d, l[m' - 1] = d := ⟨_, rfl⟩
    have hF := Lib.hid (hfin c d hcc hdd)
    rw [hcc] at cn
    rw [hdd] at cm
    clear hB hfin hcc hdd
    rcases hA with h92 | ⟨hk2, h92, hni⟩
    · have q7 : ((l[k] : Int) == 92) = false := natEq_no h92
      clear h92
      generalize l[k] = z at *
      go_wp2_with fail
      refine (behind_any l _ hl k (by omega) _ hSS.out).mono ?_
      rintro e1 w' ⟨rfl, rfl⟩
      rw [hsg2.out]
      rcases hF.out with ⟨hE, hR⟩ | ⟨hE, hR⟩
      · have q8 : ((n : Int) == (m' : Int)) = true := natEq_yes hE
        replace hR := Lib.hid hR
        clear hE
        go_wp2_with fail
        go_ret
        exact ⟨ret_bool (by rw [hR.out, Bool.eq_iff_iff]; simp; try omega), rfl⟩
      · have q8 : ((n : Int) == (m' : Int)) = false := natEq_no (by omega)
        replace hR := Lib.hid hR
        by_cases hle : c ≤ x
        · have q9 : (c : Int) ≤ (x : Int) := by omega
          go_wp2_with fail
          go_ret
          exact ⟨ret_bool (by rw [hR.out, decide_eq_true hle, Bool.true_and]), rfl⟩
        · have q9 : decide ((c : Int) ≤ (x : Int)) = false := decide_eq_false (by omega)
          go_wp2_with fail
          go_ret
          exact ⟨ret_bool (by rw [hR.out, decide_eq_false hle, Bool.false_and]), rfl⟩
    · have q7 : (k : Int) + 1 < (l.length : Int) := by omega
      have c1 := hc.out (k + 1) hk2
      obtain ⟨e, he⟩ : ∃ e, l[k + 1] = e := ⟨_, rfl⟩
      rw [he] at c1 hni
      rw [h92] at ck
      have hni' := Lib.hid (decide_eq_false hni)
      clear he h92 hni
      go_wp2_with fail
      refine (behind_any l _ hl k (by omega) _ hSS.out).mono ?_
      rintro e1 w' ⟨rfl, rfl⟩
      rw [hsg2.out]
      go_wp2_with fail
      refine (in9_any e _ (by decide) _).mono ?_
      rintro e1 w' ⟨rfl, rfl⟩
      rw [in_3, hni'.out]
      rcases hF.out with ⟨hE, hR⟩ | ⟨hE, hR⟩
      · have q8 : ((n : Int) == (m' : Int)) = true := natEq_yes hE
        replace hR := Lib.hid hR
        clear hE
        go_wp2_with fail
        go_ret
        exact ⟨ret_bool (by rw [hR.out, Bool.eq_iff_iff]; simp; try omega), rfl⟩
      · have q8 : ((n : Int) == (m' : Int)) = false := natEq_no (by omega)
        replace hR := Lib.hid hR
        by_cases hle : c ≤ x
        · have q9 : (c : Int) ≤ (x : Int) := by omega
          go_wp2_with fail
          go_ret
          exact ⟨ret_bool (by rw [hR.out, decide_eq_true hle, Bool.true_and]), rfl⟩
        · have q9 : decide ((c : Int) ≤ (x : Int)) = false := decide_eq_false (by omega)
          go_wp2_with fail
          go_ret
          exact ⟨ret_bool (by rw [hR.out, decide_eq_false hle, Bool.false_and]), rfl⟩
end Go.Proofs.YtfhgnnlhacjnkaaDoor

/-
  What an atom that is no group fits, by the document: ref09.fitsOne: the walk.
-/
namespace Go.Proofs.YtfhgnnlhacjnkaaDoor
set_option linter.unusedVariables false
set_option linter.unusedSimpArgs false
open Go.RowKit PT

theorem in_6 (c : Nat) : inN c (ByteArray.mk #[68, 87, 83]).data.toList = decide (c ∈ [68, 87, 83]) := inN_of rfl
theorem fits_dot (x : Nat) : Klass.fits ⟨[(10, 10), (13, 13)], true⟩ x = (decide (x ≠ 10) && decide (x ≠ 13)) := by
  unfold Klass.fits
  simp only
  by_cases h : inSp [(10, 10), (13, 13)] x = true
  · rw [if_pos h]
    have : x = 10 ∨ x = 13 := by simp [inSp] at h; omega
    rcases this with rfl | rfl <;> rfl
  · rw [if_neg h]
    have h2 : x ≠ 10 ∧ x ≠ 13 := by
      constructor
      · rintro rfl; exact h rfl
      · rintro rfl; exact h rfl
    rw [decide_eq_true h2.1, decide_eq_true h2.2]; rfl
theorem fits_neg (sp : List (Nat × Nat)) (x : Nat) : Klass.fits ⟨sp, true⟩ x = !inSp sp x := by
  unfold Klass.fits
  cases inSp sp x <;> rfl
theorem fits_pos (sp : List (Nat × Nat)) (x : Nat) : Klass.fits ⟨sp, false⟩ x = inSp sp x := by
  unfold Klass.fits
  cases inSp sp x <;> rfl
theorem fits_esc {e : Nat} {r : List Nat} {c : Klass} {r2 : List Nat} (h : escP (e :: r) = some (c, r2)) (x : Nat) : r2 = r ∧ ((e ∈ [68, 87, 83] ∧ c.fits x = !namedP (e + 32) x) ∨ (e ∉ [68, 87, 83] ∧ e ∈ [100, 119, 115] ∧ c.fits x = namedP e x) ∨ (e ∉ [68, 87, 83] ∧ e ∉ [100, 119, 115] ∧ c.fits x = decide (x = e))) := by
  rw [escP_cons] at h
  by_cases h1 : e ∈ [68, 87, 83]
  · have h2 : e = 68 ∨ e = 87 ∨ e = 83 := by simpa using h1
    have h3 : e + 32 = 100 ∨ e + 32 = 119 ∨ e + 32 = 115 := by omega
    have hs := named_in h3 x
    rw [← some_upper h2] at hs
    cases hp : someP e with
    | none => rcases h2 with rfl | rfl | rfl <;> cases hp
    | some sp =>
      rw [hp] at h hs
      cases h
      refine ⟨rfl, .inl ⟨h1, ?_⟩⟩
      rw [show decide (e < 97) = true from decide_eq_true (by omega), fits_neg, hs]; rfl
  · by_cases h2 : e ∈ [100, 119, 115]
    · have h3 : e = 100 ∨ e = 119 ∨ e = 115 := by simpa using h2
      have hs := named_in h3 x
      cases hp : someP e with
      | none => rcases h3 with rfl | rfl | rfl <;> cases hp
      | some sp =>
        rw [hp] at h hs
        cases h
        refine ⟨rfl, .inr (.inl ⟨h1, h2, ?_⟩)⟩
        rw [show decide (e < 97) = false from decide_eq_false (by omega), fits_pos, hs]; rfl
    · have hp : someP e = none := by
        simp only [List.mem_cons, List.not_mem_nil, or_false] at h1 h2
        unfold someP
        rw [if_neg (by omega), if_neg (by omega), if_neg (by omega)]
      rw [hp] at h
      simp only at h
      split at h
      · cases h
        exact ⟨rfl, .inr (.inr ⟨h1, h2, one_fits e x⟩)⟩
      · cases h
/-- a class at a place: where its items begin -/
theorem class_at {l : List Nat} {k : Nat} (hk : k < l.length) {c : Klass} {r : List Nat} (h : classP (l.drop (k + 1)) = some (c, r)) : ∃ (hk2 : k + 1 < l.length) (st : Nat), st ≤ l.length ∧ itemsF (l.drop st) = some (c.sp, r) ∧ ((l[k + 1] = 94 ∧ st = k + 2 ∧ c.neg = true) ∨ (l[k + 1] ≠ 94 ∧ st = k + 1 ∧ c.neg = false)) := by
  have hk2 : k + 1 < l.length := by
    rcases Nat.lt_or_ge (k + 1) l.length with h2 | h2
    · exact h2
    · rw [List.drop_eq_nil_of_le h2] at h; cases h
  rw [drop_at hk2] at h
  unfold classP at h
  simp only at h
  by_cases h94 : l[k + 1] = 94
  · rw [if_pos h94] at h
    obtain ⟨q, h1, h2⟩ := Option.map_eq_some_iff.1 h
    cases h2
    exact ⟨hk2, k + 2, by omega, bodyP_items h1, .inl ⟨h94, rfl, rfl⟩⟩
  · rw [if_neg h94] at h
    obtain ⟨q, h1, h2⟩ := Option.map_eq_some_iff.1 h
    cases h2
    refine ⟨hk2, k + 1, by omega, ?_, .inr ⟨h94, rfl, rfl⟩⟩
    rw [drop_at hk2]
    exact bodyP_items h1
set_option maxHeartbeats 1000000 in
set_option maxRecDepth 100000 in
theorem fitsOne_any (l : List Nat) (v : Value) (hl : l.length ≤ 1000000) (k m x : Nat) (c : Klass) (r : List Nat) (hkl : klassP (l.drop k) = some (c, r)) (hmr : m + r.length = l.length) (w : World) (hS : Sg .i64 l v w) :
    Calls Tryd.prog 43 #[v, .int .i64 k, .int .i64 m, .int .i64 x] w fun e w' => e = .returned (.bool (c.fits x)) ∧ Below w.heap.size w w' := by
  have hSS := Lib.hid hS
  have hk : k < l.length := by
    rcases Nat.lt_or_ge k l.length with h | h
    · exact h
    · rw [List.drop_eq_nil_of_le h] at hkl; cases hkl
  obtain ⟨b, o, cap, rfl, hb, hc⟩ := hS.at (by omega)
  replace hc := Lib.hid hc
  have q0 : (k : Int) < (l.length : Int) := by omega
  have ck := hc.out k hk
  rw [drop_at hk, klassP_cons] at hkl
  obtain ⟨z, hz⟩ : ∃ z, l[k] = z := ⟨_, rfl⟩
  rw [hz] at hkl ck
  clear hz
  go_enter Tryd.func43, Tryd.ntmps43
  by_cases h91 : z = 91
  · subst h91
    rw [if_pos rfl] at hkl
    obtain ⟨hk2, st, hst, hit, hneg⟩ := class_at hk hkl
    have q1 : (k : Int) + 1 < (l.length : Int) := by omega
    have c1 := hc.out (k + 1) hk2
    have hnb : ∃ ng, c.neg = ng := ⟨_, rfl⟩
    obtain ⟨ng, hng⟩ := hnb
    have hfit := Lib.hid (show ∀ g, inSp c.sp x = g → c.fits x = (if g then !ng else ng) from fun g hg => by unfold Klass.fits; rw [hg, hng])
    rw [hng] at hneg
    clear hng hkl
    rcases hneg with ⟨h94, rfl, rfl⟩ | ⟨h94, rfl, rfl⟩
    · have q2 : ((l[k + 1] : Int) == 94) = true := natEq_yes h94
      clear h94
      generalize l[k + 1] = y at *
      go_wp2_with fail
      go_loopw [10] (fun i wr => ∃ (j : Nat) (sps : List (Nat × Nat)), j ≤ l.length ∧ i = .int .i64 j ∧ Below w.heap.size w wr ∧ Hid (itemsF (l.drop j) = some (sps, r)) ∧ Hid (inSp c.sp x = inSp sps x)) (fun i _ => l.length - (intOf i).toNat)
      case atStart => exact ⟨k + 2, c.sp, hst, by go_num, Below.refl _ _, Lib.hid hit, Lib.hid rfl⟩
      case round =>
        obtain ⟨j, sps, hj, rfl, hbel, hI, hin⟩ := hrel
        have hsz := hbel.size
        have hSr := hSS.out.kept hbel
        have hlt : j < l.length := by
          rcases Nat.lt_or_ge j l.length with h | h
          · exact h
          · have := hI.out; rw [List.drop_eq_nil_of_le h] at this; cases this
        have hI2 := hI.out
        rw [drop_at hlt] at hI2
        by_cases h93 : l[j] = 93
        · rw [h93, itemsF_end] at hI2
          cases hI2
          have hjm : j + 1 = m := by rw [List.length_drop] at hmr; omega
          have t1 : decide ((j : Int) < (m : Int) - 1) = false := decide_eq_false (by omega)
          have hR := Lib.hid (show c.fits x = true by rw [hfit.out false hin.out]; rfl)
          clear h93
          go_wp2_with fail
          go_ret
          exact ⟨ret_bool hR.out.symm, hbel⟩
        · rw [itemsF_cons h93, ← drop_at hlt] at hI2
          clear h93
          cases hip : itemP (l.drop j) with
          | none => rw [hip] at hI2; cases hI2
          | some q =>
            obtain ⟨sp, r1⟩ := q
            rw [hip] at hI2
            simp only at hI2
            obtain ⟨n, hn1, hn2, hn3⟩ := drop_suf (itemP_suf hip) hj
            have hlen := itemP_len hip
            rw [List.length_drop] at hlen
            rw [← hn3] at hI2
            cases hrest : itemsF (l.drop n) with
            | none => rw [hrest] at hI2; cases hI2
            | some q =>
              obtain ⟨sps2, r2⟩ := q
              rw [hrest] at hI2
              simp only [Option.some.injEq, Prod.mk.injEq] at hI2
              obtain ⟨hsps, hrr⟩ := hI2
              subst hrr
              have hl2 := itemsP_len hrest
              rw [List.length_drop] at hl2
              have t1 : (j : Int) < (m : Int) - 1 := by omega
              have hii := Lib.hid (show endV l.length (itR (l.drop j)) = (n : Int) by unfold itR; rw [hip]; exact endV_at hn2)
              have hip2 := Lib.hid hip
              have hn0 : n ≤ l.length := by omega
              have hjn : j < n := by omega
              have hrest2 := Lib.hid hrest
              have hin2 := Lib.hid (show inSp c.sp x = (inSp sp x || inSp sps2 x) by rw [hin.out, ← hsps, inSp_app])
              clear hip hrest hsps hn3 hI hin hl2 hlen
              go_wp2_with fail
              refine (item_any l _ hl j hj _ hSr).mono ?_
              rintro e1 w1 ⟨rfl, hb1⟩
              rw [hii.out]
              have hSr1 := hSr.kept hb1
              have hbl := hbel.trans (hb1.mono hsz)
              go_wp2_with fail
              refine (fitsItem_any l _ hl j n x sp r1 hip2.out hn2 _ hSr1).mono ?_
              rintro e1 w2 ⟨rfl, rfl⟩
              cases hg : inSp sp x
              · have hin3 := Lib.hid (show inSp c.sp x = inSp sps2 x by rw [hin2.out, hg, Bool.false_or])
                clear hg
                go_wp2_with fail
                go_roundw
                case rel => exact ⟨n, sps2, hn0, rfl, hbl, hrest2, hin3⟩
                case measure => simp [intOf]; omega
              · have hR := Lib.hid (show c.fits x = !true by rw [hfit.out true (by rw [hin2.out, hg, Bool.true_or])]; rfl)
                clear hg
                go_wp2_with fail
                go_ret
                exact ⟨ret_bool hR.out.symm, hbl⟩
    · have q2 : ((l[k + 1] : Int) == 94) = false := natEq_no h94
      clear h94
      generalize l[k + 1] = y at *
      go_wp2_with fail
      go_loopw [10] (fun i wr => ∃ (j : Nat) (sps : List (Nat × Nat)), j ≤ l.length ∧ i = .int .i64 j ∧ Below w.heap.size w wr ∧ Hid (itemsF (l.drop j) = some (sps, r)) ∧ Hid (inSp c.sp x = inSp sps x)) (fun i _ => l.length - (intOf i).toNat)
      case atStart => exact ⟨k + 1, c.sp, hst, by go_num, Below.refl _ _, Lib.hid hit, Lib.hid rfl⟩
      case round =>
        obtain ⟨j, sps, hj, rfl, hbel, hI, hin⟩ := hrel
        have hsz := hbel.size
        have hSr := hSS.out.kept hbel
        have hlt : j < l.length := by
          rcases Nat.lt_or_ge j l.length with h | h
          · exact h
          · have := hI.out; rw [List.drop_eq_nil_of_le h] at this; cases this
        have hI2 := hI.out
        rw [drop_at hlt] at hI2
        by_cases h93 : l[j] = 93
        · rw [h93, itemsF_end] at hI2
          cases hI2
          have hjm : j + 1 = m := by rw [List.length_drop] at hmr; omega
          have t1 : decide ((j : Int) < (m : Int) - 1) = false := decide_eq_false (by omega)
          have hR := Lib.hid (show c.fits x = false by rw [hfit.out false hin.out]; rfl)
          clear h93
          go_wp2_with fail
          go_ret
          exact ⟨ret_bool hR.out.symm, hbel⟩
        · rw [itemsF_cons h93, ← drop_at hlt] at hI2
          clear h93
          cases hip : itemP (l.drop j) with
          | none => rw [hip] at hI2; cases hI2
          | some q =>
            obtain ⟨sp, r1⟩ := q
            rw [hip] at hI2
            simp only at hI2
            obtain ⟨n, hn1, hn2, hn3⟩ := drop_suf (itemP_suf hip) hj
            have hlen := itemP_len hip
            rw [List.length_drop] at hlen
            rw [← hn3] at hI2
            cases hrest : itemsF (l.drop n) with
            | none => rw [hrest] at hI2; cases hI2
            | some q =>
              obtain ⟨sps2, r2⟩ := q
              rw [hrest] at hI2
              simp only [Option.some.injEq, Prod.mk.injEq] at hI2
              obtain ⟨hsps, hrr⟩ := hI2
              subst hrr
              have hl2 := itemsP_len hrest
              rw [List.length_drop] at hl2
              have t1 : (j : Int) < (m : Int) - 1 := by omega
              have hii := Lib.hid (show endV l.length (itR (l.drop j)) = (n : Int) by unfold itR; rw [hip]; exact endV_at hn2)
              have hip2 := Lib.hid hip
              have hn0 : n ≤ l.length := by omega
              have hjn : j < n := by omega
              have hrest2 := Lib.hid hrest
              have hin2 := Lib.hid (show inSp c.sp x = (inSp sp x || inSp sps2 x) by rw [hin.out, ← hsps, inSp_app])
              clear hip hrest hsps hn3 hI hin hl2 hlen
              go_wp2_with fail
              refine (item_any l _ hl j hj _ hSr).mono ?_
              rintro e1 w1 ⟨rfl, hb1⟩
              rw [hii.out]
              have hSr1 := hSr.kept hb1
              have hbl := hbel.trans (hb1.mono hsz)
              go_wp2_with fail
              refine (fitsItem_any l _ hl j n x sp r1 hip2.out hn2 _ hSr1).mono ?_
              rintro e1 w2 ⟨rfl, rfl⟩
              cases hg : inSp sp x
              · have hin3 := Lib.hid (show inSp c.sp x = inSp sps2 x by rw [hin2.out, hg, Bool.false_or])
                clear hg
                go_wp2_with fail
                go_roundw
                case rel => exact ⟨n, sps2, hn0, rfl, hbl, hrest2, hin3⟩
                case measure => simp [intOf]; omega
              · have hR := Lib.hid (show c.fits x = !false by rw [hfit.out true (by rw [hin2.out, hg, Bool.true_or])]; rfl)
                clear hg
                go_wp2_with fail
                go_ret
                exact ⟨ret_bool hR.out.symm, hbl⟩
  rw [if_neg h91] at hkl
  have q91 : ((z : Int) == 91) = false := natEq_no h91
  by_cases h40 : z = 40
  · rw [if_pos h40] at hkl; cases hkl
  rw [if_neg h40] at hkl
  by_cases h92 : z = 92
  · subst h92
    rw [if_pos rfl] at hkl
    have hk2 : k + 1 < l.length := by
      rcases Nat.lt_or_ge (k + 1) l.length with h | h
      · exact h
      · rw [List.drop_eq_nil_of_le h] at hkl; cases hkl
    have q1 : (k : Int) + 1 < (l.length : Int) := by omega
    have c1 := hc.out (k + 1) hk2
    rw [drop_at hk2] at hkl
    obtain ⟨e, he⟩ : ∃ e, l[k + 1] = e := ⟨_, rfl⟩
    rw [he] at hkl c1
    obtain ⟨hrr, hE⟩ := fits_esc hkl x
    clear he hkl hrr h91 h40
    replace hE := Lib.hid hE
    go_wp2_with fail
    refine (in9_any e _ (by decide) _).mono ?_
    rintro e1 w' ⟨rfl, rfl⟩
    rw [in_6]
    rcases hE.out with ⟨h1, h2⟩ | ⟨h1, h1', h2⟩ | ⟨h1, h1', h2⟩
    · rw [decide_eq_true h1]
      replace h2 := Lib.hid h2
      have he87 : e ≤ 87 := by simp at h1; omega
      clear h1 hE
      go_wp2_with fail
      refine (named_any (e + 32) x _).mono ?_
      rintro e1 w' ⟨rfl, rfl⟩
      go_wp2_with fail
      go_ret
      exact ⟨ret_bool h2.out.symm, Below.refl _ _⟩
    · rw [decide_eq_false h1]
      replace h2 := Lib.hid h2
      have h1d := Lib.hid (decide_eq_true h1')
      clear h1 h1' hE
      go_wp2_with fail
      refine (in9_any e _ (by decide) _).mono ?_
      rintro e1 w' ⟨rfl, rfl⟩
      rw [in_3, h1d.out]
      go_wp2_with fail
      refine (named_any e x _).mono ?_
      rintro e1 w' ⟨rfl, rfl⟩
      go_wp2_with fail
      go_ret
      exact ⟨ret_bool h2.out.symm, Below.refl _ _⟩
    · rw [decide_eq_false h1]
      replace h2 := Lib.hid h2
      have h1d := Lib.hid (decide_eq_false h1')
      clear h1 h1' hE
      go_wp2_with fail
      refine (in9_any e _ (by decide) _).mono ?_
      rintro e1 w' ⟨rfl, rfl⟩
      rw [in_3, h1d.out]
      go_wp2_with fail
      go_ret
      exact ⟨ret_bool (by rw [h2.out, Bool.eq_iff_iff]; simp; try omega), Below.refl _ _⟩
  rw [if_neg h92] at hkl
  have q92 : ((z : Int) == 92) = false := natEq_no h92
  by_cases h46 : z = 46
  · rw [if_pos h46] at hkl
    cases hkl
    have q46 : ((z : Int) == 46) = true := natEq_yes h46
    have hR := Lib.hid (fits_dot x)
    clear h46 h91 h40 h92
    by_cases x10 : x = 10
    · have p1 : ((x : Int) != 10) = false := natNe_yes x10
      have hR2 := Lib.hid (show Klass.fits ⟨[(10, 10), (13, 13)], true⟩ x = false by rw [hR.out, x10]; rfl)
      clear x10
      go_wp2_with fail
      go_ret
      exact ⟨ret_bool hR2.out.symm, Below.refl _ _⟩
    · have p1 : ((x : Int) != 10) = true := natNe_no x10
      by_cases x13 : x = 13
      · have p2 : ((x : Int) != 13) = false := natNe_yes x13
        have hR2 := Lib.hid (show Klass.fits ⟨[(10, 10), (13, 13)], true⟩ x = false by rw [hR.out, x13]; rfl)
        clear x10 x13
        go_wp2_with fail
        go_ret
        exact ⟨ret_bool hR2.out.symm, Below.refl _ _⟩
      · have p2 : ((x : Int) != 13) = true := natNe_no x13
        have hR2 := Lib.hid (show Klass.fits ⟨[(10, 10), (13, 13)], true⟩ x = true by rw [hR.out, decide_eq_true x10, decide_eq_true x13]; rfl)
        clear x10 x13
        go_wp2_with fail
        go_ret
        exact ⟨ret_bool hR2.out.symm, Below.refl _ _⟩
  rw [if_neg h46] at hkl
  have q46 : ((z : Int) == 46) = false := natEq_no h46
  split at hkl
  · cases hkl
  cases hkl
  have hR := Lib.hid (one_fits z x)
  clear h46 h91 h40 h92
  go_wp2_with fail
  go_ret
  exact ⟨ret_bool (by rw [hR.out, Bool.eq_iff_iff]; simp; try omega), Below.refl _ _⟩
end Go.Proofs.YtfhgnnlhacjnkaaDoor
