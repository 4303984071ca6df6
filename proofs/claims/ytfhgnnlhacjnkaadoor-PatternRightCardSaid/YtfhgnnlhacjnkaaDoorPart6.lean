import Derived.Test.YtfhgnnlhacjnkaaDoorPart5
import Derived.Laws.Cells
import Derived.Laws.CopyRow
import Derived.Laws.AppendOwnNone
import Derived.Deep.QuietTactic
/-
  The pattern's reader: sign: the walk.
-/
namespace Go.Proofs.YtfhgnnlhacjnkaaDoor
set_option linter.unusedVariables false
set_option linter.unusedSimpArgs false
open Go.RowKit PT

/-- what a sign of a class gives: its spans, whether it is one alone, what is left, the mark -/
def SignR (r : Nat) (X : List Nat) (d : Int) (b : Bool) (w : World) (e : Ending) (w' : World) : Prop := ∃ (v : Value) (one : Bool) (X' : List Nat) (b' : Bool) (sp : List (Int × Int)), e = .returned (.tuple #[v, .bool one]) ∧ RD r X' d b' w' ∧ Rd r w w' ∧ Fresh w.heap.size sp v w' ∧
  (b = true → b' = true) ∧ X'.length ≤ X.length ∧ (b = false → match signP X with
    | none => b' = true
    | some (sp', one', X'') => b' = false ∧ X' = X'' ∧ one = one' ∧ sp = spI sp')
theorem asc_1 : ∀ b ∈ (ByteArray.mk #[92, 91, 93, 94, 45, 47, 46]).data.toList, b.toNat < 128 := by decide
theorem asc_2 : ∀ b ∈ (ByteArray.mk #[91, 93, 94, 45]).data.toList, b.toNat < 128 := by decide
theorem in_7 (c : Nat) : inN c (ByteArray.mk #[92, 91, 93, 94, 45, 47, 46]).data.toList = decide (c ∈ [92, 91, 93, 94, 45, 47, 46]) := inN_of rfl
set_option maxHeartbeats 4000000 in
set_option maxRecDepth 100000 in
theorem sign9_any (r : Nat) (X : List Nat) (d : Int) (b : Bool) (w : World) (hR : RD r X d b w) :
    Calls Tryd.prog 53 #[rp r] w fun e w' => SignR r X d b w e w' := by
  have hmx := hR.max
  have hRR := Lib.hid hR
  clear hR
  go_enter Tryd.func53, Tryd.ntmps53
  cases X with
  | nil =>
    go_wp2_with fail
    refine (take_any r _ d b _ hRR.out).mono ?_
    rintro e w1 ⟨rfl, hR1, hd1⟩
    obtain ⟨s, c0, c1, c2, f0, f1, f2, hs, hv, hX⟩ := hR1.at
    rw [show hdI [] = -1 from rfl]
    have hRb := hR1.setBad true
    have hwb := hd1.trans (Rd.setCell r 2 (.bool true) w1)
    have hn0 := Go.heap_alloc_new (w1.setCell ⟨r, 2, none⟩ (.bool true)) (.cells #[.int .i32 (-1), .int .i32 (-1)] 77)
    rw [show (w1.setCell ⟨r, 2, none⟩ (.bool true)).heap.size = w1.heap.size by simp [World.setCell]] at hn0
    have hb0 := (Below.refl _ (w1.setCell ⟨r, 2, none⟩ (.bool true))).alloc (Nat.le_refl _) (.cells #[.int .i32 (-1), .int .i32 (-1)] 77)
    have hfin := Lib.hid (hRb.kept hb0)
    have hrdw := Lib.hid (hwb.trans (Rd.of_below (r := r) hb0))
    have hsz9 := Lib.hid (hd1.size)
    have hn9 := Lib.hid hn0
    clear hn0 hb0 hRb hwb
    go_wp2_with fail
    go_ret2
    exact ⟨_, true, _, true, [((-1), (-1))], rfl, hfin.out, hrdw.out, ⟨_, _, rfl, hsz9.out, by simp, by simp, hn9.out⟩, fun _ => rfl, Nat.zero_le _, fun _ => rfl⟩
  | cons c R =>
    have hcm := hmx c List.mem_cons_self
    by_cases h92 : c = 92
    case neg =>
      have q92 : ((c : Int) == 92) = false := natEq_no h92
      have q0 : decide ((c : Int) < 0) = false := decide_eq_false (by omega)
      have q00 : (0 : Int) ≤ (c : Int) := by omega
      have hS := Lib.hid (signP_cons c R h92)
      clear h92 hmx
      go_wp2_with fail
      refine (take_any r _ d b _ hRR.out).mono ?_
      rintro e w1 ⟨rfl, hR1, hd1⟩
      rw [show hdI (c :: R) = (c : Int) from rfl]
      rw [show (b || decide (c :: R = [])) = b by simp] at hR1
      rw [show (c :: R).drop 1 = R from rfl] at hR1
      go_wp2_with fail
      refine (containsRune_any _ (by decide) asc_2 c hcm _).mono ?_
      rintro e w2 ⟨rfl, hb2⟩
      rw [in_1]
      have hR2 := hR1.kept hb2
      have hd2 := hd1.trans (Rd.of_below (r := r) hb2)
      obtain ⟨s, c0, c1, c2, f0, f1, f2, hs, hv, hX⟩ := hR2.at
      by_cases hm : c ∈ [91, 93, 94, 45]
      · rw [decide_eq_true hm]
        have hS2 := Lib.hid (hS.out.trans (if_pos hm))
        clear hm
        have hRb := hR2.setBad true
        have hwb := hd2.trans (Rd.setCell r 2 (.bool true) w2)
        have hn0 := Go.heap_alloc_new (w2.setCell ⟨r, 2, none⟩ (.bool true)) (.cells #[.int .i32 (c : Int), .int .i32 (c : Int)] 77)
        rw [show (w2.setCell ⟨r, 2, none⟩ (.bool true)).heap.size = w2.heap.size by simp [World.setCell]] at hn0
        have hb0 := (Below.refl _ (w2.setCell ⟨r, 2, none⟩ (.bool true))).alloc (Nat.le_refl _) (.cells #[.int .i32 (c : Int), .int .i32 (c : Int)] 77)
        have hfin := Lib.hid (hRb.kept hb0)
        have hrdw := Lib.hid (hwb.trans (Rd.of_below (r := r) hb0))
        have hsz9 := Lib.hid (hd2.size)
        have hn9 := Lib.hid hn0
        clear hn0 hb0 hRb hwb
        go_wp2_with fail
        go_ret2
        exact ⟨_, true, R, true, [((c : Int), (c : Int))], rfl, hfin.out, hrdw.out, ⟨_, _, rfl, hsz9.out, by simp, by simp, hn9.out⟩, fun _ => rfl, by first | (simp only [List.length_cons]; omega) | simp, fun _ => by rw [hS2.out]⟩
      · rw [decide_eq_false hm]
        have hS2 := Lib.hid (hS.out.trans (if_neg hm))
        clear hm
        have hn0 := Go.heap_alloc_new w2 (.cells #[.int .i32 (c : Int), .int .i32 (c : Int)] 77)
        have hb0 := (Below.refl _ w2).alloc (Nat.le_refl _) (.cells #[.int .i32 (c : Int), .int .i32 (c : Int)] 77)
        have hfin := Lib.hid (hR2.kept hb0)
        have hrdw := Lib.hid (hd2.trans (Rd.of_below (r := r) hb0))
        have hsz9 := Lib.hid (hd2.size)
        have hn9 := Lib.hid hn0
        clear hn0 hb0
        go_wp2_with fail
        go_ret2
        exact ⟨_, true, R, b, [((c : Int), (c : Int))], rfl, hfin.out, hrdw.out, ⟨_, _, rfl, hsz9.out, by simp, by simp, hn9.out⟩, fun h => h, by first | (simp only [List.length_cons]; omega) | simp, fun h => by rw [hS2.out]; exact ⟨h, rfl, rfl, rfl⟩⟩
    subst h92
    have hS := Lib.hid (signP_esc R)
    go_wp2_with fail
    refine (take_any r _ d b _ hRR.out).mono ?_
    rintro e w1 ⟨rfl, hR1, hd1⟩
    rw [show hdI (92 :: R) = (92 : Int) from rfl]
    rw [show (b || decide (92 :: R = [])) = b by simp] at hR1
    rw [show (92 :: R).drop 1 = R from rfl] at hR1
    go_wp2_with fail
    refine (take_any r _ d b _ hR1).mono ?_
    rintro e w2 ⟨rfl, hR2, hd2⟩
    replace hd2 := hd1.trans hd2
    cases R with
    | nil =>
      rw [show hdI [] = -1 from rfl]
      obtain ⟨s, c0, c1, c2, f0, f1, f2, hs, hv, hX⟩ := hR2.at
      have hRb := hR2.setBad true
      have hwb := hd2.trans (Rd.setCell r 2 (.bool true) w2)
      have hn0 := Go.heap_alloc_new (w2.setCell ⟨r, 2, none⟩ (.bool true)) (.cells #[.int .i32 (-1), .int .i32 (-1)] 77)
      rw [show (w2.setCell ⟨r, 2, none⟩ (.bool true)).heap.size = w2.heap.size by simp [World.setCell]] at hn0
      have hb0 := (Below.refl _ (w2.setCell ⟨r, 2, none⟩ (.bool true))).alloc (Nat.le_refl _) (.cells #[.int .i32 (-1), .int .i32 (-1)] 77)
      have hfin := Lib.hid (hRb.kept hb0)
      have hrdw := Lib.hid (hwb.trans (Rd.of_below (r := r) hb0))
      have hsz9 := Lib.hid (hd2.size)
      have hn9 := Lib.hid hn0
      clear hn0 hb0 hRb hwb
      go_wp2_with fail
      go_ret2
      exact ⟨_, true, _, true, [((-1), (-1))], rfl, hfin.out, hrdw.out, ⟨_, _, rfl, hsz9.out, by simp, by simp, hn9.out⟩, fun _ => rfl, by first | (simp only [List.length_cons]; omega) | simp, fun _ => by rw [hS.out]⟩
    | cons e R =>
      have hem := hmx e (by simp)
      rw [show hdI (e :: R) = (e : Int) from rfl]
      rw [show (b || decide (e :: R = [])) = b by simp] at hR2
      rw [show (e :: R).drop 1 = R from rfl] at hR2
      have q0 : decide ((e : Int) < 0) = false := decide_eq_false (by omega)
      have q00 : (0 : Int) ≤ (e : Int) := by omega
      by_cases hnm : e = 100 ∨ e = 119 ∨ e = 115
      · have hS2 := Lib.hid (hS.out.trans (if_pos hnm))
        have hne : someP e ≠ none := by rcases hnm with rfl | rfl | rfl <;> decide
        have hne2 := Lib.hid hne
        have hlen2 := hd2.size
        rcases hnm with rfl | rfl | rfl
        · go_wp2_with fail
          refine (some_any _ _).mono ?_
          rintro e3 w3 ⟨h3, hb3⟩
          rcases h3 with ⟨h4, _⟩ | ⟨sp, v, _, hsp, rfl, hfr⟩
          · exfalso; rcases h4 with h4 | h4
            · omega
            · exact hne2.out h4
          have hfin := Lib.hid (hR2.kept hb3)
          have hrdw := Lib.hid (hd2.trans (Rd.of_below (r := r) hb3))
          have hspp := Lib.hid (show someP 100 = some sp from hsp)
          have hfr2 := Lib.hid (show Fresh w.heap.size (spI sp) v w3 by obtain ⟨g, cap, h1, h2, h3, h4⟩ := hfr; exact ⟨g, cap, h1, by omega, h3, h4⟩)
          clear hsp hfr
          go_wp2_with fail
          go_ret2
          exact ⟨v, false, R, b, spI sp, rfl, hfin.out, hrdw.out, hfr2.out, fun h => h, by first | (simp only [List.length_cons]; omega) | simp, fun h => by rw [hS2.out]; exact ⟨h, rfl, rfl, by rw [hspp.out]; rfl⟩⟩
        · go_wp2_with fail
          refine (some_any _ _).mono ?_
          rintro e3 w3 ⟨h3, hb3⟩
          rcases h3 with ⟨h4, _⟩ | ⟨sp, v, _, hsp, rfl, hfr⟩
          · exfalso; rcases h4 with h4 | h4
            · omega
            · exact hne2.out h4
          have hfin := Lib.hid (hR2.kept hb3)
          have hrdw := Lib.hid (hd2.trans (Rd.of_below (r := r) hb3))
          have hspp := Lib.hid (show someP 119 = some sp from hsp)
          have hfr2 := Lib.hid (show Fresh w.heap.size (spI sp) v w3 by obtain ⟨g, cap, h1, h2, h3, h4⟩ := hfr; exact ⟨g, cap, h1, by omega, h3, h4⟩)
          clear hsp hfr
          go_wp2_with fail
          go_ret2
          exact ⟨v, false, R, b, spI sp, rfl, hfin.out, hrdw.out, hfr2.out, fun h => h, by first | (simp only [List.length_cons]; omega) | simp, fun h => by rw [hS2.out]; exact ⟨h, rfl, rfl, by rw [hspp.out]; rfl⟩⟩
        · go_wp2_with fail
          refine (some_any _ _).mono ?_
          rintro e3 w3 ⟨h3, hb3⟩
          rcases h3 with ⟨h4, _⟩ | ⟨sp, v, _, hsp, rfl, hfr⟩
          · exfalso; rcases h4 with h4 | h4
            · omega
            · exact hne2.out h4
          have hfin := Lib.hid (hR2.kept hb3)
          have hrdw := Lib.hid (hd2.trans (Rd.of_below (r := r) hb3))
          have hspp := Lib.hid (show someP 115 = some sp from hsp)
          have hfr2 := Lib.hid (show Fresh w.heap.size (spI sp) v w3 by obtain ⟨g, cap, h1, h2, h3, h4⟩ := hfr; exact ⟨g, cap, h1, by omega, h3, h4⟩)
          clear hsp hfr
          go_wp2_with fail
          go_ret2
          exact ⟨v, false, R, b, spI sp, rfl, hfin.out, hrdw.out, hfr2.out, fun h => h, by first | (simp only [List.length_cons]; omega) | simp, fun h => by rw [hS2.out]; exact ⟨h, rfl, rfl, by rw [hspp.out]; rfl⟩⟩
      · have p1 : ((e : Int) == 100) = false := natEq_no (fun h => hnm (.inl h))
        have p2 : ((e : Int) == 119) = false := natEq_no (fun h => hnm (.inr (.inl h)))
        have p3 : ((e : Int) == 115) = false := natEq_no (fun h => hnm (.inr (.inr h)))
        have hS1 := Lib.hid (hS.out.trans (if_neg hnm))
        clear hnm
        go_wp2_with fail
        refine (containsRune_any _ (by decide) asc_1 e hem _).mono ?_
        rintro e3 w3 ⟨rfl, hb3⟩
        rw [in_7]
        have hR3 := hR2.kept hb3
        have hd3 := hd2.trans (Rd.of_below (r := r) hb3)
        obtain ⟨s, c0, c1, c2, f0, f1, f2, hs, hv, hX⟩ := hR3.at
        by_cases hm : e ∈ [92, 91, 93, 94, 45, 47, 46]
        · rw [decide_eq_true hm]
          have hS2 := Lib.hid (hS1.out.trans (if_pos hm))
          clear hm
          have hn0 := Go.heap_alloc_new w3 (.cells #[.int .i32 (e : Int), .int .i32 (e : Int)] 77)
          have hb0 := (Below.refl _ w3).alloc (Nat.le_refl _) (.cells #[.int .i32 (e : Int), .int .i32 (e : Int)] 77)
          have hfin := Lib.hid (hR3.kept hb0)
          have hrdw := Lib.hid (hd3.trans (Rd.of_below (r := r) hb0))
          have hsz9 := Lib.hid (hd3.size)
          have hn9 := Lib.hid hn0
          clear hn0 hb0
          go_wp2_with fail
          go_ret2
          exact ⟨_, true, R, b, [((e : Int), (e : Int))], rfl, hfin.out, hrdw.out, ⟨_, _, rfl, hsz9.out, by simp, by simp, hn9.out⟩, fun h => h, by first | (simp only [List.length_cons]; omega) | simp, fun h => by rw [hS2.out]; exact ⟨h, rfl, rfl, rfl⟩⟩
        · rw [decide_eq_false hm]
          have hS2 := Lib.hid (hS1.out.trans (if_neg hm))
          clear hm
          have hRb := hR3.setBad true
          have hwb := hd3.trans (Rd.setCell r 2 (.bool true) w3)
          have hn0 := Go.heap_alloc_new (w3.setCell ⟨r, 2, none⟩ (.bool true)) (.cells #[.int .i32 (e : Int), .int .i32 (e : Int)] 77)
          rw [show (w3.setCell ⟨r, 2, none⟩ (.bool true)).heap.size = w3.heap.size by simp [World.setCell]] at hn0
          have hb0 := (Below.refl _ (w3.setCell ⟨r, 2, none⟩ (.bool true))).alloc (Nat.le_refl _) (.cells #[.int .i32 (e : Int), .int .i32 (e : Int)] 77)
          have hfin := Lib.hid (hRb.kept hb0)
          have hrdw := Lib.hid (hwb.trans (Rd.of_below (r := r) hb0))
          have hsz9 := Lib.hid (hd3.size)
          have hn9 := Lib.hid hn0
          clear hn0 hb0 hRb hwb
          go_wp2_with fail
          go_ret2
          exact ⟨_, true, R, true, [((e : Int), (e : Int))], rfl, hfin.out, hrdw.out, ⟨_, _, rfl, hsz9.out, by simp, by simp, hn9.out⟩, fun _ => rfl, by first | (simp only [List.length_cons]; omega) | simp, fun _ => by rw [hS2.out]⟩
end Go.Proofs.YtfhgnnlhacjnkaaDoor

/-
  A ROW THAT THE CALL ITSELF BUILDS, whatever its elements are.
-/
namespace Go.Proofs.YtfhgnnlhacjnkaaDoor
set_option linter.unusedVariables false
set_option linter.unusedSimpArgs false
open Go.RowKit

theorem flat_get {α : Type} {f : α → List Value} {m : Nat} (hf : ∀ x, (f x).length = m) : ∀ (es : List α) (j : Nat) (e : α), es[j]? = some e → ∀ i u, (f e)[i]? = some u → (es.flatMap f)[j * m + i]? = some u
  | [], _, _, h => by simp at h
  | x :: r, 0, e, h => fun i u hu => by
    simp at h; subst h
    have hi : i < m := by rw [← hf x]; exact (List.getElem?_eq_some_iff.1 hu).1
    rw [List.flatMap_cons, List.getElem?_append_left (by rw [hf]; omega), Nat.zero_mul, Nat.zero_add]
    exact hu
  | x :: r, j + 1, e, h => fun i u hu => by
    simp at h
    have := flat_get hf r j e h i u hu
    rw [List.flatMap_cons, List.getElem?_append_right (by rw [hf, Nat.add_mul]; omega), hf, show (j + 1) * m + i - m = j * m + i by rw [Nat.add_mul]; omega]
    exact this
theorem flat_size {α : Type} {f : α → List Value} {m : Nat} (hf : ∀ x, (f x).length = m) (es : List α) : (es.flatMap f).length = es.length * m := by
  induction es with
  | nil => simp
  | cons e r ih => rw [List.flatMap_cons, List.length_append, ih, hf, List.length_cons, Nat.add_mul]; omega
/-- a source, cell by cell -/
theorem flat_src {α : Type} {f : α → List Value} {m : Nat} (hm : 0 < m) (hf : ∀ x, (f x).length = m) {es : List α} {b off : Nat} {W : World} (hc : ∀ j e, es[j]? = some e → ∀ i u, (f e)[i]? = some u → W.cell? ⟨b, off + j * m + i, none⟩ = some u) :
    ∀ j u, (es.flatMap f)[j]? = some u → W.cell? ((⟨b, off, none⟩ : Addr).add j) = some u := by
  intro j u hj
  have hjl : j < es.length * m := by rw [← flat_size hf]; exact (List.getElem?_eq_some_iff.1 hj).1
  have hq : j / m < es.length := Nat.div_lt_of_lt_mul (by rw [Nat.mul_comm]; exact hjl)
  have hr : j % m < m := Nat.mod_lt _ hm
  have hcell := hc (j / m) es[j / m] (List.getElem?_eq_getElem hq) (j % m) ((f es[j / m])[j % m]'(by rw [hf]; omega)) (List.getElem?_eq_getElem _)
  have hg := flat_get hf es (j / m) es[j / m] (List.getElem?_eq_getElem hq) (j % m) ((f es[j / m])[j % m]'(by rw [hf]; omega)) (List.getElem?_eq_getElem _)
  have e5 : j / m * m + j % m = j := by rw [Nat.mul_comm]; exact Nat.div_add_mod j m
  rw [e5, hj] at hg
  cases hg
  rw [addr_add, show off + j = off + j / m * m + j % m by omega]
  exact hcell
/-- an own row's cells -/
theorem own_cell {base : Nat} {T : TypeId} {sz n : Nat} {xs : List Value} {v : Value} {w : World} (h : w.ownsRow base T sz v n xs) (hn : xs ≠ []) : ∃ g cap, v = .slice (some ⟨g, 0, none⟩) n cap ∧ n ≤ cap ∧ base ≤ g ∧ g < w.heap.size ∧ ∀ j u, xs[j]? = some u → w.cell? ⟨g, j, none⟩ = some u := by
  have h0 := h
  obtain ⟨hl, ⟨rfl, h1⟩ | ⟨g, cap, cur, rfl, h2, h3, h4, _⟩⟩ := h
  · rw [h1, Nat.zero_mul] at hl
    exact absurd (List.length_eq_zero_iff.1 hl) hn
  · refine ⟨g, cap, rfl, h4, h2, (Array.getElem?_eq_some_iff.1 h3).1, fun j u hu => ?_⟩
    have := h0.cells (g := g) rfl j u hu
    rwa [addr_add, Nat.zero_add] at this
theorem own_form {base : Nat} {T : TypeId} {sz n : Nat} {xs : List Value} {v : Value} {w : World} (h : w.ownsRow base T sz v n xs) : ∃ a cap, v = .slice a n cap ∧ (a = none → cap = 0) := by
  obtain ⟨_, ⟨rfl, h1⟩ | ⟨g, cap, cur, rfl, _⟩⟩ := h
  · exact ⟨none, 0, by rw [h1], fun _ => rfl⟩
  · exact ⟨_, _, rfl, fun e => by cases e⟩
/-- rows of two types share no block -/
theorem own_ne {b1 b2 : Nat} {T1 T2 : TypeId} {z1 z2 n1 n2 : Nat} {x1 x2 : List Value} {v1 v2 : Value} {w : World} (h1 : w.ownsRow b1 T1 z1 v1 n1 x1) (h2 : w.ownsRow b2 T2 z2 v2 n2 x2) (hT : T1 ≠ T2) : v1.ownBlock = none ∨ v1.ownBlock ≠ v2.ownBlock := by
  obtain ⟨_, ⟨rfl, _⟩ | ⟨g, cap, cur, rfl, _, hg, _⟩⟩ := h1
  · exact .inl rfl
  · obtain ⟨_, ⟨rfl, _⟩ | ⟨g', cap', cur', rfl, _, hg', _⟩⟩ := h2
    · exact .inr (fun e => by cases e)
    · refine .inr (fun e => ?_)
      have e' : g = g' := by simpa [Value.ownBlock] using e
      subst e'
      rw [hg] at hg'
      cases hg'
      exact hT rfl
theorem own_keep {base : Nat} {T : TypeId} {sz n : Nat} {xs : List Value} {v : Value} {w w' : World} (h : w.ownsRow base T sz v n xs) (hb : Below w.heap.size w w') : w'.ownsRow base T sz v n xs := by
  obtain ⟨h1, ⟨rfl, hn⟩ | ⟨g, cap, cur, rfl, h2, h3, h4⟩⟩ := h
  · exact ⟨h1, .inl ⟨rfl, hn⟩⟩
  · refine ⟨h1, .inr ⟨g, cap, cur, rfl, h2, ?_, h4⟩⟩
    rw [hb.block g (Array.getElem?_eq_some_iff.1 h3).1]; exact h3
theorem grown_refl (w : World) (row : Option Nat) : w.grownBy w row := ⟨rfl, rfl, rfl, Nat.le_refl _, fun _ _ _ => rfl⟩
theorem own_below {base : Nat} {T : TypeId} {sz n : Nat} {xs : List Value} {w w' : World} {v : Value} (h : w.ownsRow base T sz v n xs) (hg : w.grownBy w' v.ownBlock) (hb : base ≤ w.heap.size) : Below base w w' :=
  (Below.refl base w).grown hg hb (fun k hk => (h.lt k hk).1)
/-- 'out = append(out, l...)' whatever l's elements are, and where it is nil -/
theorem wpList_append_any {W : World} {ops : Array Oper} {rest : List Oper} {o : Oper} {a : Act} {Q : Exit → Act → World → Prop} (hgd : o.guard = none) (s x : Operand) (S T : TypeId) {z : Value} {size bytes : Nat}
    (ho : o.op = .call { callee := .builtin .append, args := #[s, x], argTypes := #[S, S] }) (hS : Tryd.prog.underlying S = some (.slice T))
    (hinfo : (Tryd.prog.info? T).map (fun i => (i.zero, i.size, i.bytes)) = some (some z, size, bytes)) (hz : z.cells.size = size) (hsz : 0 < size)
    {base n : Nat} {xs : List Value} {v : Value} (hs : a.eval s = v) {ao : Option Addr} {m cap : Nat} {news : List Value} (hx : a.eval x = .slice ao m cap) (hao : ao = none → m = 0 ∧ cap = 0) (hl : news.length = m * size)
    (hnews : ∀ ad, ao = some ad → ∀ j u, news[j]? = some u → W.cell? (ad.add j) = some u) (hu : ∀ u ∈ news, u.oneCell' = true)
    (hown : W.ownsRow base T size v n xs) (hlen : n + m ≤ maxLen) (hby : (n + m) * bytes ≤ 140737488355328) (hbase : base ≤ W.heap.size)
    (h : ∀ v' w', w'.ownsRow base T size v' (n + m) (xs ++ news) → W.grownBy w' v.ownBlock → wpList Tryd.prog ops Q rest (a.put o.dst v') w') : wpList Tryd.prog ops Q (o :: rest) a W := by
  obtain ⟨i0, hi, hz0, hz1, hz2⟩ := info_parts hinfo
  cases ao with
  | none =>
    obtain ⟨rfl, rfl⟩ := hao rfl
    have hn : news = [] := List.length_eq_zero_iff.1 (by rw [hl, Nat.zero_mul])
    subst hn
    refine wpList_append_own_none hgd s x S ho base T i0 size hS hi v n xs hs hown hx (h v W ?_ (grown_refl _ _))
    rw [List.append_nil, Nat.add_zero]
    exact hown
  | some ad =>
    exact wpList_append_own _ hgd s x S ho base T i0 z size bytes hS hi hz0 hz1 hz2 hz hsz v n xs hs hown ad m cap news hx hl (hnews ad rfl) hu hlen hby hbase fun v' w1 h1 h2 _ => h v' w1 h1 h2

/-- the same in a region that draws its order -/
theorem step_append_any {W : World} {ops : Array Oper} {o : Oper} {a : Act} {K : Act → World → Prop} {Q : Exit → Act → World → Prop} {E : Prop} (hgd : o.guard = none) (s x : Operand) (S T : TypeId) {z : Value} {size bytes : Nat}
    (ho : o.op = .call { callee := .builtin .append, args := #[s, x], argTypes := #[S, S] }) (hS : Tryd.prog.underlying S = some (.slice T))
    (hinfo : (Tryd.prog.info? T).map (fun i => (i.zero, i.size, i.bytes)) = some (some z, size, bytes)) (hz : z.cells.size = size) (hsz : 0 < size)
    {base n : Nat} {xs : List Value} {v : Value} (hs : a.eval s = v) {ao : Option Addr} {m cap : Nat} {news : List Value} (hx : a.eval x = .slice ao m cap) (hao : ao = none → m = 0 ∧ cap = 0) (hl : news.length = m * size)
    (hnews : ∀ ad, ao = some ad → ∀ j u, news[j]? = some u → W.cell? (ad.add j) = some u) (hu : ∀ u ∈ news, u.oneCell' = true)
    (hown : W.ownsRow base T size v n xs) (hlen : n + m ≤ maxLen) (hby : (n + m) * bytes ≤ 140737488355328) (hbase : base ≤ W.heap.size)
    (h : ∀ v' w', w'.ownsRow base T size v' (n + m) (xs ++ news) → W.grownBy w' v.ownBlock → K (a.put o.dst v') w') : if Region.wanted o (yielded ops a.tmps) then o.wp Tryd.prog a W K Q else E := by
  have hw : Region.wanted o (yielded ops a.tmps) = true := by simp [Region.wanted, hgd]
  rw [if_pos hw]
  obtain ⟨i0, hi, hz0, hz1, hz2⟩ := info_parts hinfo
  cases ao with
  | none =>
    obtain ⟨rfl, rfl⟩ := hao rfl
    have hn : news = [] := List.length_eq_zero_iff.1 (by rw [hl, Nat.zero_mul])
    subst hn
    have hrun := run_append_owned_none (P := Tryd.prog) (w := W) base S o.type T i0 size hS hi v n xs hown
    unfold Oper.wp
    simp [execOp, ho, resolve, invoke, builtin, hs, hx, hrun, Result.andThen]
    refine h v W ?_ (grown_refl _ _)
    rw [List.append_nil, Nat.add_zero]
    exact hown
  | some ad =>
    exact wp_append_own _ s x S ho base T i0 z size bytes hS hi hz0 hz1 hz2 hz hsz v n xs hs hown ad m cap news hx hl (hnews ad rfl) hu hlen hby hbase fun v' w1 h1 h2 _ => h v' w1 h1 h2

end Go.Proofs.YtfhgnnlhacjnkaaDoor

/-
  The pattern's reader: class: the walk.
-/
namespace Go.Proofs.YtfhgnnlhacjnkaaDoor
set_option linter.unusedVariables false
set_option linter.unusedSimpArgs false
open Go.RowKit PT

/-- what is left to read of a class -/
def remP (fb : Bool) (X : List Nat) : Option (List (Nat × Nat) × List Nat) := if fb then bodyP X else itemsF X
theorem rem_go {fb : Bool} {X : List Nat} (h : fb = true ∨ hdI X ≠ 93) : remP fb X = (match itemP X with
    | none => none
    | some (sp, r1) => match itemsF r1 with
      | none => none
      | some (sps, r2) => some (sp ++ sps, r2)) := by
  unfold remP
  cases fb with
  | true => exact bodyP_eq X
  | false =>
    have h2 : hdI X ≠ 93 := h.elim (fun h => by cases h) id
    cases X with
    | nil => rfl
    | cons c X =>
      have hc : c ≠ 93 := fun e => h2 (by rw [e]; rfl)
      exact itemsF_cons hc
theorem rem_end (X : List Nat) : remP false (93 :: X) = some ([], X) := itemsF_end X
/-- how far the reader is from the end of its loop -/
def measR (r : Nat) (w : World) : Nat := match w.cell? ⟨r, 2, none⟩ with
  | some (.bool true) => 0
  | _ => match w.cell? ⟨r, 0, none⟩ with
    | some (.string s) => 1 + (sigs s.data.toList).length
    | _ => 0
theorem measR_eq {r : Nat} {X : List Nat} {d : Int} {b : Bool} {w : World} (h : RD r X d b w) : measR r w = if b then 0 else 1 + X.length := by
  obtain ⟨s, c0, c1, c2, _, _, _, _, _, hX⟩ := h.at
  unfold measR
  rw [c2]
  cases b with
  | true => rfl
  | false => simp only [c0]; rw [hX.out]; rfl
/-- a row of spans of one's own -/
abbrev SpRow (base : Nat) (sp : List (Int × Int)) (v : Value) (w : World) : Prop := w.ownsRow base 77 2 v sp.length (sp.flatMap spanV)
theorem info_span : (Tryd.prog.info? 77).map (fun i => (i.zero, i.size, i.bytes)) = some (some (.agg #[.int .i32 0, .int .i32 0]), 2, 8) := by kernel_rfl
theorem spanV_len (p : Int × Int) : (spanV p).length = 2 := rfl
theorem spanV_one (sp : List (Int × Int)) : ∀ u ∈ sp.flatMap spanV, u.oneCell' = true := by
  intro u hu
  obtain ⟨p, _, hp⟩ := List.mem_flatMap.1 hu
  simp only [spanV, List.mem_cons, List.not_mem_nil, or_false] at hp
  rcases hp with rfl | rfl <;> rfl
theorem spA_get {sp : List (Int × Int)} {j : Nat} {u : Value} (h : (sp.flatMap spanV)[j]? = some u) {g : Nat} {w : World} (hg : w.heap[g]? = some (.cells (spA sp) 77 (0, 0))) : w.cell? ⟨g, j, none⟩ = some u := by
  simp only [World.cell?, hg, spA]
  rw [List.getElem?_toArray]
  exact h
def clsP2 (neg : Bool) (XS : List Nat) : Option (Klass × List Nat) := (bodyP XS).map fun q => (⟨q.1, neg⟩, q.2)
theorem classP_two (X : List Nat) : classP X = (match X with
    | [] => none
    | c :: R => if c = 94 then clsP2 true R else clsP2 false (c :: R)) := rfl
/-- what a class gives: its pointer, what is left, the mark -/
def KlsR (r : Nat) (X : List Nat) (d : Int) (b : Bool) (w : World) (e : Ending) (w' : World) : Prop := ∃ (g : Nat) (X' : List Nat) (b' : Bool), e = .returned (.iface 57 (.pointer (some ⟨g, 0, none⟩))) ∧ RD r X' d b' w' ∧ Rd r w w' ∧ X'.length ≤ X.length ∧ (b = true → b' = true) ∧
  (b = false → match classP X with
    | none => b' = true
    | some (c, X'') => b' = false ∧ X' = X'' ∧ ClsV (Ge w.heap.size) 57 (clsL c.fits) (.iface 57 (.pointer (some ⟨g, 0, none⟩))) w')
theorem rd_blk {r g : Nat} {w w' : World} {o : Obj} (h : Rd r w w') (hg : w.heap[g]? = some o) (hr : g ≠ r) : w'.heap[g]? = some o := by
  rw [h.block g (Array.getElem?_eq_some_iff.1 hg).1 hr, hg]
theorem own_rd {base r : Nat} {T : TypeId} {sz n : Nat} {xs : List Value} {v : Value} {w w' : World} (h : w.ownsRow base T sz v n xs) (hb : Rd r w w') (hr : r < base) : w'.ownsRow base T sz v n xs := by
  obtain ⟨h1, ⟨rfl, hn⟩ | ⟨g, cap, cur, rfl, h2, h3, h4⟩⟩ := h
  · exact ⟨h1, .inl ⟨rfl, hn⟩⟩
  · exact ⟨h1, .inr ⟨g, cap, cur, rfl, h2, by rw [hb.block g (Array.getElem?_eq_some_iff.1 h3).1 (by omega)]; exact h3, h4⟩⟩
/-- what of a class is read so far -/
def KlsSt (r g : Nat) (X : List Nat) (d : Int) (b : Bool) (neg : Bool) (XS : List Nat) (w wr : World) (fb : Bool) : Prop := ∃ (X' : List Nat) (b' : Bool) (allS : List (Int × Int)) (vs : Value), RD r X' d b' wr ∧ Rd r w wr ∧ wr.heap[g]? = some (.cells #[vs, .bool neg] 75 (0, 0)) ∧ SpRow (g + 1) allS vs wr ∧ X'.length ≤ X.length ∧ (b = true → b' = true) ∧
    allS.length ≤ 5000 ∧ (b' = false → allS.length + 4 * X'.length ≤ 804 ∧ (b = false → ∃ done : List (Nat × Nat), allS = spI done ∧ bodyP XS = (remP fb X').map (fun q => (done ++ q.1, q.2)))) ∧ (b = false → b' = true → bodyP XS = none)
theorem two_of {W : World} {g : Nat} {a b : Value} {t : TypeId} (h : W.heap[g]? = some (.cells #[a, b] t (0, 0))) : W.cell? ⟨g, 0, none⟩ = some a ∧ W.cell? ⟨g, 1, none⟩ = some b ∧ W.frozen? ⟨g, 0, none⟩ = false ∧ W.frozen? ⟨g, 1, none⟩ = false := by
  simp [World.cell?, World.frozen?, h]
theorem span_row {sp : List (Nat × Nat)} : (spI sp).flatMap spanV = sp.flatMap spanCells := by
  unfold spI
  rw [List.flatMap_map]
  rfl
theorem own_max {base : Nat} {T : TypeId} {sz n : Nat} {xs : List Value} {v : Value} {w : World} (h : w.ownsRow base T sz v n xs) : n ≤ 9223372036854775807 := by
  obtain ⟨_, ⟨_, h1⟩ | ⟨_, cap, _, _, _, _, h2, h3, _⟩⟩ := h
  · omega
  · unfold maxLen at h3
    omega
/-- the class is read: how it lies -/
theorem cls_lies {B g : Nat} {sp : List (Nat × Nat)} {neg : Bool} {vs : Value} {w : World} (hg : w.heap[g]? = some (.cells #[vs, .bool neg] 75 (0, 0))) (hB : B ≤ g) (hrow : SpRow (g + 1) (spI sp) vs w) : ClsV (Ge B) 57 (clsL (Klass.fits ⟨sp, neg⟩)) (.iface 57 (.pointer (some ⟨g, 0, none⟩))) w := by
  obtain ⟨c0, c1, _, _⟩ := two_of hg
  have hl : (spI sp).length = sp.length := by unfold spI; rw [List.length_map]
  refine ⟨⟨sp, neg⟩, g, vs, rfl, rfl, hB, (Array.getElem?_eq_some_iff.1 hg).1, c0, c1, ?_⟩
  unfold SpRow at hrow
  rw [span_row, hl] at hrow
  by_cases he : sp = []
  · subst he
    obtain ⟨a, cap, rfl, _⟩ := own_form hrow
    exact ⟨a, cap, rfl, Nat.zero_le _, .inl ⟨rfl, rfl⟩⟩
  · have hne : sp.flatMap spanCells ≠ [] := by
      intro h
      have := congrArg List.length h
      rw [flat_size (m := 2) (fun x => rfl)] at this
      have := List.length_pos_iff.2 he
      simp at *
      omega
    obtain ⟨gb, cap, rfl, _, hbb, hlt, hc⟩ := own_cell hrow hne
    exact ⟨_, cap, rfl, own_max hrow, .inr ⟨gb, 0, rfl, by omega, hlt, fun j u hu => by rw [Nat.zero_add]; exact hc j u hu⟩⟩
end Go.Proofs.YtfhgnnlhacjnkaaDoor

/-
  The pattern's reader: class: what stays while a row of spans grows.
-/
namespace Go.Proofs.YtfhgnnlhacjnkaaDoor
set_option linter.unusedVariables false
set_option linter.unusedSimpArgs false
open Go.RowKit PT

theorem Rd.then_below {r base : Nat} {w W w' : World} (h : Rd r w W) (hb : Below base W w') (hB : w.heap.size ≤ base) : Rd r w w' :=
  ⟨hb.os.trans h.os, hb.tape.trans h.tape, hb.output.trans h.output, by have := h.size; have := hb.size; omega, fun k hk hr => by rw [hb.block k (by omega), h.block k hk hr]⟩
theorem u8_base {base : Nat} {w w' : World} (h : U8 w) (h2 : 2 ≤ base) (hb : Below base w w') : U8 w' := by
  have key : ∀ {g c : Nat} {v : Value}, g < 2 → w.cell? ⟨g, c, none⟩ = some v → w'.cell? ⟨g, c, none⟩ = some v := fun {g c v} hg hc => by
    rw [← hc]
    simp only [World.cell?, hb.block g (by omega)]
  exact ⟨fun c hc => key (by decide) (h.1 c hc), fun i hi => ⟨key (by decide) (h.2 i hi).1, key (by decide) (h.2 i hi).2⟩⟩
theorem RD.keptB {r base : Nat} {X : List Nat} {d : Int} {b : Bool} {w w' : World} (h : RD r X d b w) (hb : Below base w w') (hr : r < base) : RD r X d b w' := by
  obtain ⟨s, h1, h2, h3, h4⟩ := h.ex
  refine ⟨h.two, by have := hb.size; have := h.lt; omega, u8_base h.utf (by have := h.two; omega) hb, s, h1, h2, h3, ?_⟩
  unfold RS at h4 ⊢
  rw [hb.block r hr, h4]
theorem own_setB {base g i : Nat} {T : TypeId} {sz n : Nat} {xs : List Value} {v u : Value} {w : World} (h : w.ownsRow base T sz v n xs) (hg : g < base) : (w.setCell ⟨g, i, none⟩ u).ownsRow base T sz v n xs := by
  obtain ⟨h1, ⟨rfl, hn⟩ | ⟨g', cap, cur, rfl, h2, h3, h4⟩⟩ := h
  · exact ⟨h1, .inl ⟨rfl, hn⟩⟩
  · exact ⟨h1, .inr ⟨g', cap, cur, rfl, h2, by rw [heap_setCell_other w ⟨g, i, none⟩ g' u (by show g' ≠ g; omega)]; exact h3, h4⟩⟩
theorem own_nil (base : Nat) (T : TypeId) (sz : Nat) (w : World) : w.ownsRow base T sz (.slice none 0 0) 0 [] := World.ownsRow_nil w base _ _
/-- a sign by itself -/
theorem item_alone {X X1 : List Nat} {sp : List (Nat × Nat)} {one : Bool} (h : signP X = some (sp, one, X1)) (hx : hdI X1 ≠ 45) : itemP X = some (sp, X1) := by
  unfold itemP
  rw [h]
  cases X1 with
  | nil => rfl
  | cons x r =>
    have : x ≠ 45 := fun e => hx (by rw [e]; rfl)
    simp only
    rw [if_neg this]
theorem item_none {X : List Nat} (h : signP X = none) : itemP X = none := by unfold itemP; rw [h]
theorem item_dash {X R : List Nat} {sp : List (Nat × Nat)} {one : Bool} (h : signP X = some (sp, one, 45 :: R)) : itemP X = (match signP R with
    | none => none
    | some (sp2, one2, r3) => if (one && one2) = true ∧ fromP sp ≤ fromP sp2 then some ([(fromP sp, fromP sp2)], r3) else none) := by
  unfold itemP
  rw [h]
  simp only [if_true]
  rfl
theorem one_alone {X X1 : List Nat} {sp : List (Nat × Nat)} (h : signP X = some (sp, true, X1)) : ∃ c, sp = [(c, c)] := by
  rcases signP_form h with ⟨c, _, _, _, hs, _⟩ | ⟨c, _, h2⟩
  · exact ⟨c, hs⟩
  · rcases h2 with ⟨_, hs, _⟩ | ⟨ho, _⟩
    · exact ⟨c, hs⟩
    · cases ho
theorem rem_step {fb : Bool} {X X1 : List Nat} {sp : List (Nat × Nat)} (hgo : fb = true ∨ hdI X ≠ 93) (h : itemP X = some (sp, X1)) : remP fb X = (remP false X1).map (fun q => (sp ++ q.1, q.2)) := by
  rw [rem_go hgo, h]
  show (match itemsF X1 with | none => none | some (sps, r2) => some (sp ++ sps, r2)) = (itemsF X1).map _
  cases itemsF X1 with
  | none => rfl
  | some q => rfl
theorem rem_fail {fb : Bool} {X : List Nat} (hgo : fb = true ∨ hdI X ≠ 93) (h : itemP X = none) : remP fb X = none := by
  rw [rem_go hgo, h]
theorem spI_app (a b : List (Nat × Nat)) : spI (a ++ b) = spI a ++ spI b := by unfold spI; rw [List.map_append]
theorem spA_two (a b c : Int) (rest : List (Int × Int)) : (spA ((a, b) :: rest)).setIfInBounds 1 (.int .i32 c) = spA ((a, c) :: rest) := by
  unfold spA
  simp [spanV]
end Go.Proofs.YtfhgnnlhacjnkaaDoor

/-
  The pattern's reader: class: the walk.
-/
namespace Go.Proofs.YtfhgnnlhacjnkaaDoor
set_option linter.unusedVariables false
set_option linter.unusedSimpArgs false
open Go.RowKit PT

theorem bodyP_nil : bodyP [] = none := rfl
set_option maxHeartbeats 16000000 in
set_option maxRecDepth 100000 in
theorem class9_any (r : Nat) (X : List Nat) (d : Int) (b : Bool) (w : World) (hR : RD r X d b w) :
    Calls Tryd.prog 45 #[rp r] w fun e w' => KlsR r X d b w e w' := by
  have hRR := Lib.hid hR
  have hlt := hR.lt
  have hXl := hR.len
  have hn0 := Go.heap_alloc_new w (.cells #[.slice none 0 0, .bool false] 75)
  have hb0 := (Below.refl w.heap.size w).alloc (Nat.le_refl _) (.cells #[.slice none 0 0, .bool false] 75)
  have hR0 := hR.kept hb0
  clear hR
  go_enter Tryd.func45, Tryd.ntmps45
  go_upto_region 2 with fail
  generalize World.alloc _ _ = W0 at hn0 hb0 hR0 ⊢
  have hrd0 := Rd.of_below (r := r) hb0
  obtain ⟨g, hg⟩ : ∃ g, w.heap.size = g := ⟨_, rfl⟩
  have hgb : w.heap.size ≤ g := by omega
  rw [hg] at hn0 ⊢
  have hgr : g ≠ r := by omega
  clear hb0 hg
  go_wp2_with fail
  refine (next_any r _ d b _ hR0).mono ?_
  rintro e w1 ⟨rfl, hb1⟩
  replace hR0 := hR0.kept hb1
  replace hrd0 := hrd0.trans (Rd.of_below (r := r) hb1)
  replace hn0 := blk_kept hb1 hn0
  clear hb1
  by_cases h94 : hdI X = 94
  · obtain ⟨R, hR9⟩ : ∃ R, X = 94 :: R := by
      cases X with
      | nil => cases h94
      | cons c R => have h := h94; exact ⟨R, by rw [show c = 94 from by have : (c : Int) = 94 := h; omega]⟩
    have q94 : (hdI X == 94) = true := by rw [h94]; rfl
    clear h94
    have hcl := Lib.hid (show classP X = clsP2 true R by rw [hR9]; rfl)
    have hXS : R.length ≤ X.length := by rw [hR9, List.length_cons]; omega
    go_wp2_with fail
    refine (take_any r _ d b _ hR0).mono ?_
    rintro e w2 ⟨rfl, hR2, hd2⟩
    rw [show (b || decide (X = [])) = b by rw [hR9]; simp, show X.drop 1 = R by rw [hR9]; rfl] at hR2
    replace hrd0 := hrd0.trans hd2
    replace hn0 := rd_blk hd2 hn0 hgr
    obtain ⟨k0, k1, fk0, fk1⟩ := two_of hn0
    have hns := setCell_heap (.bool true) hn0 (i := 1)
    have hbs : Below w.heap.size w2 (w2.setCell ⟨g, 1, none⟩ (.bool true)) := (Below.refl _ w2).setCell (p := ⟨g, 1, none⟩) hgb _
    have hRs := hR2.keptB hbs hlt
    have hrds := hrd0.then_below hbs (Nat.le_refl _)
    clear hR9 hd2 hbs hR2 hrd0 hn0
    go_upto_region 5 with fail
    generalize World.setCell _ _ _ = W9 at hns hRs hrds ⊢
    replace hns : W9.heap[g]? = some (.cells #[.slice none 0 0, .bool true] 75 (0, 0)) := hns
    obtain ⟨XS, hXS9⟩ : ∃ XS, XS = R := ⟨_, rfl⟩
    rw [← hXS9] at hcl hRs hXS
    clear hXS9
    go_wp2_with fail
    go_loopw [4] (fun f wr => ∃ fb : Bool, f = .bool fb ∧ KlsSt r g X d b true XS w wr fb) (fun _ wr => measR r wr)
    case atStart => exact ⟨true, rfl, XS, b, [], .slice none 0 0, hRs, hrds, hns, own_nil _ _ _ _, hXS, fun h => h, by simp, fun _ => ⟨by simp; omega, fun _ => ⟨[], rfl, by simp [remP]⟩⟩, fun h1 h2 => by rw [h1] at h2; cases h2⟩
    case round =>
      obtain ⟨fb, rfl, X', b', allS, vs, hR', hrd', hgb', hrow', hlen', hmono, hal, hgood, hbad⟩ := hrel
      have hmeas := Lib.hid (measR_eq hR')
      obtain ⟨s, c0, c1, c2, f0, f1, f2, hs, hv, hX⟩ := hR'.at
      have hRh := Lib.hid hR'
      clear hR' c0 c1 f0 f1 f2 hs
      replace hmono := Lib.hid hmono
      replace hgood := Lib.hid hgood
      replace hbad := Lib.hid hbad
      cases b' with
      | true =>
        have hno := Lib.hid (show b = false → bodyP XS = none from fun h => hbad.out h rfl)
        clear hgood hbad hmono
        go_wp2_with fail
        refine (take_any r _ d true _ hRh.out).mono ?_
        rintro e w2 ⟨rfl, hR2, hd2⟩
        have hfin := Lib.hid (show RD r (X'.drop 1) d true w2 from hR2)
        have hrdf := Lib.hid (hrd'.trans hd2)
        go_wp2_with fail
        go_ret
        exact ⟨g, X'.drop 1, true, rfl, hfin.out, hrdf.out, by rw [List.length_drop]; omega, fun _ => rfl, fun h => by rw [hcl.out]; unfold clsP2; rw [hno.out h]; trivial⟩
      | false =>
        have hb9 : Hid (b = false) := Lib.hid (by cases b with | false => rfl | true => exact absurd (hmono.out rfl) (by decide))
        obtain ⟨hcap, hdone⟩ := hgood.out rfl
        obtain ⟨done, hall, hbody⟩ := hdone hb9.out
        replace hall := Lib.hid hall
        replace hbody := Lib.hid hbody
        clear hgood hbad hdone hmono
        have hgo : fb = true ∨ (fb = false ∧ hdI X' ≠ 93) ∨ (fb = false ∧ hdI X' = 93) := by
          cases fb with
          | true => exact .inl rfl
          | false => by_cases h : hdI X' = 93
                     · exact .inr (.inr ⟨rfl, h⟩)
                     · exact .inr (.inl ⟨rfl, h⟩)
        rcases hgo with rfl | ⟨rfl, h93⟩ | ⟨rfl, h93⟩
        · have hstep := Lib.hid (fun (sp : List (Nat × Nat)) (X1 : List Nat) (h : itemP X' = some (sp, X1)) => rem_step (fb := true) (.inl rfl) h)
          have hfail := Lib.hid (fun (h : itemP X' = none) => rem_fail (fb := true) (.inl rfl) h)
          have hRW := hRh.out
          have hrdW := hrd'
          have hgbW := hgb'
          have hrowW := hrow'
          go_wp2_with fail
          refine (sign9_any r _ d false _ hRW).mono ?_
          rintro e w1 ⟨v1, one, X1, b1, sp1, rfl, hR1, hd1, hF1, _, hl1, hs1⟩
          obtain ⟨g1, cap1, rfl, hg1, hne1, hsl1, hb1⟩ := hF1
          replace hs1 := Lib.hid (hs1 rfl)
          have hszW := hrdW.size
          go_wp2_with fail
          refine (next_any r _ d b1 _ hR1).mono ?_
          rintro e w2 ⟨rfl, hb2⟩
          have hR2 := hR1.kept hb2
          have hdW2 := hd1.trans (Rd.of_below (r := r) hb2)
          have hblk2 := blk_kept hb2 hb1
          by_cases h45 : hdI X1 = 45
          case neg =>
            have p45 : (hdI X1 == 45) = false := intNe h45
            have hspec := Lib.hid (show (b1 = true → bodyP XS = none) ∧ (b1 = false → X1.length < X'.length ∧ ∃ dn : List (Nat × Nat), allS ++ sp1 = spI dn ∧ bodyP XS = (remP false X1).map (fun q => (dn ++ q.1, q.2))) by
              have h1 := hs1.out
              cases hsg : signP X' with
              | none =>
                rw [hsg] at h1
                exact ⟨(fun _ => by rw [hbody.out, hfail.out (item_none hsg)]; rfl), (fun h => by rw [show b1 = true from h1] at h; cases h)⟩
              | some q =>
                obtain ⟨sp', one', X''⟩ := q
                rw [hsg] at h1
                obtain ⟨e1, e2, e3, e4⟩ := h1
                rw [← e2] at hsg
                refine ⟨(fun h => by rw [e1] at h; cases h), fun _ => ⟨signP_len hsg, done ++ sp', by rw [hall.out, e4, spI_app], ?_⟩⟩
                rw [hbody.out, hstep.out _ _ (item_alone hsg h45), Option.map_map]
                congr 1
                funext q
                simp [List.append_assoc])
            clear h45
            have hrowc := own_rd hrowW hdW2 (by omega)
            have hgbc := rd_blk hdW2 hgbW hgr
            have hrdc := hrdW.trans hdW2
            obtain ⟨t0, t1, ft0, ft1⟩ := two_of hgbc
            have hszc := hrdc.size
            have hgltc := (Array.getElem?_eq_some_iff.1 hgbc).1
            have hsrc := Lib.hid (fun j u (h : (sp1.flatMap spanV)[j]? = some u) => spA_get h hblk2)
            have hRc := Lib.hid hR2
            have hslh := Lib.hid hsl1
            go_wp2_with (at_builtin; refine wpList_append_any (n := allS.length) (m := sp1.length) rfl _ _ 73 77 rfl Tryd.underlying73 info_span rfl (by decide) rfl rfl (fun h => by cases h) (flat_size spanV_len sp1) (fun ad had j u hu => by cases had; rw [addr_add, Nat.zero_add]; exact hsrc.out j u hu) (spanV_one sp1) hrowc (by have := hslh.out; unfold maxLen; omega) (by have := hslh.out; omega) (by omega) ?_; intro v' wA hA1 hA2; obtain ⟨va9, vc9, hv9, _⟩ := own_form hA1; subst hv9; have hbA := own_below hrowc hA2 (by omega); have hgbA := (hbA.block g (by omega)).trans hgbc; obtain ⟨u0, u1, fu0, fu1⟩ := two_of hgbA)
            have hgbF := setCell_heap (.slice va9 (allS.length + sp1.length) vc9) hgbA (i := 0)
            have hbF : Below w.heap.size w2 (wA.setCell ⟨g, 0, none⟩ (.slice va9 (allS.length + sp1.length) vc9)) := (hbA.mono (by omega)).trans ((Below.refl _ wA).setCell (p := ⟨g, 0, none⟩) hgb _)
            have hRF := Lib.hid (hRc.out.keptB hbF hlt)
            have hrdF := Lib.hid (hrdc.then_below hbF (Nat.le_refl _))
            have hrowF := Lib.hid (show SpRow (g + 1) (allS ++ sp1) (.slice va9 (allS.length + sp1.length) vc9) (wA.setCell ⟨g, 0, none⟩ (.slice va9 (allS.length + sp1.length) vc9)) by unfold SpRow; rw [List.length_append, List.flatMap_append]; exact own_setB hA1 (by omega))
            have hgbF2 := Lib.hid (show (wA.setCell ⟨g, 0, none⟩ (.slice va9 (allS.length + sp1.length) vc9)).heap[g]? = some (.cells #[(.slice va9 (allS.length + sp1.length) vc9), .bool true] 75 (0, 0)) from hgbF)
            have hmF := Lib.hid (measR_eq hRF.out)
            have hlF : X1.length ≤ X.length := by omega
            have hlX : X1.length ≤ X'.length := by omega
            clear hgbF hgbA u1 hrowc
            go_wp2_with fail
            go_roundw
            case rel => exact ⟨false, rfl, X1, b1, allS ++ sp1, _, hRF.out, hrdF.out, hgbF2.out, hrowF.out, hlF, (fun h => by rw [hb9.out] at h; cases h), by have := hslh.out; rw [List.length_append]; omega, fun h => ⟨by have := (hspec.out.2 h).1; have := hslh.out; rw [List.length_append]; omega, fun _ => (hspec.out.2 h).2⟩, fun _ h => hspec.out.1 h⟩
            case measure =>
              rw [hmeas.out]
              refine Nat.lt_of_le_of_lt (Nat.le_of_eq hmF.out) ?_
              cases hb19 : b1 with
              | true => simp only [if_true]; rw [if_neg Bool.false_ne_true]; omega
              | false => have := (hspec.out.2 hb19).1; rw [if_neg Bool.false_ne_true, if_neg Bool.false_ne_true]; omega
          have p45 : (hdI X1 == 45) = true := by rw [h45]; rfl
          obtain ⟨R1, hR9⟩ : ∃ R1, X1 = 45 :: R1 := by
            cases X1 with
            | nil => cases h45
            | cons c R => have h := h45; exact ⟨R, by rw [show c = 45 from by have : (c : Int) = 45 := h; omega]⟩
          clear h45
          subst hR9
          go_wp2_with fail
          refine (take_any r _ d b1 _ hR2).mono ?_
          rintro e w3 ⟨rfl, hR3, hd3⟩
          rw [show (b1 || decide (45 :: R1 = [])) = b1 by simp, show (45 :: R1).drop 1 = R1 from rfl] at hR3
          go_wp2_with fail
          refine (sign9_any r _ d b1 _ hR3).mono ?_
          rintro e w4 ⟨v2, other, X2, b2, sp2, rfl, hR4, hd4, hF2, hm2, hl2, hs2⟩
          obtain ⟨g2, cap2, rfl, hg2, hne2, hsl2, hb4⟩ := hF2
          have hdW4 := (hdW2.trans hd3).trans hd4
          have hsz2 := hb2.size
          have hsz3 := hd3.size
          have hsz4 := hd4.size
          have hsz1 := hd1.size
          have hg1lt := (Array.getElem?_eq_some_iff.1 hblk2).1
          have hgr1 : g1 ≠ r := by have := hRh.out.lt; have := hRW.lt; omega
          have hblk4 := rd_blk (hd3.trans hd4) hblk2 hgr1
          replace hs2 := Lib.hid hs2
          replace hm2 := Lib.hid hm2
          obtain ⟨⟨fa, ta⟩, ra, rfl⟩ := List.exists_cons_of_ne_nil hne1
          obtain ⟨⟨fc, tc⟩, rc, rfl⟩ := List.exists_cons_of_ne_nil hne2
          have y1 : w4.cell? ⟨g1, 0, none⟩ = some (.int .i32 fa) := spA_get rfl hblk4
          have y2 : w4.cell? ⟨g2, 0, none⟩ = some (.int .i32 fc) := spA_get rfl hb4
          have hR4h := Lib.hid hR4
          obtain ⟨s4, _, _, c24, _, _, _, _, _, _⟩ := hR4.at
          have l1 : (0 : Int) < (((fa, ta) :: ra).length : Int) := by simp only [List.length_cons]; omega
          have l2 : (0 : Int) < (((fc, tc) :: rc).length : Int) := by simp only [List.length_cons]; omega
          have l11 : (0 : Int) < (ra.length : Int) + 1 := by omega
          have l22 : (0 : Int) < (rc.length : Int) + 1 := by omega
          have hbadC := Lib.hid (show (b2 = true ∨ one = false ∨ other = false ∨ fc < fa) → bodyP XS = none from fun hor => by
            rw [hbody.out, hfail.out ?_]
            · rfl
            have h1 := hs1.out
            cases hsg : signP X' with
            | none => exact item_none hsg
            | some q =>
              obtain ⟨sp', one', X''⟩ := q
              rw [hsg] at h1
              obtain ⟨e1, e2, e3, e4⟩ := h1
              rw [← e2, ← e3] at hsg
              rw [item_dash hsg]
              have h2 := hs2.out e1
              cases hsg2 : signP R1 with
              | none => rfl
              | some q =>
                obtain ⟨sp3, one3, X3⟩ := q
                rw [hsg2] at h2
                obtain ⟨k1, k2, k3, k4⟩ := h2
                rw [← k3] at hsg2
                simp only
                rw [if_neg]
                rintro ⟨a1, a2⟩
                rw [← k3] at a1
                obtain ⟨o1, o2⟩ := Bool.and_eq_true_iff.1 a1
                rcases hor with h | h | h | h
                · rw [k1] at h; cases h
                · rw [o1] at h; cases h
                · rw [o2] at h; cases h
                · rw [o1] at hsg; rw [o2] at hsg2
                  obtain ⟨u, hu⟩ := one_alone hsg
                  obtain ⟨z, hz⟩ := one_alone hsg2
                  subst hu; subst hz
                  have q1 : fa = (u : Int) := by have := (List.cons.inj e4).1; exact (Prod.mk.inj this).1
                  have q2 : fc = (z : Int) := by have := (List.cons.inj k4).1; exact (Prod.mk.inj this).1
                  have q3 : u ≤ z := a2
                  omega)
          by_cases hcond : b2 = true ∨ one = false ∨ other = false ∨ fc < fa
          case pos =>
            have hnone := Lib.hid (hbadC.out hcond)
            have hcase : b2 = true ∨ (b2 = false ∧ one = false) ∨ (b2 = false ∧ one = true ∧ other = false) ∨ (b2 = false ∧ one = true ∧ other = true ∧ fc < fa) := by
              cases b2 <;> cases one <;> cases other <;> simp_all
            clear hcond
            rcases hcase with rfl | ⟨rfl, rfl⟩ | ⟨rfl, rfl, rfl⟩ | ⟨rfl, rfl, rfl, hlt9⟩
            · skip
              go_wp2_with fail
              go_quiet (fail)
              generalize hq9 : w4.drewN _ = wq
              have hbq : Below w4.heap.size w4 wq := by rw [← hq9]; exact below_draws _ _
              clear hq9
              have hRq := hR4h.out.kept hbq
              have hfin := Lib.hid (hRq.setBad true)
              have hrdf := Lib.hid (((hrdW.trans hdW4).trans (Rd.of_below (r := r) hbq)).trans (Rd.setCell r 2 (.bool true) wq))
              obtain ⟨sq, _, _, cq2, _, _, fq2, _, _, _⟩ := hRq.at
              have hlf : X2.length ≤ X.length := by simp only [List.length_cons] at hl1; omega
              go_wp2_with fail
              go_ret
              exact ⟨g, X2, true, rfl, hfin.out, hrdf.out, hlf, fun _ => rfl, fun _ => by rw [hcl.out]; unfold clsP2; rw [hnone.out]; trivial⟩
            · skip
              go_wp2_with fail
              go_quiet (fail)
              generalize hq9 : w4.drewN _ = wq
              have hbq : Below w4.heap.size w4 wq := by rw [← hq9]; exact below_draws _ _
              clear hq9
              have hRq := hR4h.out.kept hbq
              have hfin := Lib.hid (hRq.setBad true)
              have hrdf := Lib.hid (((hrdW.trans hdW4).trans (Rd.of_below (r := r) hbq)).trans (Rd.setCell r 2 (.bool true) wq))
              obtain ⟨sq, _, _, cq2, _, _, fq2, _, _, _⟩ := hRq.at
              have hlf : X2.length ≤ X.length := by simp only [List.length_cons] at hl1; omega
              go_wp2_with fail
              go_ret
              exact ⟨g, X2, true, rfl, hfin.out, hrdf.out, hlf, fun _ => rfl, fun _ => by rw [hcl.out]; unfold clsP2; rw [hnone.out]; trivial⟩
            · skip
              go_wp2_with fail
              go_quiet (fail)
              generalize hq9 : w4.drewN _ = wq
              have hbq : Below w4.heap.size w4 wq := by rw [← hq9]; exact below_draws _ _
              clear hq9
              have hRq := hR4h.out.kept hbq
              have hfin := Lib.hid (hRq.setBad true)
              have hrdf := Lib.hid (((hrdW.trans hdW4).trans (Rd.of_below (r := r) hbq)).trans (Rd.setCell r 2 (.bool true) wq))
              obtain ⟨sq, _, _, cq2, _, _, fq2, _, _, _⟩ := hRq.at
              have hlf : X2.length ≤ X.length := by simp only [List.length_cons] at hl1; omega
              go_wp2_with fail
              go_ret
              exact ⟨g, X2, true, rfl, hfin.out, hrdf.out, hlf, fun _ => rfl, fun _ => by rw [hcl.out]; unfold clsP2; rw [hnone.out]; trivial⟩
            · have p9 : fc < fa := hlt9
              go_wp2_with fail
              go_quiet (fail)
              generalize hq9 : w4.drewN _ = wq
              have hbq : Below w4.heap.size w4 wq := by rw [← hq9]; exact below_draws _ _
              clear hq9
              have hRq := hR4h.out.kept hbq
              have hfin := Lib.hid (hRq.setBad true)
              have hrdf := Lib.hid (((hrdW.trans hdW4).trans (Rd.of_below (r := r) hbq)).trans (Rd.setCell r 2 (.bool true) wq))
              obtain ⟨sq, _, _, cq2, _, _, fq2, _, _, _⟩ := hRq.at
              have hlf : X2.length ≤ X.length := by simp only [List.length_cons] at hl1; omega
              go_wp2_with fail
              go_ret
              exact ⟨g, X2, true, rfl, hfin.out, hrdf.out, hlf, fun _ => rfl, fun _ => by rw [hcl.out]; unfold clsP2; rw [hnone.out]; trivial⟩
          have hg9 : b2 = false ∧ one = true ∧ other = true ∧ fa ≤ fc := by
            cases b2 <;> cases one <;> cases other <;> simp_all
          obtain ⟨rfl, rfl, rfl, hle9⟩ := hg9
          clear hcond
          have hb1f : b1 = false := by cases b1 with | false => rfl | true => exact (hm2.out rfl).symm
          have hspec := Lib.hid (show (X2.length < X'.length ∧ ∃ dn : List (Nat × Nat), allS ++ [(fa, fc)] = spI dn ∧ bodyP XS = (remP false X2).map (fun q => (dn ++ q.1, q.2))) ∧ ra = [] by
            have h1 := hs1.out
            cases hsg : signP X' with
            | none => rw [hsg] at h1; rw [hb1f] at h1; cases h1
            | some q =>
              obtain ⟨sp', one', X''⟩ := q
              rw [hsg] at h1
              obtain ⟨e1, e2, e3, e4⟩ := h1
              rw [← e2, ← e3] at hsg
              have h2 := hs2.out e1
              cases hsg2 : signP R1 with
              | none => rw [hsg2] at h2; cases h2
              | some q =>
                obtain ⟨sp3, one3, X3⟩ := q
                rw [hsg2] at h2
                obtain ⟨k1, k2, k3, k4⟩ := h2
                rw [← k3, ← k2] at hsg2
                obtain ⟨u, hu⟩ := one_alone hsg
                obtain ⟨z, hz⟩ := one_alone hsg2
                subst hu; subst hz
                obtain ⟨e5, e6⟩ := List.cons.inj e4
                obtain ⟨k5, k6⟩ := List.cons.inj k4
                have q1 : fa = (u : Int) := (Prod.mk.inj e5).1
                have q2 : fc = (z : Int) := (Prod.mk.inj k5).1
                have hit : itemP X' = some ([(u, z)], X2) := by
                  rw [item_dash hsg, hsg2]
                  simp only
                  rw [if_pos ⟨rfl, show u ≤ z by omega⟩]
                  rfl
                refine ⟨⟨?_, done ++ [(u, z)], by rw [hall.out, spI_app, q1, q2]; rfl, ?_⟩, e6⟩
                · have h5 := signP_len hsg; have h6 := signP_len hsg2; simp only [List.length_cons] at h5; omega
                · rw [hbody.out, hstep.out _ _ hit, Option.map_map]
                  congr 1
                  funext q
                  simp [List.append_assoc])
          obtain ⟨hsp1, hra⟩ := hspec.out
          subst hra
          replace hspec := Lib.hid hsp1
          clear hsp1
          have p9 : decide (fc < fa) = false := decide_eq_false (by omega)
          have p99 : ¬ fc < fa := by omega
          have p999 : fa ≤ fc := hle9
          go_wp2_with fail
          go_quiet (fail)
          generalize hq9 : w4.drewN _ = wq
          have hbq : Below w4.heap.size w4 wq := by rw [← hq9]; exact below_draws _ _
          clear hq9
          have hRq := hR4h.out.kept hbq
          have hdWq := hdW4.trans (Rd.of_below (r := r) hbq)
          have hblkq := blk_kept hbq hblk4
          have hb4q := blk_kept hbq hb4
          have y2q : wq.cell? ⟨g2, 0, none⟩ = some (.int .i32 fc) := spA_get rfl hb4q
          have y1q : wq.cell? ⟨g1, 1, none⟩ = some (.int .i32 ta) := spA_get rfl hblkq
          have f1q : wq.frozen? ⟨g1, 1, none⟩ = false := by simp [World.frozen?, hblkq]
          have hbs : Below wr.heap.size wq (wq.setCell ⟨g1, 1, none⟩ (.int .i32 fc)) := (Below.refl _ wq).setCell (p := ⟨g1, 1, none⟩) (by show _ ≤ g1; omega) _
          have hdWs := hdWq.then_below hbs (Nat.le_refl _)
          have hRs9 := hRq.keptB hbs hRW.lt
          have hblks := (setCell_heap (.int .i32 fc) hblkq).trans (by rw [spA_two])
          have hsls : [(fa, fc)].length ≤ 4 := by simp
          have hnes : [(fa, fc)] ≠ [] := by simp
          clear y1 y2 c24 hR4 hb4 hblk4 hblk2 hb1
          go_upto_region 16 with fail
          generalize World.setCell _ _ _ = wz at hbs hdWs hRs9 hblks ⊢
          have hrowc := own_rd hrowW hdWs (by omega)
          have hgbc := rd_blk hdWs hgbW hgr
          have hrdc := hrdW.trans hdWs
          obtain ⟨t0, t1, ft0, ft1⟩ := two_of hgbc
          have hszc := hrdc.size
          have hgltc := (Array.getElem?_eq_some_iff.1 hgbc).1
          have hsrc := Lib.hid (fun j u (h : ([(fa, fc)].flatMap spanV)[j]? = some u) => spA_get h hblks)
          have hRc := Lib.hid hRs9
          have hslh := Lib.hid hsls
          go_wp2_with (at_builtin; refine wpList_append_any (n := allS.length) (m := [(fa, fc)].length) rfl _ _ 73 77 rfl Tryd.underlying73 info_span rfl (by decide) rfl rfl (fun h => by cases h) (flat_size spanV_len [(fa, fc)]) (fun ad had j u hu => by cases had; rw [addr_add, Nat.zero_add]; exact hsrc.out j u hu) (spanV_one [(fa, fc)]) hrowc (by have := hslh.out; unfold maxLen; omega) (by have := hslh.out; omega) (by omega) ?_; intro v' wA hA1 hA2; obtain ⟨va9, vc9, hv9, _⟩ := own_form hA1; subst hv9; have hbA := own_below hrowc hA2 (by omega); have hgbA := (hbA.block g (by omega)).trans hgbc; obtain ⟨u0, u1, fu0, fu1⟩ := two_of hgbA)
          have hgbF := setCell_heap (.slice va9 (allS.length + [(fa, fc)].length) vc9) hgbA (i := 0)
          have hbF : Below w.heap.size wz (wA.setCell ⟨g, 0, none⟩ (.slice va9 (allS.length + [(fa, fc)].length) vc9)) := (hbA.mono (by omega)).trans ((Below.refl _ wA).setCell (p := ⟨g, 0, none⟩) hgb _)
          have hRF := Lib.hid (hRc.out.keptB hbF hlt)
          have hrdF := Lib.hid (hrdc.then_below hbF (Nat.le_refl _))
          have hrowF := Lib.hid (show SpRow (g + 1) (allS ++ [(fa, fc)]) (.slice va9 (allS.length + [(fa, fc)].length) vc9) (wA.setCell ⟨g, 0, none⟩ (.slice va9 (allS.length + [(fa, fc)].length) vc9)) by unfold SpRow; rw [List.length_append, List.flatMap_append]; exact own_setB hA1 (by omega))
          have hgbF2 := Lib.hid (show (wA.setCell ⟨g, 0, none⟩ (.slice va9 (allS.length + [(fa, fc)].length) vc9)).heap[g]? = some (.cells #[(.slice va9 (allS.length + [(fa, fc)].length) vc9), .bool true] 75 (0, 0)) from hgbF)
          have hmF := Lib.hid (measR_eq hRF.out)
          have hlF : X2.length ≤ X.length := by simp only [List.length_cons] at hl1; omega
          have hlX : X2.length ≤ X'.length := by simp only [List.length_cons] at hl1; omega
          clear hgbF hgbA u1 hrowc
          go_wp2_with fail
          go_roundw
          case rel => exact ⟨false, rfl, X2, false, allS ++ [(fa, fc)], _, hRF.out, hrdF.out, hgbF2.out, hrowF.out, hlF, (fun h => by rw [hb9.out] at h; cases h), by have := hslh.out; rw [List.length_append]; omega, fun _ => ⟨by have := hspec.out.1; have := hslh.out; rw [List.length_append]; omega, fun _ => hspec.out.2⟩, fun _ h => by cases h⟩
          case measure =>
            rw [hmeas.out]
            refine Nat.lt_of_le_of_lt (Nat.le_of_eq hmF.out) ?_
            have := hspec.out.1
            rw [if_neg Bool.false_ne_true, if_neg Bool.false_ne_true]; omega
        · have hstep := Lib.hid (fun (sp : List (Nat × Nat)) (X1 : List Nat) (h : itemP X' = some (sp, X1)) => rem_step (fb := false) (.inr h93) h)
          have hfail := Lib.hid (fun (h : itemP X' = none) => rem_fail (fb := false) (.inr h93) h)
          have p93 : (hdI X' != 93) = true := by rw [bne, intNe h93]; rfl
          clear h93
          go_wp2_with fail
          refine (next_any r _ d false _ hRh.out).mono ?_
          rintro e wn ⟨rfl, hbn⟩
          have hRW := hRh.out.kept hbn
          have hrdW := hrd'.trans (Rd.of_below (r := r) hbn)
          have hgbW := blk_kept hbn hgb'
          have hrowW := own_keep hrow' hbn
          clear hbn
          go_wp2_with fail
          refine (sign9_any r _ d false _ hRW).mono ?_
          rintro e w1 ⟨v1, one, X1, b1, sp1, rfl, hR1, hd1, hF1, _, hl1, hs1⟩
          obtain ⟨g1, cap1, rfl, hg1, hne1, hsl1, hb1⟩ := hF1
          replace hs1 := Lib.hid (hs1 rfl)
          have hszW := hrdW.size
          go_wp2_with fail
          refine (next_any r _ d b1 _ hR1).mono ?_
          rintro e w2 ⟨rfl, hb2⟩
          have hR2 := hR1.kept hb2
          have hdW2 := hd1.trans (Rd.of_below (r := r) hb2)
          have hblk2 := blk_kept hb2 hb1
          by_cases h45 : hdI X1 = 45
          case neg =>
            have p45 : (hdI X1 == 45) = false := intNe h45
            have hspec := Lib.hid (show (b1 = true → bodyP XS = none) ∧ (b1 = false → X1.length < X'.length ∧ ∃ dn : List (Nat × Nat), allS ++ sp1 = spI dn ∧ bodyP XS = (remP false X1).map (fun q => (dn ++ q.1, q.2))) by
              have h1 := hs1.out
              cases hsg : signP X' with
              | none =>
                rw [hsg] at h1
                exact ⟨(fun _ => by rw [hbody.out, hfail.out (item_none hsg)]; rfl), (fun h => by rw [show b1 = true from h1] at h; cases h)⟩
              | some q =>
                obtain ⟨sp', one', X''⟩ := q
                rw [hsg] at h1
                obtain ⟨e1, e2, e3, e4⟩ := h1
                rw [← e2] at hsg
                refine ⟨(fun h => by rw [e1] at h; cases h), fun _ => ⟨signP_len hsg, done ++ sp', by rw [hall.out, e4, spI_app], ?_⟩⟩
                rw [hbody.out, hstep.out _ _ (item_alone hsg h45), Option.map_map]
                congr 1
                funext q
                simp [List.append_assoc])
            clear h45
            have hrowc := own_rd hrowW hdW2 (by omega)
            have hgbc := rd_blk hdW2 hgbW hgr
            have hrdc := hrdW.trans hdW2
            obtain ⟨t0, t1, ft0, ft1⟩ := two_of hgbc
            have hszc := hrdc.size
            have hgltc := (Array.getElem?_eq_some_iff.1 hgbc).1
            have hsrc := Lib.hid (fun j u (h : (sp1.flatMap spanV)[j]? = some u) => spA_get h hblk2)
            have hRc := Lib.hid hR2
            have hslh := Lib.hid hsl1
            go_wp2_with (at_builtin; refine wpList_append_any (n := allS.length) (m := sp1.length) rfl _ _ 73 77 rfl Tryd.underlying73 info_span rfl (by decide) rfl rfl (fun h => by cases h) (flat_size spanV_len sp1) (fun ad had j u hu => by cases had; rw [addr_add, Nat.zero_add]; exact hsrc.out j u hu) (spanV_one sp1) hrowc (by have := hslh.out; unfold maxLen; omega) (by have := hslh.out; omega) (by omega) ?_; intro v' wA hA1 hA2; obtain ⟨va9, vc9, hv9, _⟩ := own_form hA1; subst hv9; have hbA := own_below hrowc hA2 (by omega); have hgbA := (hbA.block g (by omega)).trans hgbc; obtain ⟨u0, u1, fu0, fu1⟩ := two_of hgbA)
            have hgbF := setCell_heap (.slice va9 (allS.length + sp1.length) vc9) hgbA (i := 0)
            have hbF : Below w.heap.size w2 (wA.setCell ⟨g, 0, none⟩ (.slice va9 (allS.length + sp1.length) vc9)) := (hbA.mono (by omega)).trans ((Below.refl _ wA).setCell (p := ⟨g, 0, none⟩) hgb _)
            have hRF := Lib.hid (hRc.out.keptB hbF hlt)
            have hrdF := Lib.hid (hrdc.then_below hbF (Nat.le_refl _))
            have hrowF := Lib.hid (show SpRow (g + 1) (allS ++ sp1) (.slice va9 (allS.length + sp1.length) vc9) (wA.setCell ⟨g, 0, none⟩ (.slice va9 (allS.length + sp1.length) vc9)) by unfold SpRow; rw [List.length_append, List.flatMap_append]; exact own_setB hA1 (by omega))
            have hgbF2 := Lib.hid (show (wA.setCell ⟨g, 0, none⟩ (.slice va9 (allS.length + sp1.length) vc9)).heap[g]? = some (.cells #[(.slice va9 (allS.length + sp1.length) vc9), .bool true] 75 (0, 0)) from hgbF)
            have hmF := Lib.hid (measR_eq hRF.out)
            have hlF : X1.length ≤ X.length := by omega
            have hlX : X1.length ≤ X'.length := by omega
            clear hgbF hgbA u1 hrowc
            go_wp2_with fail
            go_roundw
            case rel => exact ⟨false, rfl, X1, b1, allS ++ sp1, _, hRF.out, hrdF.out, hgbF2.out, hrowF.out, hlF, (fun h => by rw [hb9.out] at h; cases h), by have := hslh.out; rw [List.length_append]; omega, fun h => ⟨by have := (hspec.out.2 h).1; have := hslh.out; rw [List.length_append]; omega, fun _ => (hspec.out.2 h).2⟩, fun _ h => hspec.out.1 h⟩
            case measure =>
              rw [hmeas.out]
              refine Nat.lt_of_le_of_lt (Nat.le_of_eq hmF.out) ?_
              cases hb19 : b1 with
              | true => simp only [if_true]; rw [if_neg Bool.false_ne_true]; omega
              | false => have := (hspec.out.2 hb19).1; rw [if_neg Bool.false_ne_true, if_neg Bool.false_ne_true]; omega
          have p45 : (hdI X1 == 45) = true := by rw [h45]; rfl
          obtain ⟨R1, hR9⟩ : ∃ R1, X1 = 45 :: R1 := by
            cases X1 with
            | nil => cases h45
            | cons c R => have h := h45; exact ⟨R, by rw [show c = 45 from by have : (c : Int) = 45 := h; omega]⟩
          clear h45
          subst hR9
          go_wp2_with fail
          refine (take_any r _ d b1 _ hR2).mono ?_
          rintro e w3 ⟨rfl, hR3, hd3⟩
          rw [show (b1 || decide (45 :: R1 = [])) = b1 by simp, show (45 :: R1).drop 1 = R1 from rfl] at hR3
          go_wp2_with fail
          refine (sign9_any r _ d b1 _ hR3).mono ?_
          rintro e w4 ⟨v2, other, X2, b2, sp2, rfl, hR4, hd4, hF2, hm2, hl2, hs2⟩
          obtain ⟨g2, cap2, rfl, hg2, hne2, hsl2, hb4⟩ := hF2
          have hdW4 := (hdW2.trans hd3).trans hd4
          have hsz2 := hb2.size
          have hsz3 := hd3.size
          have hsz4 := hd4.size
          have hsz1 := hd1.size
          have hg1lt := (Array.getElem?_eq_some_iff.1 hblk2).1
          have hgr1 : g1 ≠ r := by have := hRh.out.lt; have := hRW.lt; omega
          have hblk4 := rd_blk (hd3.trans hd4) hblk2 hgr1
          replace hs2 := Lib.hid hs2
          replace hm2 := Lib.hid hm2
          obtain ⟨⟨fa, ta⟩, ra, rfl⟩ := List.exists_cons_of_ne_nil hne1
          obtain ⟨⟨fc, tc⟩, rc, rfl⟩ := List.exists_cons_of_ne_nil hne2
          have y1 : w4.cell? ⟨g1, 0, none⟩ = some (.int .i32 fa) := spA_get rfl hblk4
          have y2 : w4.cell? ⟨g2, 0, none⟩ = some (.int .i32 fc) := spA_get rfl hb4
          have hR4h := Lib.hid hR4
          obtain ⟨s4, _, _, c24, _, _, _, _, _, _⟩ := hR4.at
          have l1 : (0 : Int) < (((fa, ta) :: ra).length : Int) := by simp only [List.length_cons]; omega
          have l2 : (0 : Int) < (((fc, tc) :: rc).length : Int) := by simp only [List.length_cons]; omega
          have l11 : (0 : Int) < (ra.length : Int) + 1 := by omega
          have l22 : (0 : Int) < (rc.length : Int) + 1 := by omega
          have hbadC := Lib.hid (show (b2 = true ∨ one = false ∨ other = false ∨ fc < fa) → bodyP XS = none from fun hor => by
            rw [hbody.out, hfail.out ?_]
            · rfl
            have h1 := hs1.out
            cases hsg : signP X' with
            | none => exact item_none hsg
            | some q =>
              obtain ⟨sp', one', X''⟩ := q
              rw [hsg] at h1
              obtain ⟨e1, e2, e3, e4⟩ := h1
              rw [← e2, ← e3] at hsg
              rw [item_dash hsg]
              have h2 := hs2.out e1
              cases hsg2 : signP R1 with
              | none => rfl
              | some q =>
                obtain ⟨sp3, one3, X3⟩ := q
                rw [hsg2] at h2
                obtain ⟨k1, k2, k3, k4⟩ := h2
                rw [← k3] at hsg2
                simp only
                rw [if_neg]
                rintro ⟨a1, a2⟩
                rw [← k3] at a1
                obtain ⟨o1, o2⟩ := Bool.and_eq_true_iff.1 a1
                rcases hor with h | h | h | h
                · rw [k1] at h; cases h
                · rw [o1] at h; cases h
                · rw [o2] at h; cases h
                · rw [o1] at hsg; rw [o2] at hsg2
                  obtain ⟨u, hu⟩ := one_alone hsg
                  obtain ⟨z, hz⟩ := one_alone hsg2
                  subst hu; subst hz
                  have q1 : fa = (u : Int) := by have := (List.cons.inj e4).1; exact (Prod.mk.inj this).1
                  have q2 : fc = (z : Int) := by have := (List.cons.inj k4).1; exact (Prod.mk.inj this).1
                  have q3 : u ≤ z := a2
                  omega)
          by_cases hcond : b2 = true ∨ one = false ∨ other = false ∨ fc < fa
          case pos =>
            have hnone := Lib.hid (hbadC.out hcond)
            have hcase : b2 = true ∨ (b2 = false ∧ one = false) ∨ (b2 = false ∧ one = true ∧ other = false) ∨ (b2 = false ∧ one = true ∧ other = true ∧ fc < fa) := by
              cases b2 <;> cases one <;> cases other <;> simp_all
            clear hcond
            rcases hcase with rfl | ⟨rfl, rfl⟩ | ⟨rfl, rfl, rfl⟩ | ⟨rfl, rfl, rfl, hlt9⟩
            · skip
              go_wp2_with fail
              go_quiet (fail)
              generalize hq9 : w4.drewN _ = wq
              have hbq : Below w4.heap.size w4 wq := by rw [← hq9]; exact below_draws _ _
              clear hq9
              have hRq := hR4h.out.kept hbq
              have hfin := Lib.hid (hRq.setBad true)
              have hrdf := Lib.hid (((hrdW.trans hdW4).trans (Rd.of_below (r := r) hbq)).trans (Rd.setCell r 2 (.bool true) wq))
              obtain ⟨sq, _, _, cq2, _, _, fq2, _, _, _⟩ := hRq.at
              have hlf : X2.length ≤ X.length := by simp only [List.length_cons] at hl1; omega
              go_wp2_with fail
              go_ret
              exact ⟨g, X2, true, rfl, hfin.out, hrdf.out, hlf, fun _ => rfl, fun _ => by rw [hcl.out]; unfold clsP2; rw [hnone.out]; trivial⟩
            · skip
              go_wp2_with fail
              go_quiet (fail)
              generalize hq9 : w4.drewN _ = wq
              have hbq : Below w4.heap.size w4 wq := by rw [← hq9]; exact below_draws _ _
              clear hq9
              have hRq := hR4h.out.kept hbq
              have hfin := Lib.hid (hRq.setBad true)
              have hrdf := Lib.hid (((hrdW.trans hdW4).trans (Rd.of_below (r := r) hbq)).trans (Rd.setCell r 2 (.bool true) wq))
              obtain ⟨sq, _, _, cq2, _, _, fq2, _, _, _⟩ := hRq.at
              have hlf : X2.length ≤ X.length := by simp only [List.length_cons] at hl1; omega
              go_wp2_with fail
              go_ret
              exact ⟨g, X2, true, rfl, hfin.out, hrdf.out, hlf, fun _ => rfl, fun _ => by rw [hcl.out]; unfold clsP2; rw [hnone.out]; trivial⟩
            · skip
              go_wp2_with fail
              go_quiet (fail)
              generalize hq9 : w4.drewN _ = wq
              have hbq : Below w4.heap.size w4 wq := by rw [← hq9]; exact below_draws _ _
              clear hq9
              have hRq := hR4h.out.kept hbq
              have hfin := Lib.hid (hRq.setBad true)
              have hrdf := Lib.hid (((hrdW.trans hdW4).trans (Rd.of_below (r := r) hbq)).trans (Rd.setCell r 2 (.bool true) wq))
              obtain ⟨sq, _, _, cq2, _, _, fq2, _, _, _⟩ := hRq.at
              have hlf : X2.length ≤ X.length := by simp only [List.length_cons] at hl1; omega
              go_wp2_with fail
              go_ret
              exact ⟨g, X2, true, rfl, hfin.out, hrdf.out, hlf, fun _ => rfl, fun _ => by rw [hcl.out]; unfold clsP2; rw [hnone.out]; trivial⟩
            · have p9 : fc < fa := hlt9
              go_wp2_with fail
              go_quiet (fail)
              generalize hq9 : w4.drewN _ = wq
              have hbq : Below w4.heap.size w4 wq := by rw [← hq9]; exact below_draws _ _
              clear hq9
              have hRq := hR4h.out.kept hbq
              have hfin := Lib.hid (hRq.setBad true)
              have hrdf := Lib.hid (((hrdW.trans hdW4).trans (Rd.of_below (r := r) hbq)).trans (Rd.setCell r 2 (.bool true) wq))
              obtain ⟨sq, _, _, cq2, _, _, fq2, _, _, _⟩ := hRq.at
              have hlf : X2.length ≤ X.length := by simp only [List.length_cons] at hl1; omega
              go_wp2_with fail
              go_ret
              exact ⟨g, X2, true, rfl, hfin.out, hrdf.out, hlf, fun _ => rfl, fun _ => by rw [hcl.out]; unfold clsP2; rw [hnone.out]; trivial⟩
          have hg9 : b2 = false ∧ one = true ∧ other = true ∧ fa ≤ fc := by
            cases b2 <;> cases one <;> cases other <;> simp_all
          obtain ⟨rfl, rfl, rfl, hle9⟩ := hg9
          clear hcond
          have hb1f : b1 = false := by cases b1 with | false => rfl | true => exact (hm2.out rfl).symm
          have hspec := Lib.hid (show (X2.length < X'.length ∧ ∃ dn : List (Nat × Nat), allS ++ [(fa, fc)] = spI dn ∧ bodyP XS = (remP false X2).map (fun q => (dn ++ q.1, q.2))) ∧ ra = [] by
            have h1 := hs1.out
            cases hsg : signP X' with
            | none => rw [hsg] at h1; rw [hb1f] at h1; cases h1
            | some q =>
              obtain ⟨sp', one', X''⟩ := q
              rw [hsg] at h1
              obtain ⟨e1, e2, e3, e4⟩ := h1
              rw [← e2, ← e3] at hsg
              have h2 := hs2.out e1
              cases hsg2 : signP R1 with
              | none => rw [hsg2] at h2; cases h2
              | some q =>
                obtain ⟨sp3, one3, X3⟩ := q
                rw [hsg2] at h2
                obtain ⟨k1, k2, k3, k4⟩ := h2
                rw [← k3, ← k2] at hsg2
                obtain ⟨u, hu⟩ := one_alone hsg
                obtain ⟨z, hz⟩ := one_alone hsg2
                subst hu; subst hz
                obtain ⟨e5, e6⟩ := List.cons.inj e4
                obtain ⟨k5, k6⟩ := List.cons.inj k4
                have q1 : fa = (u : Int) := (Prod.mk.inj e5).1
                have q2 : fc = (z : Int) := (Prod.mk.inj k5).1
                have hit : itemP X' = some ([(u, z)], X2) := by
                  rw [item_dash hsg, hsg2]
                  simp only
                  rw [if_pos ⟨rfl, show u ≤ z by omega⟩]
                  rfl
                refine ⟨⟨?_, done ++ [(u, z)], by rw [hall.out, spI_app, q1, q2]; rfl, ?_⟩, e6⟩
                · have h5 := signP_len hsg; have h6 := signP_len hsg2; simp only [List.length_cons] at h5; omega
                · rw [hbody.out, hstep.out _ _ hit, Option.map_map]
                  congr 1
                  funext q
                  simp [List.append_assoc])
          obtain ⟨hsp1, hra⟩ := hspec.out
          subst hra
          replace hspec := Lib.hid hsp1
          clear hsp1
          have p9 : decide (fc < fa) = false := decide_eq_false (by omega)
          have p99 : ¬ fc < fa := by omega
          have p999 : fa ≤ fc := hle9
          go_wp2_with fail
          go_quiet (fail)
          generalize hq9 : w4.drewN _ = wq
          have hbq : Below w4.heap.size w4 wq := by rw [← hq9]; exact below_draws _ _
          clear hq9
          have hRq := hR4h.out.kept hbq
          have hdWq := hdW4.trans (Rd.of_below (r := r) hbq)
          have hblkq := blk_kept hbq hblk4
          have hb4q := blk_kept hbq hb4
          have y2q : wq.cell? ⟨g2, 0, none⟩ = some (.int .i32 fc) := spA_get rfl hb4q
          have y1q : wq.cell? ⟨g1, 1, none⟩ = some (.int .i32 ta) := spA_get rfl hblkq
          have f1q : wq.frozen? ⟨g1, 1, none⟩ = false := by simp [World.frozen?, hblkq]
          have hbs : Below wn.heap.size wq (wq.setCell ⟨g1, 1, none⟩ (.int .i32 fc)) := (Below.refl _ wq).setCell (p := ⟨g1, 1, none⟩) (by show _ ≤ g1; omega) _
          have hdWs := hdWq.then_below hbs (Nat.le_refl _)
          have hRs9 := hRq.keptB hbs hRW.lt
          have hblks := (setCell_heap (.int .i32 fc) hblkq).trans (by rw [spA_two])
          have hsls : [(fa, fc)].length ≤ 4 := by simp
          have hnes : [(fa, fc)] ≠ [] := by simp
          clear y1 y2 c24 hR4 hb4 hblk4 hblk2 hb1
          go_upto_region 16 with fail
          generalize World.setCell _ _ _ = wz at hbs hdWs hRs9 hblks ⊢
          have hrowc := own_rd hrowW hdWs (by omega)
          have hgbc := rd_blk hdWs hgbW hgr
          have hrdc := hrdW.trans hdWs
          obtain ⟨t0, t1, ft0, ft1⟩ := two_of hgbc
          have hszc := hrdc.size
          have hgltc := (Array.getElem?_eq_some_iff.1 hgbc).1
          have hsrc := Lib.hid (fun j u (h : ([(fa, fc)].flatMap spanV)[j]? = some u) => spA_get h hblks)
          have hRc := Lib.hid hRs9
          have hslh := Lib.hid hsls
          go_wp2_with (at_builtin; refine wpList_append_any (n := allS.length) (m := [(fa, fc)].length) rfl _ _ 73 77 rfl Tryd.underlying73 info_span rfl (by decide) rfl rfl (fun h => by cases h) (flat_size spanV_len [(fa, fc)]) (fun ad had j u hu => by cases had; rw [addr_add, Nat.zero_add]; exact hsrc.out j u hu) (spanV_one [(fa, fc)]) hrowc (by have := hslh.out; unfold maxLen; omega) (by have := hslh.out; omega) (by omega) ?_; intro v' wA hA1 hA2; obtain ⟨va9, vc9, hv9, _⟩ := own_form hA1; subst hv9; have hbA := own_below hrowc hA2 (by omega); have hgbA := (hbA.block g (by omega)).trans hgbc; obtain ⟨u0, u1, fu0, fu1⟩ := two_of hgbA)
          have hgbF := setCell_heap (.slice va9 (allS.length + [(fa, fc)].length) vc9) hgbA (i := 0)
          have hbF : Below w.heap.size wz (wA.setCell ⟨g, 0, none⟩ (.slice va9 (allS.length + [(fa, fc)].length) vc9)) := (hbA.mono (by omega)).trans ((Below.refl _ wA).setCell (p := ⟨g, 0, none⟩) hgb _)
          have hRF := Lib.hid (hRc.out.keptB hbF hlt)
          have hrdF := Lib.hid (hrdc.then_below hbF (Nat.le_refl _))
          have hrowF := Lib.hid (show SpRow (g + 1) (allS ++ [(fa, fc)]) (.slice va9 (allS.length + [(fa, fc)].length) vc9) (wA.setCell ⟨g, 0, none⟩ (.slice va9 (allS.length + [(fa, fc)].length) vc9)) by unfold SpRow; rw [List.length_append, List.flatMap_append]; exact own_setB hA1 (by omega))
          have hgbF2 := Lib.hid (show (wA.setCell ⟨g, 0, none⟩ (.slice va9 (allS.length + [(fa, fc)].length) vc9)).heap[g]? = some (.cells #[(.slice va9 (allS.length + [(fa, fc)].length) vc9), .bool true] 75 (0, 0)) from hgbF)
          have hmF := Lib.hid (measR_eq hRF.out)
          have hlF : X2.length ≤ X.length := by simp only [List.length_cons] at hl1; omega
          have hlX : X2.length ≤ X'.length := by simp only [List.length_cons] at hl1; omega
          clear hgbF hgbA u1 hrowc
          go_wp2_with fail
          go_roundw
          case rel => exact ⟨false, rfl, X2, false, allS ++ [(fa, fc)], _, hRF.out, hrdF.out, hgbF2.out, hrowF.out, hlF, (fun h => by rw [hb9.out] at h; cases h), by have := hslh.out; rw [List.length_append]; omega, fun _ => ⟨by have := hspec.out.1; have := hslh.out; rw [List.length_append]; omega, fun _ => hspec.out.2⟩, fun _ h => by cases h⟩
          case measure =>
            rw [hmeas.out]
            refine Nat.lt_of_le_of_lt (Nat.le_of_eq hmF.out) ?_
            have := hspec.out.1
            rw [if_neg Bool.false_ne_true, if_neg Bool.false_ne_true]; omega
        · have p93 : (hdI X' != 93) = false := by rw [h93]; rfl
          obtain ⟨R', hR9⟩ : ∃ R', X' = 93 :: R' := by
            cases X' with
            | nil => cases h93
            | cons c R => have h := h93; exact ⟨R, by rw [show c = 93 from by have : (c : Int) = 93 := h; omega]⟩
          clear h93
          subst hR9
          go_wp2_with fail
          refine (next_any r _ d false _ hRh.out).mono ?_
          rintro e wn ⟨rfl, hbn⟩
          have hRW := hRh.out.kept hbn
          have hrdW := hrd'.trans (Rd.of_below (r := r) hbn)
          have hgbW := blk_kept hbn hgb'
          have hrowW := own_keep hrow' hbn
          clear hbn
          rw [show hdI (93 :: R') = 93 from rfl]
          go_wp2_with fail
          refine (take_any r _ d false _ hRW).mono ?_
          rintro e w2 ⟨rfl, hR2, hd2⟩
          rw [show (false || decide (93 :: R' = [])) = false by simp] at hR2
          have hfin := Lib.hid (show RD r R' d false w2 from hR2)
          have hrdf := Lib.hid (hrdW.trans hd2)
          have hgbF := rd_blk hd2 hgbW hgr
          have hrowF := own_rd hrowW hd2 (by omega)
          rw [hall.out] at hrowF
          have hcls := Lib.hid (cls_lies (B := w.heap.size) hgbF hgb hrowF)
          have hcR := Lib.hid (show classP X = some (⟨done, true⟩, R') by rw [hcl.out]; unfold clsP2; rw [hbody.out, rem_end]; simp)
          have hl9 : R'.length ≤ X.length := by simp only [List.length_cons] at hlen'; omega
          clear hgbF hrowF hgbW hrowW
          go_wp2_with fail
          go_ret
          exact ⟨g, R', false, rfl, hfin.out, hrdf.out, hl9, (fun h => by rw [hb9.out] at h; cases h), fun _ => by rw [hcR.out]; exact ⟨rfl, rfl, hcls.out⟩⟩
  · have q94 : (hdI X == 94) = false := intNe h94
    have hcl := Lib.hid (show classP X = clsP2 false X by
      cases X with
      | nil => rfl
      | cons c R =>
        have : c ≠ 94 := fun e => h94 (by rw [e]; rfl)
        rw [classP_two]; exact if_neg this)
    have hXS : X.length ≤ X.length := Nat.le_refl _
    have hRs := hR0
    have hrds := hrd0
    have hns := hn0
    clear h94 hR0 hrd0 hn0
    obtain ⟨XS, hXS9⟩ : ∃ XS, X = XS := ⟨_, rfl⟩
    have hcl2 := Lib.hid (show classP X = clsP2 false XS by rw [← hXS9]; exact hcl.out)
    have hRs2 : RD r XS d b w1 := by rw [← hXS9]; exact hRs
    have hXS2 : XS.length ≤ X.length := by rw [hXS9]; exact Nat.le_refl _
    clear hXS9 hcl hRs hXS
    have hcl := hcl2
    have hRs := hRs2
    have hXS := hXS2
    clear hcl2 hRs2 hXS2
    go_wp2_with fail
    go_loopw [4] (fun f wr => ∃ fb : Bool, f = .bool fb ∧ KlsSt r g X d b false XS w wr fb) (fun _ wr => measR r wr)
    case atStart => exact ⟨true, rfl, XS, b, [], .slice none 0 0, hRs, hrds, hns, own_nil _ _ _ _, hXS, fun h => h, by simp, fun _ => ⟨by simp; omega, fun _ => ⟨[], rfl, by simp [remP]⟩⟩, fun h1 h2 => by rw [h1] at h2; cases h2⟩
    case round =>
      obtain ⟨fb, rfl, X', b', allS, vs, hR', hrd', hgb', hrow', hlen', hmono, hal, hgood, hbad⟩ := hrel
      have hmeas := Lib.hid (measR_eq hR')
      obtain ⟨s, c0, c1, c2, f0, f1, f2, hs, hv, hX⟩ := hR'.at
      have hRh := Lib.hid hR'
      clear hR' c0 c1 f0 f1 f2 hs
      replace hmono := Lib.hid hmono
      replace hgood := Lib.hid hgood
      replace hbad := Lib.hid hbad
      cases b' with
      | true =>
        have hno := Lib.hid (show b = false → bodyP XS = none from fun h => hbad.out h rfl)
        clear hgood hbad hmono
        go_wp2_with fail
        refine (take_any r _ d true _ hRh.out).mono ?_
        rintro e w2 ⟨rfl, hR2, hd2⟩
        have hfin := Lib.hid (show RD r (X'.drop 1) d true w2 from hR2)
        have hrdf := Lib.hid (hrd'.trans hd2)
        go_wp2_with fail
        go_ret
        exact ⟨g, X'.drop 1, true, rfl, hfin.out, hrdf.out, by rw [List.length_drop]; omega, fun _ => rfl, fun h => by rw [hcl.out]; unfold clsP2; rw [hno.out h]; trivial⟩
      | false =>
        have hb9 : Hid (b = false) := Lib.hid (by cases b with | false => rfl | true => exact absurd (hmono.out rfl) (by decide))
        obtain ⟨hcap, hdone⟩ := hgood.out rfl
        obtain ⟨done, hall, hbody⟩ := hdone hb9.out
        replace hall := Lib.hid hall
        replace hbody := Lib.hid hbody
        clear hgood hbad hdone hmono
        have hgo : fb = true ∨ (fb = false ∧ hdI X' ≠ 93) ∨ (fb = false ∧ hdI X' = 93) := by
          cases fb with
          | true => exact .inl rfl
          | false => by_cases h : hdI X' = 93
                     · exact .inr (.inr ⟨rfl, h⟩)
                     · exact .inr (.inl ⟨rfl, h⟩)
        rcases hgo with rfl | ⟨rfl, h93⟩ | ⟨rfl, h93⟩
        · have hstep := Lib.hid (fun (sp : List (Nat × Nat)) (X1 : List Nat) (h : itemP X' = some (sp, X1)) => rem_step (fb := true) (.inl rfl) h)
          have hfail := Lib.hid (fun (h : itemP X' = none) => rem_fail (fb := true) (.inl rfl) h)
          have hRW := hRh.out
          have hrdW := hrd'
          have hgbW := hgb'
          have hrowW := hrow'
          go_wp2_with fail
          refine (sign9_any r _ d false _ hRW).mono ?_
          rintro e w1 ⟨v1, one, X1, b1, sp1, rfl, hR1, hd1, hF1, _, hl1, hs1⟩
          obtain ⟨g1, cap1, rfl, hg1, hne1, hsl1, hb1⟩ := hF1
          replace hs1 := Lib.hid (hs1 rfl)
          have hszW := hrdW.size
          go_wp2_with fail
          refine (next_any r _ d b1 _ hR1).mono ?_
          rintro e w2 ⟨rfl, hb2⟩
          have hR2 := hR1.kept hb2
          have hdW2 := hd1.trans (Rd.of_below (r := r) hb2)
          have hblk2 := blk_kept hb2 hb1
          by_cases h45 : hdI X1 = 45
          case neg =>
            have p45 : (hdI X1 == 45) = false := intNe h45
            have hspec := Lib.hid (show (b1 = true → bodyP XS = none) ∧ (b1 = false → X1.length < X'.length ∧ ∃ dn : List (Nat × Nat), allS ++ sp1 = spI dn ∧ bodyP XS = (remP false X1).map (fun q => (dn ++ q.1, q.2))) by
              have h1 := hs1.out
              cases hsg : signP X' with
              | none =>
                rw [hsg] at h1
                exact ⟨(fun _ => by rw [hbody.out, hfail.out (item_none hsg)]; rfl), (fun h => by rw [show b1 = true from h1] at h; cases h)⟩
              | some q =>
                obtain ⟨sp', one', X''⟩ := q
                rw [hsg] at h1
                obtain ⟨e1, e2, e3, e4⟩ := h1
                rw [← e2] at hsg
                refine ⟨(fun h => by rw [e1] at h; cases h), fun _ => ⟨signP_len hsg, done ++ sp', by rw [hall.out, e4, spI_app], ?_⟩⟩
                rw [hbody.out, hstep.out _ _ (item_alone hsg h45), Option.map_map]
                congr 1
                funext q
                simp [List.append_assoc])
            clear h45
            have hrowc := own_rd hrowW hdW2 (by omega)
            have hgbc := rd_blk hdW2 hgbW hgr
            have hrdc := hrdW.trans hdW2
            obtain ⟨t0, t1, ft0, ft1⟩ := two_of hgbc
            have hszc := hrdc.size
            have hgltc := (Array.getElem?_eq_some_iff.1 hgbc).1
            have hsrc := Lib.hid (fun j u (h : (sp1.flatMap spanV)[j]? = some u) => spA_get h hblk2)
            have hRc := Lib.hid hR2
            have hslh := Lib.hid hsl1
            go_wp2_with (at_builtin; refine wpList_append_any (n := allS.length) (m := sp1.length) rfl _ _ 73 77 rfl Tryd.underlying73 info_span rfl (by decide) rfl rfl (fun h => by cases h) (flat_size spanV_len sp1) (fun ad had j u hu => by cases had; rw [addr_add, Nat.zero_add]; exact hsrc.out j u hu) (spanV_one sp1) hrowc (by have := hslh.out; unfold maxLen; omega) (by have := hslh.out; omega) (by omega) ?_; intro v' wA hA1 hA2; obtain ⟨va9, vc9, hv9, _⟩ := own_form hA1; subst hv9; have hbA := own_below hrowc hA2 (by omega); have hgbA := (hbA.block g (by omega)).trans hgbc; obtain ⟨u0, u1, fu0, fu1⟩ := two_of hgbA)
            have hgbF := setCell_heap (.slice va9 (allS.length + sp1.length) vc9) hgbA (i := 0)
            have hbF : Below w.heap.size w2 (wA.setCell ⟨g, 0, none⟩ (.slice va9 (allS.length + sp1.length) vc9)) := (hbA.mono (by omega)).trans ((Below.refl _ wA).setCell (p := ⟨g, 0, none⟩) hgb _)
            have hRF := Lib.hid (hRc.out.keptB hbF hlt)
            have hrdF := Lib.hid (hrdc.then_below hbF (Nat.le_refl _))
            have hrowF := Lib.hid (show SpRow (g + 1) (allS ++ sp1) (.slice va9 (allS.length + sp1.length) vc9) (wA.setCell ⟨g, 0, none⟩ (.slice va9 (allS.length + sp1.length) vc9)) by unfold SpRow; rw [List.length_append, List.flatMap_append]; exact own_setB hA1 (by omega))
            have hgbF2 := Lib.hid (show (wA.setCell ⟨g, 0, none⟩ (.slice va9 (allS.length + sp1.length) vc9)).heap[g]? = some (.cells #[(.slice va9 (allS.length + sp1.length) vc9), .bool false] 75 (0, 0)) from hgbF)
            have hmF := Lib.hid (measR_eq hRF.out)
            have hlF : X1.length ≤ X.length := by omega
            have hlX : X1.length ≤ X'.length := by omega
            clear hgbF hgbA u1 hrowc
            go_wp2_with fail
            go_roundw
            case rel => exact ⟨false, rfl, X1, b1, allS ++ sp1, _, hRF.out, hrdF.out, hgbF2.out, hrowF.out, hlF, (fun h => by rw [hb9.out] at h; cases h), by have := hslh.out; rw [List.length_append]; omega, fun h => ⟨by have := (hspec.out.2 h).1; have := hslh.out; rw [List.length_append]; omega, fun _ => (hspec.out.2 h).2⟩, fun _ h => hspec.out.1 h⟩
            case measure =>
              rw [hmeas.out]
              refine Nat.lt_of_le_of_lt (Nat.le_of_eq hmF.out) ?_
              cases hb19 : b1 with
              | true => simp only [if_true]; rw [if_neg Bool.false_ne_true]; omega
              | false => have := (hspec.out.2 hb19).1; rw [if_neg Bool.false_ne_true, if_neg Bool.false_ne_true]; omega
          have p45 : (hdI X1 == 45) = true := by rw [h45]; rfl
          obtain ⟨R1, hR9⟩ : ∃ R1, X1 = 45 :: R1 := by
            cases X1 with
            | nil => cases h45
            | cons c R => have h := h45; exact ⟨R, by rw [show c = 45 from by have : (c : Int) = 45 := h; omega]⟩
          clear h45
          subst hR9
          go_wp2_with fail
          refine (take_any r _ d b1 _ hR2).mono ?_
          rintro e w3 ⟨rfl, hR3, hd3⟩
          rw [show (b1 || decide (45 :: R1 = [])) = b1 by simp, show (45 :: R1).drop 1 = R1 from rfl] at hR3
          go_wp2_with fail
          refine (sign9_any r _ d b1 _ hR3).mono ?_
          rintro e w4 ⟨v2, other, X2, b2, sp2, rfl, hR4, hd4, hF2, hm2, hl2, hs2⟩
          obtain ⟨g2, cap2, rfl, hg2, hne2, hsl2, hb4⟩ := hF2
          have hdW4 := (hdW2.trans hd3).trans hd4
          have hsz2 := hb2.size
          have hsz3 := hd3.size
          have hsz4 := hd4.size
          have hsz1 := hd1.size
          have hg1lt := (Array.getElem?_eq_some_iff.1 hblk2).1
          have hgr1 : g1 ≠ r := by have := hRh.out.lt; have := hRW.lt; omega
          have hblk4 := rd_blk (hd3.trans hd4) hblk2 hgr1
          replace hs2 := Lib.hid hs2
          replace hm2 := Lib.hid hm2
          obtain ⟨⟨fa, ta⟩, ra, rfl⟩ := List.exists_cons_of_ne_nil hne1
          obtain ⟨⟨fc, tc⟩, rc, rfl⟩ := List.exists_cons_of_ne_nil hne2
          have y1 : w4.cell? ⟨g1, 0, none⟩ = some (.int .i32 fa) := spA_get rfl hblk4
          have y2 : w4.cell? ⟨g2, 0, none⟩ = some (.int .i32 fc) := spA_get rfl hb4
          have hR4h := Lib.hid hR4
          obtain ⟨s4, _, _, c24, _, _, _, _, _, _⟩ := hR4.at
          have l1 : (0 : Int) < (((fa, ta) :: ra).length : Int) := by simp only [List.length_cons]; omega
          have l2 : (0 : Int) < (((fc, tc) :: rc).length : Int) := by simp only [List.length_cons]; omega
          have l11 : (0 : Int) < (ra.length : Int) + 1 := by omega
          have l22 : (0 : Int) < (rc.length : Int) + 1 := by omega
          have hbadC := Lib.hid (show (b2 = true ∨ one = false ∨ other = false ∨ fc < fa) → bodyP XS = none from fun hor => by
            rw [hbody.out, hfail.out ?_]
            · rfl
            have h1 := hs1.out
            cases hsg : signP X' with
            | none => exact item_none hsg
            | some q =>
              obtain ⟨sp', one', X''⟩ := q
              rw [hsg] at h1
              obtain ⟨e1, e2, e3, e4⟩ := h1
              rw [← e2, ← e3] at hsg
              rw [item_dash hsg]
              have h2 := hs2.out e1
              cases hsg2 : signP R1 with
              | none => rfl
              | some q =>
                obtain ⟨sp3, one3, X3⟩ := q
                rw [hsg2] at h2
                obtain ⟨k1, k2, k3, k4⟩ := h2
                rw [← k3] at hsg2
                simp only
                rw [if_neg]
                rintro ⟨a1, a2⟩
                rw [← k3] at a1
                obtain ⟨o1, o2⟩ := Bool.and_eq_true_iff.1 a1
                rcases hor with h | h | h | h
                · rw [k1] at h; cases h
                · rw [o1] at h; cases h
                · rw [o2] at h; cases h
                · rw [o1] at hsg; rw [o2] at hsg2
                  obtain ⟨u, hu⟩ := one_alone hsg
                  obtain ⟨z, hz⟩ := one_alone hsg2
                  subst hu; subst hz
                  have q1 : fa = (u : Int) := by have := (List.cons.inj e4).1; exact (Prod.mk.inj this).1
                  have q2 : fc = (z : Int) := by have := (List.cons.inj k4).1; exact (Prod.mk.inj this).1
                  have q3 : u ≤ z := a2
                  omega)
          by_cases hcond : b2 = true ∨ one = false ∨ other = false ∨ fc < fa
          case pos =>
            have hnone := Lib.hid (hbadC.out hcond)
            have hcase : b2 = true ∨ (b2 = false ∧ one = false) ∨ (b2 = false ∧ one = true ∧ other = false) ∨ (b2 = false ∧ one = true ∧ other = true ∧ fc < fa) := by
              cases b2 <;> cases one <;> cases other <;> simp_all
            clear hcond
            rcases hcase with rfl | ⟨rfl, rfl⟩ | ⟨rfl, rfl, rfl⟩ | ⟨rfl, rfl, rfl, hlt9⟩
            · skip
              go_wp2_with fail
              go_quiet (fail)
              generalize hq9 : w4.drewN _ = wq
              have hbq : Below w4.heap.size w4 wq := by rw [← hq9]; exact below_draws _ _
              clear hq9
              have hRq := hR4h.out.kept hbq
              have hfin := Lib.hid (hRq.setBad true)
              have hrdf := Lib.hid (((hrdW.trans hdW4).trans (Rd.of_below (r := r) hbq)).trans (Rd.setCell r 2 (.bool true) wq))
              obtain ⟨sq, _, _, cq2, _, _, fq2, _, _, _⟩ := hRq.at
              have hlf : X2.length ≤ X.length := by simp only [List.length_cons] at hl1; omega
              go_wp2_with fail
              go_ret
              exact ⟨g, X2, true, rfl, hfin.out, hrdf.out, hlf, fun _ => rfl, fun _ => by rw [hcl.out]; unfold clsP2; rw [hnone.out]; trivial⟩
            · skip
              go_wp2_with fail
              go_quiet (fail)
              generalize hq9 : w4.drewN _ = wq
              have hbq : Below w4.heap.size w4 wq := by rw [← hq9]; exact below_draws _ _
              clear hq9
              have hRq := hR4h.out.kept hbq
              have hfin := Lib.hid (hRq.setBad true)
              have hrdf := Lib.hid (((hrdW.trans hdW4).trans (Rd.of_below (r := r) hbq)).trans (Rd.setCell r 2 (.bool true) wq))
              obtain ⟨sq, _, _, cq2, _, _, fq2, _, _, _⟩ := hRq.at
              have hlf : X2.length ≤ X.length := by simp only [List.length_cons] at hl1; omega
              go_wp2_with fail
              go_ret
              exact ⟨g, X2, true, rfl, hfin.out, hrdf.out, hlf, fun _ => rfl, fun _ => by rw [hcl.out]; unfold clsP2; rw [hnone.out]; trivial⟩
            · skip
              go_wp2_with fail
              go_quiet (fail)
              generalize hq9 : w4.drewN _ = wq
              have hbq : Below w4.heap.size w4 wq := by rw [← hq9]; exact below_draws _ _
              clear hq9
              have hRq := hR4h.out.kept hbq
              have hfin := Lib.hid (hRq.setBad true)
              have hrdf := Lib.hid (((hrdW.trans hdW4).trans (Rd.of_below (r := r) hbq)).trans (Rd.setCell r 2 (.bool true) wq))
              obtain ⟨sq, _, _, cq2, _, _, fq2, _, _, _⟩ := hRq.at
              have hlf : X2.length ≤ X.length := by simp only [List.length_cons] at hl1; omega
              go_wp2_with fail
              go_ret
              exact ⟨g, X2, true, rfl, hfin.out, hrdf.out, hlf, fun _ => rfl, fun _ => by rw [hcl.out]; unfold clsP2; rw [hnone.out]; trivial⟩
            · have p9 : fc < fa := hlt9
              go_wp2_with fail
              go_quiet (fail)
              generalize hq9 : w4.drewN _ = wq
              have hbq : Below w4.heap.size w4 wq := by rw [← hq9]; exact below_draws _ _
              clear hq9
              have hRq := hR4h.out.kept hbq
              have hfin := Lib.hid (hRq.setBad true)
              have hrdf := Lib.hid (((hrdW.trans hdW4).trans (Rd.of_below (r := r) hbq)).trans (Rd.setCell r 2 (.bool true) wq))
              obtain ⟨sq, _, _, cq2, _, _, fq2, _, _, _⟩ := hRq.at
              have hlf : X2.length ≤ X.length := by simp only [List.length_cons] at hl1; omega
              go_wp2_with fail
              go_ret
              exact ⟨g, X2, true, rfl, hfin.out, hrdf.out, hlf, fun _ => rfl, fun _ => by rw [hcl.out]; unfold clsP2; rw [hnone.out]; trivial⟩
          have hg9 : b2 = false ∧ one = true ∧ other = true ∧ fa ≤ fc := by
            cases b2 <;> cases one <;> cases other <;> simp_all
          obtain ⟨rfl, rfl, rfl, hle9⟩ := hg9
          clear hcond
          have hb1f : b1 = false := by cases b1 with | false => rfl | true => exact (hm2.out rfl).symm
          have hspec := Lib.hid (show (X2.length < X'.length ∧ ∃ dn : List (Nat × Nat), allS ++ [(fa, fc)] = spI dn ∧ bodyP XS = (remP false X2).map (fun q => (dn ++ q.1, q.2))) ∧ ra = [] by
            have h1 := hs1.out
            cases hsg : signP X' with
            | none => rw [hsg] at h1; rw [hb1f] at h1; cases h1
            | some q =>
              obtain ⟨sp', one', X''⟩ := q
              rw [hsg] at h1
              obtain ⟨e1, e2, e3, e4⟩ := h1
              rw [← e2, ← e3] at hsg
              have h2 := hs2.out e1
              cases hsg2 : signP R1 with
              | none => rw [hsg2] at h2; cases h2
              | some q =>
                obtain ⟨sp3, one3, X3⟩ := q
                rw [hsg2] at h2
                obtain ⟨k1, k2, k3, k4⟩ := h2
                rw [← k3, ← k2] at hsg2
                obtain ⟨u, hu⟩ := one_alone hsg
                obtain ⟨z, hz⟩ := one_alone hsg2
                subst hu; subst hz
                obtain ⟨e5, e6⟩ := List.cons.inj e4
                obtain ⟨k5, k6⟩ := List.cons.inj k4
                have q1 : fa = (u : Int) := (Prod.mk.inj e5).1
                have q2 : fc = (z : Int) := (Prod.mk.inj k5).1
                have hit : itemP X' = some ([(u, z)], X2) := by
                  rw [item_dash hsg, hsg2]
                  simp only
                  rw [if_pos ⟨rfl, show u ≤ z by omega⟩]
                  rfl
                refine ⟨⟨?_, done ++ [(u, z)], by rw [hall.out, spI_app, q1, q2]; rfl, ?_⟩, e6⟩
                · have h5 := signP_len hsg; have h6 := signP_len hsg2; simp only [List.length_cons] at h5; omega
                · rw [hbody.out, hstep.out _ _ hit, Option.map_map]
                  congr 1
                  funext q
                  simp [List.append_assoc])
          obtain ⟨hsp1, hra⟩ := hspec.out
          subst hra
          replace hspec := Lib.hid hsp1
          clear hsp1
          have p9 : decide (fc < fa) = false := decide_eq_false (by omega)
          have p99 : ¬ fc < fa := by omega
          have p999 : fa ≤ fc := hle9
          go_wp2_with fail
          go_quiet (fail)
          generalize hq9 : w4.drewN _ = wq
          have hbq : Below w4.heap.size w4 wq := by rw [← hq9]; exact below_draws _ _
          clear hq9
          have hRq := hR4h.out.kept hbq
          have hdWq := hdW4.trans (Rd.of_below (r := r) hbq)
          have hblkq := blk_kept hbq hblk4
          have hb4q := blk_kept hbq hb4
          have y2q : wq.cell? ⟨g2, 0, none⟩ = some (.int .i32 fc) := spA_get rfl hb4q
          have y1q : wq.cell? ⟨g1, 1, none⟩ = some (.int .i32 ta) := spA_get rfl hblkq
          have f1q : wq.frozen? ⟨g1, 1, none⟩ = false := by simp [World.frozen?, hblkq]
          have hbs : Below wr.heap.size wq (wq.setCell ⟨g1, 1, none⟩ (.int .i32 fc)) := (Below.refl _ wq).setCell (p := ⟨g1, 1, none⟩) (by show _ ≤ g1; omega) _
          have hdWs := hdWq.then_below hbs (Nat.le_refl _)
          have hRs9 := hRq.keptB hbs hRW.lt
          have hblks := (setCell_heap (.int .i32 fc) hblkq).trans (by rw [spA_two])
          have hsls : [(fa, fc)].length ≤ 4 := by simp
          have hnes : [(fa, fc)] ≠ [] := by simp
          clear y1 y2 c24 hR4 hb4 hblk4 hblk2 hb1
          go_upto_region 16 with fail
          generalize World.setCell _ _ _ = wz at hbs hdWs hRs9 hblks ⊢
          have hrowc := own_rd hrowW hdWs (by omega)
          have hgbc := rd_blk hdWs hgbW hgr
          have hrdc := hrdW.trans hdWs
          obtain ⟨t0, t1, ft0, ft1⟩ := two_of hgbc
          have hszc := hrdc.size
          have hgltc := (Array.getElem?_eq_some_iff.1 hgbc).1
          have hsrc := Lib.hid (fun j u (h : ([(fa, fc)].flatMap spanV)[j]? = some u) => spA_get h hblks)
          have hRc := Lib.hid hRs9
          have hslh := Lib.hid hsls
          go_wp2_with (at_builtin; refine wpList_append_any (n := allS.length) (m := [(fa, fc)].length) rfl _ _ 73 77 rfl Tryd.underlying73 info_span rfl (by decide) rfl rfl (fun h => by cases h) (flat_size spanV_len [(fa, fc)]) (fun ad had j u hu => by cases had; rw [addr_add, Nat.zero_add]; exact hsrc.out j u hu) (spanV_one [(fa, fc)]) hrowc (by have := hslh.out; unfold maxLen; omega) (by have := hslh.out; omega) (by omega) ?_; intro v' wA hA1 hA2; obtain ⟨va9, vc9, hv9, _⟩ := own_form hA1; subst hv9; have hbA := own_below hrowc hA2 (by omega); have hgbA := (hbA.block g (by omega)).trans hgbc; obtain ⟨u0, u1, fu0, fu1⟩ := two_of hgbA)
          have hgbF := setCell_heap (.slice va9 (allS.length + [(fa, fc)].length) vc9) hgbA (i := 0)
          have hbF : Below w.heap.size wz (wA.setCell ⟨g, 0, none⟩ (.slice va9 (allS.length + [(fa, fc)].length) vc9)) := (hbA.mono (by omega)).trans ((Below.refl _ wA).setCell (p := ⟨g, 0, none⟩) hgb _)
          have hRF := Lib.hid (hRc.out.keptB hbF hlt)
          have hrdF := Lib.hid (hrdc.then_below hbF (Nat.le_refl _))
          have hrowF := Lib.hid (show SpRow (g + 1) (allS ++ [(fa, fc)]) (.slice va9 (allS.length + [(fa, fc)].length) vc9) (wA.setCell ⟨g, 0, none⟩ (.slice va9 (allS.length + [(fa, fc)].length) vc9)) by unfold SpRow; rw [List.length_append, List.flatMap_append]; exact own_setB hA1 (by omega))
          have hgbF2 := Lib.hid (show (wA.setCell ⟨g, 0, none⟩ (.slice va9 (allS.length + [(fa, fc)].length) vc9)).heap[g]? = some (.cells #[(.slice va9 (allS.length + [(fa, fc)].length) vc9), .bool false] 75 (0, 0)) from hgbF)
          have hmF := Lib.hid (measR_eq hRF.out)
          have hlF : X2.length ≤ X.length := by simp only [List.length_cons] at hl1; omega
          have hlX : X2.length ≤ X'.length := by simp only [List.length_cons] at hl1; omega
          clear hgbF hgbA u1 hrowc
          go_wp2_with fail
          go_roundw
          case rel => exact ⟨false, rfl, X2, false, allS ++ [(fa, fc)], _, hRF.out, hrdF.out, hgbF2.out, hrowF.out, hlF, (fun h => by rw [hb9.out] at h; cases h), by have := hslh.out; rw [List.length_append]; omega, fun _ => ⟨by have := hspec.out.1; have := hslh.out; rw [List.length_append]; omega, fun _ => hspec.out.2⟩, fun _ h => by cases h⟩
          case measure =>
            rw [hmeas.out]
            refine Nat.lt_of_le_of_lt (Nat.le_of_eq hmF.out) ?_
            have := hspec.out.1
            rw [if_neg Bool.false_ne_true, if_neg Bool.false_ne_true]; omega
        · have hstep := Lib.hid (fun (sp : List (Nat × Nat)) (X1 : List Nat) (h : itemP X' = some (sp, X1)) => rem_step (fb := false) (.inr h93) h)
          have hfail := Lib.hid (fun (h : itemP X' = none) => rem_fail (fb := false) (.inr h93) h)
          have p93 : (hdI X' != 93) = true := by rw [bne, intNe h93]; rfl
          clear h93
          go_wp2_with fail
          refine (next_any r _ d false _ hRh.out).mono ?_
          rintro e wn ⟨rfl, hbn⟩
          have hRW := hRh.out.kept hbn
          have hrdW := hrd'.trans (Rd.of_below (r := r) hbn)
          have hgbW := blk_kept hbn hgb'
          have hrowW := own_keep hrow' hbn
          clear hbn
          go_wp2_with fail
          refine (sign9_any r _ d false _ hRW).mono ?_
          rintro e w1 ⟨v1, one, X1, b1, sp1, rfl, hR1, hd1, hF1, _, hl1, hs1⟩
          obtain ⟨g1, cap1, rfl, hg1, hne1, hsl1, hb1⟩ := hF1
          replace hs1 := Lib.hid (hs1 rfl)
          have hszW := hrdW.size
          go_wp2_with fail
          refine (next_any r _ d b1 _ hR1).mono ?_
          rintro e w2 ⟨rfl, hb2⟩
          have hR2 := hR1.kept hb2
          have hdW2 := hd1.trans (Rd.of_below (r := r) hb2)
          have hblk2 := blk_kept hb2 hb1
          by_cases h45 : hdI X1 = 45
          case neg =>
            have p45 : (hdI X1 == 45) = false := intNe h45
            have hspec := Lib.hid (show (b1 = true → bodyP XS = none) ∧ (b1 = false → X1.length < X'.length ∧ ∃ dn : List (Nat × Nat), allS ++ sp1 = spI dn ∧ bodyP XS = (remP false X1).map (fun q => (dn ++ q.1, q.2))) by
              have h1 := hs1.out
              cases hsg : signP X' with
              | none =>
                rw [hsg] at h1
                exact ⟨(fun _ => by rw [hbody.out, hfail.out (item_none hsg)]; rfl), (fun h => by rw [show b1 = true from h1] at h; cases h)⟩
              | some q =>
                obtain ⟨sp', one', X''⟩ := q
                rw [hsg] at h1
                obtain ⟨e1, e2, e3, e4⟩ := h1
                rw [← e2] at hsg
                refine ⟨(fun h => by rw [e1] at h; cases h), fun _ => ⟨signP_len hsg, done ++ sp', by rw [hall.out, e4, spI_app], ?_⟩⟩
                rw [hbody.out, hstep.out _ _ (item_alone hsg h45), Option.map_map]
                congr 1
                funext q
                simp [List.append_assoc])
            clear h45
            have hrowc := own_rd hrowW hdW2 (by omega)
            have hgbc := rd_blk hdW2 hgbW hgr
            have hrdc := hrdW.trans hdW2
            obtain ⟨t0, t1, ft0, ft1⟩ := two_of hgbc
            have hszc := hrdc.size
            have hgltc := (Array.getElem?_eq_some_iff.1 hgbc).1
            have hsrc := Lib.hid (fun j u (h : (sp1.flatMap spanV)[j]? = some u) => spA_get h hblk2)
            have hRc := Lib.hid hR2
            have hslh := Lib.hid hsl1
            go_wp2_with (at_builtin; refine wpList_append_any (n := allS.length) (m := sp1.length) rfl _ _ 73 77 rfl Tryd.underlying73 info_span rfl (by decide) rfl rfl (fun h => by cases h) (flat_size spanV_len sp1) (fun ad had j u hu => by cases had; rw [addr_add, Nat.zero_add]; exact hsrc.out j u hu) (spanV_one sp1) hrowc (by have := hslh.out; unfold maxLen; omega) (by have := hslh.out; omega) (by omega) ?_; intro v' wA hA1 hA2; obtain ⟨va9, vc9, hv9, _⟩ := own_form hA1; subst hv9; have hbA := own_below hrowc hA2 (by omega); have hgbA := (hbA.block g (by omega)).trans hgbc; obtain ⟨u0, u1, fu0, fu1⟩ := two_of hgbA)
            have hgbF := setCell_heap (.slice va9 (allS.length + sp1.length) vc9) hgbA (i := 0)
            have hbF : Below w.heap.size w2 (wA.setCell ⟨g, 0, none⟩ (.slice va9 (allS.length + sp1.length) vc9)) := (hbA.mono (by omega)).trans ((Below.refl _ wA).setCell (p := ⟨g, 0, none⟩) hgb _)
            have hRF := Lib.hid (hRc.out.keptB hbF hlt)
            have hrdF := Lib.hid (hrdc.then_below hbF (Nat.le_refl _))
            have hrowF := Lib.hid (show SpRow (g + 1) (allS ++ sp1) (.slice va9 (allS.length + sp1.length) vc9) (wA.setCell ⟨g, 0, none⟩ (.slice va9 (allS.length + sp1.length) vc9)) by unfold SpRow; rw [List.length_append, List.flatMap_append]; exact own_setB hA1 (by omega))
            have hgbF2 := Lib.hid (show (wA.setCell ⟨g, 0, none⟩ (.slice va9 (allS.length + sp1.length) vc9)).heap[g]? = some (.cells #[(.slice va9 (allS.length + sp1.length) vc9), .bool false] 75 (0, 0)) from hgbF)
            have hmF := Lib.hid (measR_eq hRF.out)
            have hlF : X1.length ≤ X.length := by omega
            have hlX : X1.length ≤ X'.length := by omega
            clear hgbF hgbA u1 hrowc
            go_wp2_with fail
            go_roundw
            case rel => exact ⟨false, rfl, X1, b1, allS ++ sp1, _, hRF.out, hrdF.out, hgbF2.out, hrowF.out, hlF, (fun h => by rw [hb9.out] at h; cases h), by have := hslh.out; rw [List.length_append]; omega, fun h => ⟨by have := (hspec.out.2 h).1; have := hslh.out; rw [List.length_append]; omega, fun _ => (hspec.out.2 h).2⟩, fun _ h => hspec.out.1 h⟩
            case measure =>
              rw [hmeas.out]
              refine Nat.lt_of_le_of_lt (Nat.le_of_eq hmF.out) ?_
              cases hb19 : b1 with
              | true => simp only [if_true]; rw [if_neg Bool.false_ne_true]; omega
              | false => have := (hspec.out.2 hb19).1; rw [if_neg Bool.false_ne_true, if_neg Bool.false_ne_true]; omega
          have p45 : (hdI X1 == 45) = true := by rw [h45]; rfl
          obtain ⟨R1, hR9⟩ : ∃ R1, X1 = 45 :: R1 := by
            cases X1 with
            | nil => cases h45
            | cons c R => have h := h45; exact ⟨R, by rw [show c = 45 from by have : (c : Int) = 45 := h; omega]⟩
          clear h45
          subst hR9
          go_wp2_with fail
          refine (take_any r _ d b1 _ hR2).mono ?_
          rintro e w3 ⟨rfl, hR3, hd3⟩
          rw [show (b1 || decide (45 :: R1 = [])) = b1 by simp, show (45 :: R1).drop 1 = R1 from rfl] at hR3
          go_wp2_with fail
          refine (sign9_any r _ d b1 _ hR3).mono ?_
          rintro e w4 ⟨v2, other, X2, b2, sp2, rfl, hR4, hd4, hF2, hm2, hl2, hs2⟩
          obtain ⟨g2, cap2, rfl, hg2, hne2, hsl2, hb4⟩ := hF2
          have hdW4 := (hdW2.trans hd3).trans hd4
          have hsz2 := hb2.size
          have hsz3 := hd3.size
          have hsz4 := hd4.size
          have hsz1 := hd1.size
          have hg1lt := (Array.getElem?_eq_some_iff.1 hblk2).1
          have hgr1 : g1 ≠ r := by have := hRh.out.lt; have := hRW.lt; omega
          have hblk4 := rd_blk (hd3.trans hd4) hblk2 hgr1
          replace hs2 := Lib.hid hs2
          replace hm2 := Lib.hid hm2
          obtain ⟨⟨fa, ta⟩, ra, rfl⟩ := List.exists_cons_of_ne_nil hne1
          obtain ⟨⟨fc, tc⟩, rc, rfl⟩ := List.exists_cons_of_ne_nil hne2
          have y1 : w4.cell? ⟨g1, 0, none⟩ = some (.int .i32 fa) := spA_get rfl hblk4
          have y2 : w4.cell? ⟨g2, 0, none⟩ = some (.int .i32 fc) := spA_get rfl hb4
          have hR4h := Lib.hid hR4
          obtain ⟨s4, _, _, c24, _, _, _, _, _, _⟩ := hR4.at
          have l1 : (0 : Int) < (((fa, ta) :: ra).length : Int) := by simp only [List.length_cons]; omega
          have l2 : (0 : Int) < (((fc, tc) :: rc).length : Int) := by simp only [List.length_cons]; omega
          have l11 : (0 : Int) < (ra.length : Int) + 1 := by omega
          have l22 : (0 : Int) < (rc.length : Int) + 1 := by omega
          have hbadC := Lib.hid (show (b2 = true ∨ one = false ∨ other = false ∨ fc < fa) → bodyP XS = none from fun hor => by
            rw [hbody.out, hfail.out ?_]
            · rfl
            have h1 := hs1.out
            cases hsg : signP X' with
            | none => exact item_none hsg
            | some q =>
              obtain ⟨sp', one', X''⟩ := q
              rw [hsg] at h1
              obtain ⟨e1, e2, e3, e4⟩ := h1
              rw [← e2, ← e3] at hsg
              rw [item_dash hsg]
              have h2 := hs2.out e1
              cases hsg2 : signP R1 with
              | none => rfl
              | some q =>
                obtain ⟨sp3, one3, X3⟩ := q
                rw [hsg2] at h2
                obtain ⟨k1, k2, k3, k4⟩ := h2
                rw [← k3] at hsg2
                simp only
                rw [if_neg]
                rintro ⟨a1, a2⟩
                rw [← k3] at a1
                obtain ⟨o1, o2⟩ := Bool.and_eq_true_iff.1 a1
                rcases hor with h | h | h | h
                · rw [k1] at h; cases h
                · rw [o1] at h; cases h
                · rw [o2] at h; cases h
                · rw [o1] at hsg; rw [o2] at hsg2
                  obtain ⟨u, hu⟩ := one_alone hsg
                  obtain ⟨z, hz⟩ := one_alone hsg2
                  subst hu; subst hz
                  have q1 : fa = (u : Int) := by have := (List.cons.inj e4).1; exact (Prod.mk.inj this).1
                  have q2 : fc = (z : Int) := by have := (List.cons.inj k4).1; exact (Prod.mk.inj this).1
                  have q3 : u ≤ z := a2
                  omega)
          by_cases hcond : b2 = true ∨ one = false ∨ other = false ∨ fc < fa
          case pos =>
            have hnone := Lib.hid (hbadC.out hcond)
            have hcase : b2 = true ∨ (b2 = false ∧ one = false) ∨ (b2 = false ∧ one = true ∧ other = false) ∨ (b2 = false ∧ one = true ∧ other = true ∧ fc < fa) := by
              cases b2 <;> cases one <;> cases other <;> simp_all
            clear hcond
            rcases hcase with rfl | ⟨rfl, rfl⟩ | ⟨rfl, rfl, rfl⟩ | ⟨rfl, rfl, rfl, hlt9⟩
            · skip
              go_wp2_with fail
              go_quiet (fail)
              generalize hq9 : w4.drewN _ = wq
              have hbq : Below w4.heap.size w4 wq := by rw [← hq9]; exact below_draws _ _
              clear hq9
              have hRq := hR4h.out.kept hbq
              have hfin := Lib.hid (hRq.setBad true)
              have hrdf := Lib.hid (((hrdW.trans hdW4).trans (Rd.of_below (r := r) hbq)).trans (Rd.setCell r 2 (.bool true) wq))
              obtain ⟨sq, _, _, cq2, _, _, fq2, _, _, _⟩ := hRq.at
              have hlf : X2.length ≤ X.length := by simp only [List.length_cons] at hl1; omega
              go_wp2_with fail
              go_ret
              exact ⟨g, X2, true, rfl, hfin.out, hrdf.out, hlf, fun _ => rfl, fun _ => by rw [hcl.out]; unfold clsP2; rw [hnone.out]; trivial⟩
            · skip
              go_wp2_with fail
              go_quiet (fail)
              generalize hq9 : w4.drewN _ = wq
              have hbq : Below w4.heap.size w4 wq := by rw [← hq9]; exact below_draws _ _
              clear hq9
              have hRq := hR4h.out.kept hbq
              have hfin := Lib.hid (hRq.setBad true)
              have hrdf := Lib.hid (((hrdW.trans hdW4).trans (Rd.of_below (r := r) hbq)).trans (Rd.setCell r 2 (.bool true) wq))
              obtain ⟨sq, _, _, cq2, _, _, fq2, _, _, _⟩ := hRq.at
              have hlf : X2.length ≤ X.length := by simp only [List.length_cons] at hl1; omega
              go_wp2_with fail
              go_ret
              exact ⟨g, X2, true, rfl, hfin.out, hrdf.out, hlf, fun _ => rfl, fun _ => by rw [hcl.out]; unfold clsP2; rw [hnone.out]; trivial⟩
            · skip
              go_wp2_with fail
              go_quiet (fail)
              generalize hq9 : w4.drewN _ = wq
              have hbq : Below w4.heap.size w4 wq := by rw [← hq9]; exact below_draws _ _
              clear hq9
              have hRq := hR4h.out.kept hbq
              have hfin := Lib.hid (hRq.setBad true)
              have hrdf := Lib.hid (((hrdW.trans hdW4).trans (Rd.of_below (r := r) hbq)).trans (Rd.setCell r 2 (.bool true) wq))
              obtain ⟨sq, _, _, cq2, _, _, fq2, _, _, _⟩ := hRq.at
              have hlf : X2.length ≤ X.length := by simp only [List.length_cons] at hl1; omega
              go_wp2_with fail
              go_ret
              exact ⟨g, X2, true, rfl, hfin.out, hrdf.out, hlf, fun _ => rfl, fun _ => by rw [hcl.out]; unfold clsP2; rw [hnone.out]; trivial⟩
            · have p9 : fc < fa := hlt9
              go_wp2_with fail
              go_quiet (fail)
              generalize hq9 : w4.drewN _ = wq
              have hbq : Below w4.heap.size w4 wq := by rw [← hq9]; exact below_draws _ _
              clear hq9
              have hRq := hR4h.out.kept hbq
              have hfin := Lib.hid (hRq.setBad true)
              have hrdf := Lib.hid (((hrdW.trans hdW4).trans (Rd.of_below (r := r) hbq)).trans (Rd.setCell r 2 (.bool true) wq))
              obtain ⟨sq, _, _, cq2, _, _, fq2, _, _, _⟩ := hRq.at
              have hlf : X2.length ≤ X.length := by simp only [List.length_cons] at hl1; omega
              go_wp2_with fail
              go_ret
              exact ⟨g, X2, true, rfl, hfin.out, hrdf.out, hlf, fun _ => rfl, fun _ => by rw [hcl.out]; unfold clsP2; rw [hnone.out]; trivial⟩
          have hg9 : b2 = false ∧ one = true ∧ other = true ∧ fa ≤ fc := by
            cases b2 <;> cases one <;> cases other <;> simp_all
          obtain ⟨rfl, rfl, rfl, hle9⟩ := hg9
          clear hcond
          have hb1f : b1 = false := by cases b1 with | false => rfl | true => exact (hm2.out rfl).symm
          have hspec := Lib.hid (show (X2.length < X'.length ∧ ∃ dn : List (Nat × Nat), allS ++ [(fa, fc)] = spI dn ∧ bodyP XS = (remP false X2).map (fun q => (dn ++ q.1, q.2))) ∧ ra = [] by
            have h1 := hs1.out
            cases hsg : signP X' with
            | none => rw [hsg] at h1; rw [hb1f] at h1; cases h1
            | some q =>
              obtain ⟨sp', one', X''⟩ := q
              rw [hsg] at h1
              obtain ⟨e1, e2, e3, e4⟩ := h1
              rw [← e2, ← e3] at hsg
              have h2 := hs2.out e1
              cases hsg2 : signP R1 with
              | none => rw [hsg2] at h2; cases h2
              | some q =>
                obtain ⟨sp3, one3, X3⟩ := q
                rw [hsg2] at h2
                obtain ⟨k1, k2, k3, k4⟩ := h2
                rw [← k3, ← k2] at hsg2
                obtain ⟨u, hu⟩ := one_alone hsg
                obtain ⟨z, hz⟩ := one_alone hsg2
                subst hu; subst hz
                obtain ⟨e5, e6⟩ := List.cons.inj e4
                obtain ⟨k5, k6⟩ := List.cons.inj k4
                have q1 : fa = (u : Int) := (Prod.mk.inj e5).1
                have q2 : fc = (z : Int) := (Prod.mk.inj k5).1
                have hit : itemP X' = some ([(u, z)], X2) := by
                  rw [item_dash hsg, hsg2]
                  simp only
                  rw [if_pos ⟨rfl, show u ≤ z by omega⟩]
                  rfl
                refine ⟨⟨?_, done ++ [(u, z)], by rw [hall.out, spI_app, q1, q2]; rfl, ?_⟩, e6⟩
                · have h5 := signP_len hsg; have h6 := signP_len hsg2; simp only [List.length_cons] at h5; omega
                · rw [hbody.out, hstep.out _ _ hit, Option.map_map]
                  congr 1
                  funext q
                  simp [List.append_assoc])
          obtain ⟨hsp1, hra⟩ := hspec.out
          subst hra
          replace hspec := Lib.hid hsp1
          clear hsp1
          have p9 : decide (fc < fa) = false := decide_eq_false (by omega)
          have p99 : ¬ fc < fa := by omega
          have p999 : fa ≤ fc := hle9
          go_wp2_with fail
          go_quiet (fail)
          generalize hq9 : w4.drewN _ = wq
          have hbq : Below w4.heap.size w4 wq := by rw [← hq9]; exact below_draws _ _
          clear hq9
          have hRq := hR4h.out.kept hbq
          have hdWq := hdW4.trans (Rd.of_below (r := r) hbq)
          have hblkq := blk_kept hbq hblk4
          have hb4q := blk_kept hbq hb4
          have y2q : wq.cell? ⟨g2, 0, none⟩ = some (.int .i32 fc) := spA_get rfl hb4q
          have y1q : wq.cell? ⟨g1, 1, none⟩ = some (.int .i32 ta) := spA_get rfl hblkq
          have f1q : wq.frozen? ⟨g1, 1, none⟩ = false := by simp [World.frozen?, hblkq]
          have hbs : Below wn.heap.size wq (wq.setCell ⟨g1, 1, none⟩ (.int .i32 fc)) := (Below.refl _ wq).setCell (p := ⟨g1, 1, none⟩) (by show _ ≤ g1; omega) _
          have hdWs := hdWq.then_below hbs (Nat.le_refl _)
          have hRs9 := hRq.keptB hbs hRW.lt
          have hblks := (setCell_heap (.int .i32 fc) hblkq).trans (by rw [spA_two])
          have hsls : [(fa, fc)].length ≤ 4 := by simp
          have hnes : [(fa, fc)] ≠ [] := by simp
          clear y1 y2 c24 hR4 hb4 hblk4 hblk2 hb1
          go_upto_region 16 with fail
          generalize World.setCell _ _ _ = wz at hbs hdWs hRs9 hblks ⊢
          have hrowc := own_rd hrowW hdWs (by omega)
          have hgbc := rd_blk hdWs hgbW hgr
          have hrdc := hrdW.trans hdWs
          obtain ⟨t0, t1, ft0, ft1⟩ := two_of hgbc
          have hszc := hrdc.size
          have hgltc := (Array.getElem?_eq_some_iff.1 hgbc).1
          have hsrc := Lib.hid (fun j u (h : ([(fa, fc)].flatMap spanV)[j]? = some u) => spA_get h hblks)
          have hRc := Lib.hid hRs9
          have hslh := Lib.hid hsls
          go_wp2_with (at_builtin; refine wpList_append_any (n := allS.length) (m := [(fa, fc)].length) rfl _ _ 73 77 rfl Tryd.underlying73 info_span rfl (by decide) rfl rfl (fun h => by cases h) (flat_size spanV_len [(fa, fc)]) (fun ad had j u hu => by cases had; rw [addr_add, Nat.zero_add]; exact hsrc.out j u hu) (spanV_one [(fa, fc)]) hrowc (by have := hslh.out; unfold maxLen; omega) (by have := hslh.out; omega) (by omega) ?_; intro v' wA hA1 hA2; obtain ⟨va9, vc9, hv9, _⟩ := own_form hA1; subst hv9; have hbA := own_below hrowc hA2 (by omega); have hgbA := (hbA.block g (by omega)).trans hgbc; obtain ⟨u0, u1, fu0, fu1⟩ := two_of hgbA)
          have hgbF := setCell_heap (.slice va9 (allS.length + [(fa, fc)].length) vc9) hgbA (i := 0)
          have hbF : Below w.heap.size wz (wA.setCell ⟨g, 0, none⟩ (.slice va9 (allS.length + [(fa, fc)].length) vc9)) := (hbA.mono (by omega)).trans ((Below.refl _ wA).setCell (p := ⟨g, 0, none⟩) hgb _)
          have hRF := Lib.hid (hRc.out.keptB hbF hlt)
          have hrdF := Lib.hid (hrdc.then_below hbF (Nat.le_refl _))
          have hrowF := Lib.hid (show SpRow (g + 1) (allS ++ [(fa, fc)]) (.slice va9 (allS.length + [(fa, fc)].length) vc9) (wA.setCell ⟨g, 0, none⟩ (.slice va9 (allS.length + [(fa, fc)].length) vc9)) by unfold SpRow; rw [List.length_append, List.flatMap_append]; exact own_setB hA1 (by omega))
          have hgbF2 := Lib.hid (show (wA.setCell ⟨g, 0, none⟩ (.slice va9 (allS.length + [(fa, fc)].length) vc9)).heap[g]? = some (.cells #[(.slice va9 (allS.length + [(fa, fc)].length) vc9), .bool false] 75 (0, 0)) from hgbF)
          have hmF := Lib.hid (measR_eq hRF.out)
          have hlF : X2.length ≤ X.length := by simp only [List.length_cons] at hl1; omega
          have hlX : X2.length ≤ X'.length := by simp only [List.length_cons] at hl1; omega
          clear hgbF hgbA u1 hrowc
          go_wp2_with fail
          go_roundw
          case rel => exact ⟨false, rfl, X2, false, allS ++ [(fa, fc)], _, hRF.out, hrdF.out, hgbF2.out, hrowF.out, hlF, (fun h => by rw [hb9.out] at h; cases h), by have := hslh.out; rw [List.length_append]; omega, fun _ => ⟨by have := hspec.out.1; have := hslh.out; rw [List.length_append]; omega, fun _ => hspec.out.2⟩, fun _ h => by cases h⟩
          case measure =>
            rw [hmeas.out]
            refine Nat.lt_of_le_of_lt (Nat.le_of_eq hmF.out) ?_
            have := hspec.out.1
            rw [if_neg Bool.false_ne_true, if_neg Bool.false_ne_true]; omega
        · have p93 : (hdI X' != 93) = false := by rw [h93]; rfl
          obtain ⟨R', hR9⟩ : ∃ R', X' = 93 :: R' := by
            cases X' with
            | nil => cases h93
            | cons c R => have h := h93; exact ⟨R, by rw [show c = 93 from by have : (c : Int) = 93 := h; omega]⟩
          clear h93
          subst hR9
          go_wp2_with fail
          refine (next_any r _ d false _ hRh.out).mono ?_
          rintro e wn ⟨rfl, hbn⟩
          have hRW := hRh.out.kept hbn
          have hrdW := hrd'.trans (Rd.of_below (r := r) hbn)
          have hgbW := blk_kept hbn hgb'
          have hrowW := own_keep hrow' hbn
          clear hbn
          rw [show hdI (93 :: R') = 93 from rfl]
          go_wp2_with fail
          refine (take_any r _ d false _ hRW).mono ?_
          rintro e w2 ⟨rfl, hR2, hd2⟩
          rw [show (false || decide (93 :: R' = [])) = false by simp] at hR2
          have hfin := Lib.hid (show RD r R' d false w2 from hR2)
          have hrdf := Lib.hid (hrdW.trans hd2)
          have hgbF := rd_blk hd2 hgbW hgr
          have hrowF := own_rd hrowW hd2 (by omega)
          rw [hall.out] at hrowF
          have hcls := Lib.hid (cls_lies (B := w.heap.size) hgbF hgb hrowF)
          have hcR := Lib.hid (show classP X = some (⟨done, false⟩, R') by rw [hcl.out]; unfold clsP2; rw [hbody.out, rem_end]; simp)
          have hl9 : R'.length ≤ X.length := by simp only [List.length_cons] at hlen'; omega
          clear hgbF hrowF hgbW hrowW
          go_wp2_with fail
          go_ret
          exact ⟨g, R', false, rfl, hfin.out, hrdf.out, hl9, (fun h => by rw [hb9.out] at h; cases h), fun _ => by rw [hcR.out]; exact ⟨rfl, rfl, hcls.out⟩⟩
end Go.Proofs.YtfhgnnlhacjnkaaDoor

/-
  The pattern's reader: escape: the walk; what an atom gives.
-/
namespace Go.Proofs.YtfhgnnlhacjnkaaDoor
set_option linter.unusedVariables false
set_option linter.unusedSimpArgs false
open Go.RowKit PT

theorem asc_3 : ∀ b ∈ (ByteArray.mk #[92, 94, 36, 46, 42, 43, 63, 40, 41, 91, 93, 123, 125, 124, 47, 45]).data.toList, b.toNat < 128 := by decide
theorem in_8 (c : Nat) : inN c (ByteArray.mk #[92, 94, 36, 46, 42, 43, 63, 40, 41, 91, 93, 123, 125, 124, 47, 45]).data.toList = decide (c ∈ [92, 94, 36, 46, 42, 43, 63, 40, 41, 91, 93, 123, 125, 124, 47, 45]) := inN_of rfl
theorem someP_len {c : Nat} {sp : List (Nat × Nat)} (h : someP c = some sp) : sp.length ≤ 4 := by
  unfold someP at h
  repeat' split at h
  all_goals first | (cases h; simp) | cases h
/-- spans in a block of their own, and a class above them -/
theorem cls_fresh {B g gs cap : Nat} {sp : List (Nat × Nat)} {neg : Bool} {w : World} (hg : w.heap[g]? = some (.cells #[.slice (some ⟨gs, 0, none⟩) (spI sp).length cap, .bool neg] 75 (0, 0))) (hB : B ≤ g) (hs : w.heap[gs]? = some (.cells (spA (spI sp)) 77 (0, 0))) (hBs : B ≤ gs) (hm : sp.length ≤ 4) : ClsV (Ge B) 57 (clsL (Klass.fits ⟨sp, neg⟩)) (.iface 57 (.pointer (some ⟨g, 0, none⟩))) w := by
  obtain ⟨c0, c1, _, _⟩ := two_of hg
  have hl : (spI sp).length = sp.length := by unfold spI; rw [List.length_map]
  rw [hl] at c0
  refine ⟨⟨sp, neg⟩, g, _, rfl, rfl, hB, (Array.getElem?_eq_some_iff.1 hg).1, c0, c1, ⟨_, cap, rfl, Nat.le_trans hm (by omega), .inr ⟨gs, 0, rfl, hBs, (Array.getElem?_eq_some_iff.1 hs).1, fun j u hu => ?_⟩⟩⟩
  rw [Nat.zero_add]
  exact spA_get (by rw [span_row]; exact hu) hs
theorem run_neq_nil9 (W : World) : (binOp .neq 73 (.slice none 0 0) (.slice none 0 0)).run Tryd.prog W = .ok (.bool false) W := by
  have h : ∀ d : Nat, (Op.equalIn (d + 1) 73 (.slice none 0 0) (.slice none 0 0)).run Tryd.prog W = .ok true W := fun d => by
    simp [Op.equalIn, run_underlying Tryd.underlying73]
  simp only [binOp]
  simp [Op.equal, Op.maxDepth, h 9999]
theorem run_neq_some9 (W : World) (a : Addr) (n c : Nat) : (binOp .neq 73 (.slice (some a) n c) (.slice none 0 0)).run Tryd.prog W = .ok (.bool true) W := by
  have h : ∀ d : Nat, (Op.equalIn (d + 1) 73 (.slice (some a) n c) (.slice none 0 0)).run Tryd.prog W = .ok false W := fun d => by
    simp [Op.equalIn, run_underlying Tryd.underlying73]
  simp only [binOp]
  simp [Op.equal, Op.maxDepth, h 9999]
/-- what an atom that is no group gives -/
def AtR (r : Nat) (X : List Nat) (d : Int) (b : Bool) (P : Option (Klass × List Nat)) (w : World) (e : Ending) (w' : World) : Prop := ∃ (g : Nat) (X' : List Nat) (b' : Bool), e = .returned (.iface 57 (.pointer (some ⟨g, 0, none⟩))) ∧ RD r X' d b' w' ∧ Rd r w w' ∧ X'.length ≤ X.length ∧ (b = true → b' = true) ∧
  (b = false → match P with
    | none => b' = true
    | some (c, X'') => b' = false ∧ X' = X'' ∧ ClsV (Ge w.heap.size) 57 (clsL c.fits) (.iface 57 (.pointer (some ⟨g, 0, none⟩))) w')
set_option maxHeartbeats 4000000 in
set_option maxRecDepth 100000 in
theorem escape9_any (r : Nat) (X : List Nat) (d : Int) (b : Bool) (w : World) (hR : RD r X d b w) :
    Calls Tryd.prog 44 #[rp r] w fun e w' => AtR r X d b (escP X) w e w' := by
  have hmx := hR.max
  have hRR := Lib.hid hR
  have hnil := run_neq_nil9
  have hsom := run_neq_some9
  clear hR
  go_enter Tryd.func44, Tryd.ntmps44
  cases X with
  | nil =>
    go_wp2_with fail
    refine (take_any r _ d b _ hRR.out).mono ?_
    rintro e w1 ⟨rfl, hR1, hd1⟩
    rw [show hdI [] = -1 from rfl]
    go_wp2_with fail
    refine (some_any _ _).mono ?_
    rintro e2 w2 ⟨h2, hb2⟩
    rcases h2 with ⟨_, rfl⟩ | ⟨_, _, h0, _⟩
    rotate_left
    · exact absurd h0 (by decide)
    have hR2 := hR1.kept hb2
    have hd2 := hd1.trans (Rd.of_below (r := r) hb2)
    obtain ⟨s, c0, c1, c2, f0, f1, f2, hs, hv, hX⟩ := hR2.at
    have hRb := hR2.setBad true
    have hwb := hd2.trans (Rd.setCell r 2 (.bool true) w2)
    have hse : (w2.setCell ⟨r, 2, none⟩ (.bool true)).heap.size = w2.heap.size := by simp [World.setCell]
    have hn0 := Go.heap_alloc_new (w2.setCell ⟨r, 2, none⟩ (.bool true)) (.cells #[.int .i32 (-1), .int .i32 (-1)] 77)
    have hb0 := (Below.refl _ (w2.setCell ⟨r, 2, none⟩ (.bool true))).alloc (Nat.le_refl _) (.cells #[.int .i32 (-1), .int .i32 (-1)] 77)
    have hn1 := Go.heap_alloc_new ((w2.setCell ⟨r, 2, none⟩ (.bool true)).alloc (.cells #[.int .i32 (-1), .int .i32 (-1)] 77)) (.cells #[.slice (some ⟨w2.heap.size, 0, none⟩) 1 1, .bool false] 75)
    have hb1 := (Below.refl _ ((w2.setCell ⟨r, 2, none⟩ (.bool true)).alloc (.cells #[.int .i32 (-1), .int .i32 (-1)] 77))).alloc (Nat.le_refl _) (.cells #[.slice (some ⟨w2.heap.size, 0, none⟩) 1 1, .bool false] 75)
    have hfin := Lib.hid ((hRb.kept hb0).kept hb1)
    have hrdw := Lib.hid ((hwb.trans (Rd.of_below (r := r) hb0)).trans (Rd.of_below (r := r) hb1))
    have hs1 : ((w2.setCell ⟨r, 2, none⟩ (.bool true)).alloc (.cells #[.int .i32 (-1), .int .i32 (-1)] 77)).heap.size = w2.heap.size + 1 := by simp [World.setCell]
    rw [hse] at hn0
    rw [hs1] at hn1
    have hn0b := blk_kept hb1 hn0
    have hszx := hd2.size
    clear hn0 hn1 hb0 hb1 hn0b hse hs1 hRb hwb
    go_wp2_with fail
    go_ret
    exact ⟨w2.heap.size + 1, _, true, rfl, hfin.out, hrdw.out, by first | (simp only [List.length_cons]; omega) | simp, fun _ => rfl, fun _ => rfl⟩
  | cons c R =>
    have hcm := hmx c List.mem_cons_self
    have hE := Lib.hid (escP_cons c R)
    have q0 : decide ((c : Int) < 0) = false := decide_eq_false (by omega)
    have q00 : (0 : Int) ≤ (c : Int) := by omega
    clear hmx
    go_wp2_with fail
    refine (take_any r _ d b _ hRR.out).mono ?_
    rintro e w1 ⟨rfl, hR1, hd1⟩
    rw [show hdI (c :: R) = (c : Int) from rfl]
    rw [show (b || decide (c :: R = [])) = b by simp, show (c :: R).drop 1 = R from rfl] at hR1
    go_wp2_with fail
    refine (some_any _ _).mono ?_
    rintro e2 w2 ⟨h2, hb2⟩
    have hR2 := hR1.kept hb2
    have hd2 := hd1.trans (Rd.of_below (r := r) hb2)
    rcases h2 with ⟨h3, rfl⟩ | ⟨sp, v, _, hsp, rfl, hfr⟩
    · have hno : someP c = none := by
        rcases h3 with h3 | h3
        · omega
        · rw [Int.toNat_natCast] at h3; exact h3
      have hE2 := Lib.hid (hE.out.trans (by rw [hno]))
      clear h3 hno
      go_wp2_with fail
      refine (containsRune_any _ (by decide) asc_3 c hcm _).mono ?_
      rintro e3 w3 ⟨rfl, hb3⟩
      rw [in_8]
      have hR3 := hR2.kept hb3
      have hd3 := hd2.trans (Rd.of_below (r := r) hb3)
      obtain ⟨s, c0, c1, c2, f0, f1, f2, hs, hv, hX⟩ := hR3.at
      by_cases hm : c ∈ [92, 94, 36, 46, 42, 43, 63, 40, 41, 91, 93, 123, 125, 124, 47, 45]
      · rw [decide_eq_true hm]
        have hS2 := Lib.hid (hE2.out.trans (if_pos hm))
        clear hm
        have hse : w3.heap.size = w3.heap.size := rfl
        have hn0 := Go.heap_alloc_new w3 (.cells #[.int .i32 (c : Int), .int .i32 (c : Int)] 77)
        have hb0 := (Below.refl _ w3).alloc (Nat.le_refl _) (.cells #[.int .i32 (c : Int), .int .i32 (c : Int)] 77)
        have hn1 := Go.heap_alloc_new (w3.alloc (.cells #[.int .i32 (c : Int), .int .i32 (c : Int)] 77)) (.cells #[.slice (some ⟨w3.heap.size, 0, none⟩) 1 1, .bool false] 75)
        have hb1 := (Below.refl _ (w3.alloc (.cells #[.int .i32 (c : Int), .int .i32 (c : Int)] 77))).alloc (Nat.le_refl _) (.cells #[.slice (some ⟨w3.heap.size, 0, none⟩) 1 1, .bool false] 75)
        have hfin := Lib.hid ((hR3.kept hb0).kept hb1)
        have hrdw := Lib.hid ((hd3.trans (Rd.of_below (r := r) hb0)).trans (Rd.of_below (r := r) hb1))
        have hs1 : (w3.alloc (.cells #[.int .i32 (c : Int), .int .i32 (c : Int)] 77)).heap.size = w3.heap.size + 1 := by simp [World.setCell]
        rw [hse] at hn0
        rw [hs1] at hn1
        have hn0b := blk_kept hb1 hn0
        have hszx := hd3.size
        have hcv := Lib.hid (cls_fresh (B := w.heap.size) (sp := [(c, c)]) (neg := false) hn1 (by omega) hn0b (by omega) (by simp))
        clear hn0 hn1 hb0 hb1 hn0b hse hs1
        go_wp2_with fail
        go_ret
        exact ⟨w3.heap.size + 1, R, b, rfl, hfin.out, hrdw.out, by first | (simp only [List.length_cons]; omega) | simp, fun h => h, fun h => by rw [hS2.out]; exact ⟨h, rfl, hcv.out⟩⟩
      · rw [decide_eq_false hm]
        have hS2 := Lib.hid (hE2.out.trans (if_neg hm))
        clear hm
        have hRb := hR3.setBad true
        have hwb := hd3.trans (Rd.setCell r 2 (.bool true) w3)
        have hse : (w3.setCell ⟨r, 2, none⟩ (.bool true)).heap.size = w3.heap.size := by simp [World.setCell]
        have hn0 := Go.heap_alloc_new (w3.setCell ⟨r, 2, none⟩ (.bool true)) (.cells #[.int .i32 (c : Int), .int .i32 (c : Int)] 77)
        have hb0 := (Below.refl _ (w3.setCell ⟨r, 2, none⟩ (.bool true))).alloc (Nat.le_refl _) (.cells #[.int .i32 (c : Int), .int .i32 (c : Int)] 77)
        have hn1 := Go.heap_alloc_new ((w3.setCell ⟨r, 2, none⟩ (.bool true)).alloc (.cells #[.int .i32 (c : Int), .int .i32 (c : Int)] 77)) (.cells #[.slice (some ⟨w3.heap.size, 0, none⟩) 1 1, .bool false] 75)
        have hb1 := (Below.refl _ ((w3.setCell ⟨r, 2, none⟩ (.bool true)).alloc (.cells #[.int .i32 (c : Int), .int .i32 (c : Int)] 77))).alloc (Nat.le_refl _) (.cells #[.slice (some ⟨w3.heap.size, 0, none⟩) 1 1, .bool false] 75)
        have hfin := Lib.hid ((hRb.kept hb0).kept hb1)
        have hrdw := Lib.hid ((hwb.trans (Rd.of_below (r := r) hb0)).trans (Rd.of_below (r := r) hb1))
        have hs1 : ((w3.setCell ⟨r, 2, none⟩ (.bool true)).alloc (.cells #[.int .i32 (c : Int), .int .i32 (c : Int)] 77)).heap.size = w3.heap.size + 1 := by simp [World.setCell]
        rw [hse] at hn0
        rw [hs1] at hn1
        have hn0b := blk_kept hb1 hn0
        have hszx := hd3.size
        clear hn0 hn1 hb0 hb1 hn0b hse hs1 hRb hwb
        go_wp2_with fail
        go_ret
        exact ⟨w3.heap.size + 1, R, true, rfl, hfin.out, hrdw.out, by first | (simp only [List.length_cons]; omega) | simp, fun _ => rfl, fun _ => by rw [hS2.out]⟩
    · rw [Int.toNat_natCast] at hsp
      obtain ⟨gs, cap, rfl, hgs, hne, _, hblk⟩ := hfr
      have hE2 := Lib.hid (show escP (c :: R) = some (⟨sp, decide (c < 97)⟩, R) by rw [hE.out, hsp])
      obtain ⟨ng, hng⟩ : ∃ ng, decide (c < 97) = ng := ⟨_, rfl⟩
      have hngI : decide ((c : Int) < 97) = ng := by rw [← hng, decide_eq_decide]; omega
      rw [hng] at hE2
      have hl9 : (spI sp).length ≠ 0 := fun h => hne (List.length_eq_zero_iff.1 h)
      have hn1 := Go.heap_alloc_new w2 (.cells #[.slice (some ⟨gs, 0, none⟩) (spI sp).length cap, .bool ng] 75)
      have hb1 := (Below.refl _ w2).alloc (Nat.le_refl _) (.cells #[.slice (some ⟨gs, 0, none⟩) (spI sp).length cap, .bool ng] 75)
      have hfin := Lib.hid (hR2.kept hb1)
      have hrdw := Lib.hid (hd2.trans (Rd.of_below (r := r) hb1))
      have hszx := hd2.size
      have hsz1 := hd1.size
      have hcv := Lib.hid (cls_fresh (B := w.heap.size) hn1 (by omega) (blk_kept hb1 hblk) (by omega) (someP_len hsp))
      clear hn1 hb1 hblk hng hsp
      cases ng with
      | true =>
        have p1 : (c : Int) < 97 := of_decide_eq_true hngI
        clear hngI
        go_wp2_with fail
        go_ret
        exact ⟨w2.heap.size, R, b, rfl, hfin.out, hrdw.out, by simp, fun h => h, fun h => by rw [hE2.out]; exact ⟨h, rfl, hcv.out⟩⟩
      | false =>
        have p1 : (97 : Int) ≤ (c : Int) := by have := of_decide_eq_false hngI; omega
        go_wp2_with fail
        go_ret
        exact ⟨w2.heap.size, R, b, rfl, hfin.out, hrdw.out, by simp, fun h => h, fun h => by rw [hE2.out]; exact ⟨h, rfl, hcv.out⟩⟩
end Go.Proofs.YtfhgnnlhacjnkaaDoor
