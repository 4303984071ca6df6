/-
  PLAIN LAWS ON NAMES READ (chapter 20): no program in sight.
-/
import Derived.Test.YtapbljaohhcpoaaDoorPlainParts
namespace Go.Proofs.YtapbljaohhcpoaaDoor.PT
/-- a name with its escapes read -/
def unn : List UInt8 → List UInt8
  | [] => []
  | c :: r => if [37, 48, 65].isPrefixOf (c :: r) then 10 :: unn (r.drop 2) else if [37, 48, 68].isPrefixOf (c :: r) then 13 :: unn (r.drop 2) else if [37, 50, 50].isPrefixOf (c :: r) then 34 :: unn (r.drop 2) else c :: unn r
termination_by l => l.length
decreasing_by all_goals (simp; try omega)
theorem rep_head (a : UInt8) (old : List UInt8) (y : UInt8) (l : List UInt8) (x : UInt8) (m : List UInt8) (hx : x ≠ y) (h : rep (a :: old) [y] l = x :: m) : ∃ r, l = x :: r ∧ m = rep (a :: old) [y] r := by
  cases l with
  | nil => rw [rep_nil _ _ (by simp)] at h; cases h
  | cons c r =>
    cases hp : (a :: old).isPrefixOf (c :: r)
    · rw [rep_miss _ _ _ _ (by simp) hp] at h
      injection h with h1 h2
      exact ⟨r, by rw [h1], h2.symm⟩
    · rw [rep_hit _ _ _ (by simp) hp] at h
      injection h with h1 h2
      exact absurd h1.symm hx
theorem pre3 {a b c : UInt8} {l : List UInt8} (h : [a, b, c].isPrefixOf l = true) : ∃ q, l = a :: b :: c :: q := by
  obtain ⟨q, hq⟩ := List.isPrefixOf_iff_prefix.1 h
  exact ⟨q, hq.symm⟩
theorem rep_m1 (a : UInt8) (o new : List UInt8) (x : UInt8) (l : List UInt8) (h : a ≠ x) : rep (a :: o) new (x :: l) = x :: rep (a :: o) new l := rep_miss _ _ _ _ (by simp) (by simp [List.isPrefixOf, h])
theorem rep_m2 (a b : UInt8) (o new : List UInt8) (x y : UInt8) (l : List UInt8) (h : b ≠ y) : rep (a :: b :: o) new (x :: y :: l) = x :: rep (a :: b :: o) new (y :: l) := rep_miss _ _ _ _ (by simp) (by simp [List.isPrefixOf, h])
theorem rep_m3 (a b c : UInt8) (o new : List UInt8) (x y z : UInt8) (l : List UInt8) (h : c ≠ z) : rep (a :: b :: c :: o) new (x :: y :: z :: l) = x :: rep (a :: b :: c :: o) new (y :: z :: l) := rep_miss _ _ _ _ (by simp) (by simp [List.isPrefixOf, h])
theorem rep_h3 (a b c : UInt8) (new l : List UInt8) : rep [a, b, c] new (a :: b :: c :: l) = new ++ rep [a, b, c] new l := by
  rw [rep_hit _ _ _ (by simp) (by simp [List.isPrefixOf])]
  rfl
theorem unn_rep : ∀ (n : Nat) (l : List UInt8), l.length ≤ n → rep [37, 50, 50] [34] (rep [37, 48, 65] [10] (rep [37, 48, 68] [13] l)) = unn l := by
  intro n
  induction n with
  | zero =>
    intro l hl
    obtain rfl : l = [] := List.length_eq_zero_iff.1 (by omega)
    rw [rep_nil _ _ (by simp), rep_nil _ _ (by simp), rep_nil _ _ (by simp), unn]
  | succ n ih =>
    intro l hl
    cases l with
    | nil => rw [rep_nil _ _ (by simp), rep_nil _ _ (by simp), rep_nil _ _ (by simp), unn]
    | cons c r =>
      simp only [List.length_cons] at hl
      rw [unn]
      by_cases hA : [37, 48, 65].isPrefixOf (c :: r) = true
      · rw [if_pos hA]
        obtain ⟨q, hq⟩ := pre3 hA
        injection hq with h1 h2
        subst h1
        subst h2
        simp only [List.length_cons] at hl
        rw [rep_m3 37 48 68 _ _ _ _ _ _ (by decide), rep_m1 37 _ _ 48 _ (by decide), rep_m1 37 _ _ 65 _ (by decide), rep_h3, List.cons_append, List.nil_append, rep_m1 37 _ _ 10 _ (by decide), ih q (by omega)]
        rfl
      · rw [if_neg hA]
        by_cases hD : [37, 48, 68].isPrefixOf (c :: r) = true
        · rw [if_pos hD]
          obtain ⟨q, hq⟩ := pre3 hD
          injection hq with h1 h2
          subst h1
          subst h2
          simp only [List.length_cons] at hl
          rw [rep_h3, List.cons_append, List.nil_append, rep_m1 37 _ _ 13 _ (by decide), rep_m1 37 _ _ 13 _ (by decide), ih q (by omega)]
          rfl
        · rw [if_neg hD]
          by_cases hQ : [37, 50, 50].isPrefixOf (c :: r) = true
          · rw [if_pos hQ]
            obtain ⟨q, hq⟩ := pre3 hQ
            injection hq with h1 h2
            subst h1
            subst h2
            simp only [List.length_cons] at hl
            rw [rep_m2 37 48 _ _ 37 50 _ (by decide), rep_m1 37 _ _ 50 _ (by decide), rep_m1 37 _ _ 50 _ (by decide), rep_m2 37 48 _ _ 37 50 _ (by decide), rep_m1 37 _ _ 50 _ (by decide), rep_m1 37 _ _ 50 _ (by decide), rep_h3, List.cons_append, List.nil_append, ih q (by omega)]
            rfl
          · rw [if_neg hQ]
            rw [rep_miss [37, 48, 68] _ _ _ (by simp) (Bool.eq_false_iff.2 hD)]
            have hA2 : [37, 48, 65].isPrefixOf (c :: rep [37, 48, 68] [13] r) = false := by
              rw [Bool.eq_false_iff]
              intro h
              obtain ⟨q, hq⟩ := pre3 h
              injection hq with h1 h2
              obtain ⟨r1, e1, e2⟩ := rep_head _ _ _ _ _ _ (by decide) h2
              obtain ⟨r2, e3, e4⟩ := rep_head _ _ _ _ _ _ (by decide) e2.symm
              exact hA (by rw [h1, e1, e3]; simp [List.isPrefixOf])
            rw [rep_miss [37, 48, 65] _ _ _ (by simp) hA2]
            have hQ2 : [37, 50, 50].isPrefixOf (c :: rep [37, 48, 65] [10] (rep [37, 48, 68] [13] r)) = false := by
              rw [Bool.eq_false_iff]
              intro h
              obtain ⟨q, hq⟩ := pre3 h
              injection hq with h1 h2
              obtain ⟨r1, e1, e2⟩ := rep_head _ _ _ _ _ _ (by decide) h2
              obtain ⟨r2, e3, e4⟩ := rep_head _ _ _ _ _ _ (by decide) e2.symm
              obtain ⟨r3, e5, e6⟩ := rep_head _ _ _ _ _ _ (by decide) e1
              rw [e3] at e6
              obtain ⟨r4, e7, e8⟩ := rep_head _ _ _ _ _ _ (by decide) e6.symm
              exact hQ (by rw [h1, e5, e7]; simp [List.isPrefixOf])
            rw [rep_miss [37, 50, 50] _ _ _ (by simp) hQ2, ih r (by omega)]
theorem rep_short (old : List UInt8) (y : UInt8) (h : old ≠ []) : ∀ (n : Nat) (l : List UInt8), l.length ≤ n → (rep old [y] l).length ≤ l.length := by
  have ho : 0 < old.length := List.length_pos_iff.2 h
  intro n
  induction n with
  | zero =>
    intro l hl
    obtain rfl : l = [] := List.length_eq_zero_iff.1 (by omega)
    rw [rep_nil _ _ h]; exact Nat.le_refl _
  | succ n ih =>
    intro l hl
    cases l with
    | nil => rw [rep_nil _ _ h]; exact Nat.le_refl _
    | cons b l =>
      simp only [List.length_cons] at hl
      cases hp : old.isPrefixOf (b :: l)
      · rw [rep_miss _ _ _ _ h hp]
        have := ih l (by omega)
        simp only [List.length_cons]
        omega
      · rw [rep_hit _ _ _ h hp]
        have h1 := ih ((b :: l).drop old.length) (by simp only [List.length_drop, List.length_cons]; omega)
        simp only [List.length_append, List.length_cons, List.length_nil, List.length_drop] at h1 ⊢
        omega
theorem unn_len (l : List UInt8) : (unn l).length ≤ l.length := by
  rw [← unn_rep l.length l (Nat.le_refl _)]
  have h1 := rep_short [37, 48, 68] 13 (by simp) _ l (Nat.le_refl _)
  have h2 := rep_short [37, 48, 65] 10 (by simp) _ (rep [37, 48, 68] [13] l) (Nat.le_refl _)
  have h3 := rep_short [37, 50, 50] 34 (by simp) _ (rep [37, 48, 65] [10] (rep [37, 48, 68] [13] l)) (Nat.le_refl _)
  omega
end Go.Proofs.YtapbljaohhcpoaaDoor.PT
