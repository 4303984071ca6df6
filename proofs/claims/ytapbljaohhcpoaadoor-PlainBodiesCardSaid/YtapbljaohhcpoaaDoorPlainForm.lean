/-
  PLAIN LAWS ON ESCAPES AS FORMS HAVE THEM: no program in sight.
-/
import Derived.Test.YtapbljaohhcpoaaDoorPlainEscape
import Derived.Test.YtapbljaohhcpoaaDoorPlainReplace
namespace Go.Proofs.YtapbljaohhcpoaaDoor.PT
set_option linter.unusedVariables false
set_option linter.unusedSimpArgs false

/-- a text escaped as forms do -/
def form : List UInt8 → List UInt8
  | [] => []
  | c :: r => (if c = 32 then [43] else encL 7 [c]) ++ form r
theorem form_append (a b : List UInt8) : form (a ++ b) = form a ++ form b := by
  induction a with
  | nil => rfl
  | cons c a ih => simp [form, ih]
theorem encL_one (z : Int) (c : UInt8) : encL z [c] = if escB z c then [37, hexU (c.toNat / 16), hexU (c.toNat % 16)] else [c] := by simp [encL]
theorem form_len (l : List UInt8) : (form l).length ≤ 3 * l.length := by
  induction l with
  | nil => simp [form]
  | cons c l ih =>
    simp only [form, List.length_append, List.length_cons]
    split
    · simp; omega
    · rw [encL_one]; split <;> simp <;> omega
theorem byte_all {P : UInt8 → Prop} (h : ∀ n : Fin 256, P (UInt8.ofNat n.val)) (c : UInt8) : P c := by
  have := h ⟨c.toNat, c.toNat_lt⟩
  simpa using this
theorem hexU_ne (n : Nat) (h : n < 16) : hexU n ≠ 37 ∧ hexU n ≠ 43 := by
  have : ∀ i : Fin 16, hexU i.val ≠ 37 ∧ hexU i.val ≠ 43 := by decide
  exact this ⟨n, h⟩
theorem hex_20 (c : UInt8) (h1 : hexU (c.toNat / 16) = 50) (h2 : hexU (c.toNat % 16) = 48) : c = 32 := by
  revert h1 h2
  refine byte_all (P := fun c => hexU (c.toNat / 16) = 50 → hexU (c.toNat % 16) = 48 → c = 32) ?_ c
  decide +kernel
theorem esc7 (c : UInt8) : escB 7 c = false → c ≠ 37 ∧ c ≠ 43 ∧ c ≠ 32 := by
  refine byte_all (P := fun c => escB 7 c = false → c ≠ 37 ∧ c ≠ 43 ∧ c ≠ 32) ?_ c
  decide +kernel
theorem pre_37 (c : UInt8) (r : List UInt8) (h : c ≠ 37) : [37, 50, 48].isPrefixOf (c :: r) = false := by
  simp only [List.isPrefixOf, Bool.and_eq_false_imp]
  intro e
  exact absurd (beq_iff_eq.1 e).symm h
theorem form_rep (l : List UInt8) : rep [37, 50, 48] [43] (encL 7 l) = form l := by
  induction l with
  | nil => exact rep_nil _ _ (by simp)
  | cons c r ih =>
    have hc : c.toNat < 256 := c.toNat_lt
    unfold encL form
    rw [encL_one]
    cases he : escB 7 c
    · have h3 := esc7 c he
      rw [if_neg h3.2.2, if_neg (by simp)]
      show rep _ _ (c :: encL 7 r) = c :: form r
      rw [rep_miss _ _ _ _ (by simp) (pre_37 _ _ h3.1), ih]
    · rw [if_pos rfl]
      by_cases h32 : c = 32
      · subst h32
        rw [if_pos rfl]
        show rep [37, 50, 48] [43] (37 :: 50 :: 48 :: encL 7 r) = 43 :: form r
        rw [rep_hit _ _ _ (by simp) (by simp [List.isPrefixOf])]
        simp [ih]
      · rw [if_neg h32]
        show rep [37, 50, 48] [43] (37 :: hexU (c.toNat / 16) :: hexU (c.toNat % 16) :: encL 7 r) = 37 :: hexU (c.toNat / 16) :: hexU (c.toNat % 16) :: form r
        have h1 := (hexU_ne (c.toNat / 16) (by omega)).1
        have h2 := (hexU_ne (c.toNat % 16) (by omega)).1
        have hp : [37, 50, 48].isPrefixOf (37 :: hexU (c.toNat / 16) :: hexU (c.toNat % 16) :: encL 7 r) = false := by
          cases hh : [37, 50, 48].isPrefixOf (37 :: hexU (c.toNat / 16) :: hexU (c.toNat % 16) :: encL 7 r)
          · rfl
          · exfalso
            simp only [List.isPrefixOf, Bool.and_eq_true, beq_iff_eq] at hh
            exact h32 (hex_20 c hh.2.1.symm hh.2.2.1.symm)
        rw [rep_miss _ _ _ _ (by simp) hp, rep_miss _ _ _ _ (by simp) (pre_37 _ _ h1), rep_miss _ _ _ _ (by simp) (pre_37 _ _ h2), ih]

/-- one byte in the place of another -/
def turn (o n : UInt8) (l : List UInt8) : List UInt8 := l.map fun c => if c = o then n else c
theorem sub1_turn (o n : UInt8) (l : List UInt8) : sub1 o [n] l = turn o n l := by
  induction l with
  | nil => rfl
  | cons c l ih =>
    rw [sub1, turn, List.map_cons]
    split
    · rw [ih]; rfl
    · rw [ih]; rfl
def unform (l : List UInt8) : List UInt8 := dec (turn 43 32 l)
theorem turn_append (o n : UInt8) (a b : List UInt8) : turn o n (a ++ b) = turn o n a ++ turn o n b := by simp [turn]
theorem unform_form (l : List UInt8) : unform (form l) = l := by
  unfold unform
  induction l with
  | nil => rfl
  | cons c r ih =>
    have hc : c.toNat < 256 := c.toNat_lt
    unfold form
    rw [encL_one, turn_append]
    by_cases h32 : c = 32
    · subst h32
      rw [if_pos rfl]
      show dec (32 :: turn 43 32 (form r)) = _
      rw [dec_cons_ne _ (by decide), ih]
    · rw [if_neg h32]
      cases he : escB 7 c
      · have h3 := esc7 c he
        rw [if_neg (by simp)]
        show dec ((if c = 43 then 32 else c) :: turn 43 32 (form r)) = _
        rw [if_neg h3.2.1, dec_cons_ne _ h3.1, ih]
      · rw [if_pos rfl]
        show dec ((if (37 : UInt8) = 43 then 32 else 37) :: (if hexU (c.toNat / 16) = 43 then 32 else hexU (c.toNat / 16)) :: (if hexU (c.toNat % 16) = 43 then 32 else hexU (c.toNat % 16)) :: turn 43 32 (form r)) = _
        rw [if_neg (by decide), if_neg (hexU_ne _ (by omega)).2, if_neg (hexU_ne _ (by omega)).2, dec_yes _ _ _ (by rw [digN_hexU _ (by omega)]; omega) (by rw [digN_hexU _ (by omega)]; omega), digN_hexU _ (by omega), digN_hexU _ (by omega), ih, show c.toNat / 16 * 16 + c.toNat % 16 = c.toNat by omega]
        simp
theorem turn_len (o n : UInt8) (l : List UInt8) : (turn o n l).length = l.length := by simp [turn]
end Go.Proofs.YtapbljaohhcpoaaDoor.PT
