/-
  PLAIN LAWS ON ENTRIES AS ONE TEXT OF ESCAPES (chapter 19): no program in sight.
-/
import Derived.Test.YtapbljaohhcpoaaDoorPlainJn
import Derived.Test.YtapbljaohhcpoaaDoorPlainForm
import Derived.Test.YtapbljaohhcpoaaDoorPlainQuery
namespace Go.Proofs.YtapbljaohhcpoaaDoor.PT
set_option linter.unusedVariables false
set_option linter.unusedSimpArgs false

/-- a byte that an escaped text may have -/
def okF (c : UInt8) : Bool := letterB c || (inB c plain7 || (decide (c = 37) || decide (c = 43)))
theorem okF_hexU (n : Nat) (h : n < 16) : okF (hexU n) = true := by
  have : ∀ i : Fin 16, okF (hexU i.val) = true := by decide
  exact this ⟨n, h⟩
theorem okF_form : ∀ l : List UInt8, ∀ c ∈ form l, okF c = true
  | [], c, h => by simp [form] at h
  | d :: r, c, h => by
    have hd : d.toNat < 256 := d.toNat_lt
    rw [show d :: r = [d] ++ r from rfl, form_append, List.mem_append] at h
    rcases h with h | h
    · by_cases h32 : d = 32
      · subst h32
        simp [form] at h
        subst h; decide
      · have e : form [d] = encL 7 [d] := by simp [form, h32]
        rw [e, encL_one] at h
        split at h
        · simp only [List.mem_cons, List.not_mem_nil, or_false] at h
          rcases h with h | h | h
          · subst h; decide
          · subst h; exact okF_hexU _ (by omega)
          · subst h; exact okF_hexU _ (by omega)
        · rename_i he
          simp only [List.mem_cons, List.not_mem_nil, or_false] at h
          subst h
          rw [escB_7] at he
          unfold okF
          cases h1 : letterB c
          · rw [h1] at he; simp at he; simp [he]
          · rfl
    · exact okF_form r c h
theorem okF_no (c : UInt8) (h : okF c = false) (l : List UInt8) : c ∉ form l := fun hc => by
  have := okF_form l c hc
  rw [h] at this; exact Bool.noConfusion this
/-- a name and a value with = between -/
def eqP (n v : List UInt8) : List UInt8 := form n ++ 61 :: form v
theorem eqP_no38 (n v : List UInt8) : 38 ∉ eqP n v := by
  unfold eqP
  rw [List.mem_append, List.mem_cons]
  rintro (h | h | h)
  · exact okF_no 38 (by decide) n h
  · exact absurd h (by decide)
  · exact okF_no 38 (by decide) v h
/-- behind a sign -/
def aft (c : UInt8) (l : List UInt8) : List UInt8 := l.drop ((upTo c l).length + 1)
theorem aft_at (c : UInt8) (a b : List UInt8) (h : c ∉ a) : aft c (a ++ c :: b) = b := by
  unfold aft
  rw [upTo_at c a b h, show a ++ c :: b = (a ++ [c]) ++ b by simp, show a.length + 1 = (a ++ [c]).length by simp, List.drop_left]
theorem aft_no (c : UInt8) (a : List UInt8) (h : c ∉ a) : aft c a = [] := by
  unfold aft
  rw [upTo_all c a h]
  exact List.drop_eq_nil_of_le (by omega)
theorem cut_aft (c : UInt8) (l : List UInt8) : (Lib.cut l [c]).1 = upTo c l ∧ (Lib.cut l [c]).2.1 = aft c l := by
  rcases upTo_split c l with h | ⟨b, h⟩
  · rw [cut_no c l h, upTo_all c l h, aft_no c l h]; exact ⟨rfl, rfl⟩
  · have hx := upTo_not c l
    have e1 : Lib.cut l [c] = (upTo c l, b, true) := by
      conv => lhs; rw [h]
      exact cut_yes c _ b hx
    have e2 : aft c l = b := by
      conv => lhs; rw [h]
      exact aft_at c _ b hx
    rw [e1, e2]; exact ⟨rfl, rfl⟩
theorem eqP_name (n v : List UInt8) : unform (upTo 61 (eqP n v)) = n := by
  unfold eqP
  rw [upTo_at 61 _ _ (okF_no 61 (by decide) n), unform_form]
theorem eqP_value (n v : List UInt8) : unform (aft 61 (eqP n v)) = v := by
  unfold eqP
  rw [aft_at 61 _ _ (okF_no 61 (by decide) n), unform_form]
/-- entries of a text: names and values -/
def decP (l : List UInt8) : List (List UInt8 × List UInt8) := ((spl 38 [] l).filter fun p => !p.isEmpty).map fun p => (unform (upTo 61 p), unform (aft 61 p))
def encP (xs : List (List UInt8 × List UInt8)) : List UInt8 := jn 38 (xs.map fun x => eqP x.1 x.2)
theorem decP_encP (xs : List (List UInt8 × List UInt8)) : decP (encP xs) = xs := by
  unfold decP encP
  by_cases h : xs = []
  · subst h; rfl
  · rw [spl_jn 38 _ (by
      intro x hx
      obtain ⟨y, _, rfl⟩ := List.mem_map.1 hx
      exact eqP_no38 _ _) (by simpa using h)]
    rw [List.filter_eq_self.2 (by
      intro x hx
      obtain ⟨y, _, rfl⟩ := List.mem_map.1 hx
      unfold eqP
      cases form y.1 <;> rfl), List.map_map]
    conv => rhs; rw [← List.map_id xs]
    refine List.map_congr_left fun x _ => ?_
    show (unform (upTo 61 (eqP x.1 x.2)), unform (aft 61 (eqP x.1 x.2))) = x
    rw [eqP_name, eqP_value]
/-- a byte that a text of entries may have -/
def okU (c : UInt8) : Bool := okF c || (decide (c = 38) || decide (c = 61))
theorem okU_encP (xs : List (List UInt8 × List UInt8)) : ∀ c ∈ encP xs, okU c = true := by
  have h1 : ∀ n v : List UInt8, ∀ c ∈ eqP n v, okU c = true := by
    intro n v c hc
    unfold eqP at hc
    rw [List.mem_append, List.mem_cons] at hc
    unfold okU
    rcases hc with h | h | h
    · rw [okF_form n c h]; rfl
    · subst h; decide
    · rw [okF_form v c h]; rfl
  have h2 : ∀ ys : List (List UInt8), (∀ y ∈ ys, ∀ c ∈ y, okU c = true) → ∀ c ∈ jn 38 ys, okU c = true := by
    intro ys hy c hc
    cases ys with
    | nil => simp [jn] at hc
    | cons y r =>
      rw [jn, List.mem_append] at hc
      rcases hc with h | h
      · exact hy y (by simp) c h
      · obtain ⟨z, hz, h⟩ := List.mem_flatMap.1 h
        rcases List.mem_cons.1 h with h | h
        · subst h; decide
        · exact hy z (by simp [hz]) c h
  refine h2 _ fun y hy => ?_
  obtain ⟨x, _, rfl⟩ := List.mem_map.1 hy
  exact h1 x.1 x.2
theorem encP_append (a b : List (List UInt8 × List UInt8)) (ha : a ≠ []) (hb : b ≠ []) : encP (a ++ b) = encP a ++ 38 :: encP b := by
  unfold encP
  rw [List.map_append, jn_append 38 _ _ (by simpa using ha) (by simpa using hb)]
end Go.Proofs.YtapbljaohhcpoaaDoor.PT
