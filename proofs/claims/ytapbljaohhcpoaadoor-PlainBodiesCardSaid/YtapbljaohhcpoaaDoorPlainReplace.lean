/-
  PLAIN LAWS ON strings.ReplaceAll AND ON ENDS OF LINES: no program in sight.
-/
import Derived.Lib.Replace
import Derived.Lib.CountLaws
import Derived.Test.YtapbljaohhcpoaaDoorPlainText
namespace Go.Proofs.YtapbljaohhcpoaaDoor.PT
open Go.Lib (replaceK replaceAll replaceNum replace)

/-- what is left where every instance is replaced -/
def rep (old new s : List UInt8) : List UInt8 := replaceK old new (Lib.count s old) s
theorem replaceAll_rep (s old new : List UInt8) (h : old ≠ new) : replaceAll s old new = rep old new s := by
  unfold replaceAll replace rep replaceNum
  rw [if_neg (by simpa using h), if_pos (Or.inl (by decide))]
theorem rep_nil (old new : List UInt8) (h : old ≠ []) : rep old new [] = [] := by
  unfold rep
  have : Lib.index [] old = -1 := by
    unfold Lib.index
    cases old with
    | nil => exact absurd rfl h
    | cons a l => rfl
  rw [Lib.count_miss this]
  rfl
theorem rep_hit (old new s : List UInt8) (h : old ≠ []) (hp : old.isPrefixOf s = true) : rep old new s = new ++ rep old new (s.drop old.length) := by
  have hi : Lib.index s old = (0 : Nat) := by
    cases s with
    | nil =>
      cases old with
      | nil => exact absurd rfl h
      | cons a l => cases hp
    | cons b l => rw [Lib.index, if_pos hp]; rfl
  unfold rep
  rw [Lib.count_hit h hi, Nat.add_comm 1, Lib.replaceK_hit old new _ s 0 hi]
  simp
theorem rep_miss (old new : List UInt8) (b : UInt8) (l : List UInt8) (h : old ≠ []) (hp : old.isPrefixOf (b :: l) = false) : rep old new (b :: l) = b :: rep old new l := by
  have hx : Lib.index (b :: l) old = if Lib.index l old == -1 then -1 else Lib.index l old + 1 := by
    rw [Lib.index, if_neg (by rw [hp]; simp)]
  unfold rep
  by_cases hm : Lib.index l old = -1
  · rw [hm] at hx
    rw [Lib.count_miss (s := b :: l) hx, Lib.count_miss hm]
    rfl
  · have hge := Lib.index_ge l old
    obtain ⟨i, hi⟩ : ∃ i : Nat, Lib.index l old = i := ⟨(Lib.index l old).toNat, by omega⟩
    have hx' : Lib.index (b :: l) old = (i + 1 : Nat) := by
      rw [hx, hi, if_neg (by simp)]
      rfl
    rw [Lib.count_hit h hx', Lib.count_hit h hi]
    have e : (b :: l).drop (i + 1 + old.length) = l.drop (i + old.length) := by
      rw [show i + 1 + old.length = (i + old.length) + 1 by omega]
      rfl
    rw [e, Nat.add_comm 1, Lib.replaceK_hit old new _ (b :: l) (i + 1) hx', Lib.replaceK_hit old new _ l i hi, e]
    rfl

theorem rep_len (old new : List UInt8) (h : old ≠ []) : ∀ n l, l.length ≤ n → (rep old new l).length ≤ (new.length + 1) * l.length := by
  have ho : 0 < old.length := List.length_pos_iff.2 h
  intro n
  induction n with
  | zero =>
    intro l hl
    obtain rfl : l = [] := List.length_eq_zero_iff.1 (by omega)
    rw [rep_nil _ _ h]; simp
  | succ n ih =>
    intro l hl
    cases l with
    | nil => rw [rep_nil _ _ h]; simp
    | cons b l =>
      simp only [List.length_cons] at hl
      cases hp : old.isPrefixOf (b :: l)
      · rw [rep_miss _ _ _ _ h hp]
        have := ih l (by omega)
        simp only [List.length_cons, Nat.mul_add]
        omega
      · rw [rep_hit _ _ _ h hp]
        have h1 := ih ((b :: l).drop old.length) (by simp only [List.length_drop, List.length_cons]; omega)
        have h2 : (new.length + 1) * ((b :: l).drop old.length).length ≤ (new.length + 1) * l.length := Nat.mul_le_mul_left _ (by simp only [List.length_drop, List.length_cons]; omega)
        simp only [List.length_append, List.length_cons, Nat.mul_add]
        omega
/-- one byte replaced -/
def sub1 (o : UInt8) (new : List UInt8) : List UInt8 → List UInt8
  | [] => []
  | c :: r => if c = o then new ++ sub1 o new r else c :: sub1 o new r
theorem rep_one (o : UInt8) (new l : List UInt8) : rep [o] new l = sub1 o new l := by
  induction l with
  | nil => exact rep_nil _ _ (by simp)
  | cons c r ih =>
    by_cases h : c = o
    · subst h
      rw [rep_hit _ _ _ (by simp) (by simp [List.isPrefixOf]), sub1, if_pos rfl]
      simp [ih]
    · rw [rep_miss _ _ _ _ (by simp) (by simp [List.isPrefixOf]; exact fun e => h e.symm), sub1, if_neg h, ih]
theorem sub1_append (o : UInt8) (new a b : List UInt8) : sub1 o new (a ++ b) = sub1 o new a ++ sub1 o new b := by
  induction a with
  | nil => rfl
  | cons c a ih =>
    simp only [List.cons_append, sub1, ih]
    split <;> simp

def brk (c : UInt8) : Bool := c == 10 || c == 13
/-- a text with each end of a line as another text -/
def ends (w : List UInt8) : List UInt8 → List UInt8
  | c :: d :: r => if c = 13 ∧ d = 10 then w ++ ends w r else (if brk c then w else [c]) ++ ends w (d :: r)
  | c :: r => (if brk c then w else [c]) ++ ends w r
  | [] => []
theorem ends_crlf (w r : List UInt8) : ends w (13 :: 10 :: r) = w ++ ends w r := by rw [ends, if_pos ⟨rfl, rfl⟩]
theorem ends_one (w : List UInt8) (c : UInt8) (r : List UInt8) (h : ¬ (c = 13 ∧ r.head? = some 10)) : ends w (c :: r) = (if brk c then w else [c]) ++ ends w r := by
  cases r with
  | nil => rfl
  | cons d r => rw [ends, if_neg (fun e => h ⟨e.1, by rw [e.2]; rfl⟩)]
/-- every text is told by its lines' ends -/
theorem ends_cases {P : List UInt8 → Prop} (h0 : P []) (h2 : ∀ r, P r → P (13 :: 10 :: r)) (h1 : ∀ c r, ¬ (c = 13 ∧ r.head? = some 10) → P r → P (c :: r)) : ∀ l, P l
  | c :: d :: r => by
    by_cases h : c = 13 ∧ d = 10
    · obtain ⟨rfl, rfl⟩ := h
      exact h2 r (ends_cases h0 h2 h1 r)
    · exact h1 c (d :: r) (fun e => h ⟨e.1, by simpa using e.2⟩) (ends_cases h0 h2 h1 (d :: r))
  | [c] => h1 c [] (by simp) h0
  | [] => h0

theorem pre_crlf (c : UInt8) (r : List UInt8) (h : ¬ (c = 13 ∧ r.head? = some 10)) : [13, 10].isPrefixOf (c :: r) = false := by
  cases r with
  | nil => simp [List.isPrefixOf]
  | cons d r =>
    simp only [List.isPrefixOf]
    simp at h ⊢
    exact fun e e' => h e.symm e'.symm
theorem lines_eq (l : List UInt8) : sub1 13 [10] (rep [13, 10] [10] l) = ends [10] l := by
  induction l using ends_cases with
  | h0 => rw [rep_nil _ _ (by simp)]; rfl
  | h2 r ih =>
    rw [rep_hit _ _ _ (by simp) (by simp [List.isPrefixOf]), sub1_append, ends_crlf]
    exact congrArg _ ih
  | h1 c r h ih =>
    rw [rep_miss _ _ _ _ (by simp) (pre_crlf c r h), ends_one _ _ _ h, sub1, ih]
    by_cases h13 : c = 13
    · subst h13; rfl
    · rw [if_neg h13]
      by_cases h10 : c = 10
      · subst h10; rfl
      · rw [if_neg (by simp [brk, h10, h13])]; rfl
theorem pairs_eq (l : List UInt8) : sub1 10 [13, 10] (ends [10] l) = ends [13, 10] l := by
  induction l using ends_cases with
  | h0 => rfl
  | h2 r ih => rw [ends_crlf, ends_crlf, sub1_append, ih]; rfl
  | h1 c r h ih =>
    rw [ends_one _ _ _ h, ends_one _ _ _ h, sub1_append, ih]
    congr 1
    by_cases hb : brk c = true
    · rw [if_pos hb, if_pos hb]; rfl
    · rw [if_neg hb, if_neg hb]
      have : c ≠ 10 := by rintro rfl; exact hb rfl
      simp [sub1, this]
theorem noBreaks_eq (l : List UInt8) : sub1 10 [] (sub1 13 [] l) = ends [] l := by
  induction l using ends_cases with
  | h0 => rfl
  | h2 r ih => rw [ends_crlf, ← ih]; rfl
  | h1 c r h ih =>
    rw [ends_one _ _ _ h, ← ih, sub1]
    by_cases h13 : c = 13
    · subst h13; rfl
    · rw [if_neg h13, sub1]
      by_cases h10 : c = 10
      · subst h10; rfl
      · rw [if_neg h10, if_neg (by simp [brk, h10, h13])]; rfl

/-- no end of a line stands in it -/
theorem ends_cons_plain (w : List UInt8) (c : UInt8) (r : List UInt8) (h : brk c = false) : ends w (c :: r) = c :: ends w r := by
  rw [ends_one _ _ _ (by rintro ⟨rfl, _⟩; cases h), if_neg (by rw [h]; simp)]
  rfl
theorem ends_cons_lf (w r : List UInt8) : ends w (10 :: r) = w ++ ends w r := by
  rw [ends_one _ _ _ (by simp), if_pos (show brk 10 = true from rfl)]
theorem ends_of_lines (w l : List UInt8) : ends w (ends [10] l) = ends w l := by
  induction l using ends_cases with
  | h0 => rfl
  | h2 r ih => rw [ends_crlf, ends_crlf]; show ends w (10 :: ends [10] r) = _; rw [ends_cons_lf, ih]
  | h1 c r h ih =>
    rw [ends_one _ _ _ h, ends_one _ _ _ h]
    by_cases hb : brk c = true
    · rw [if_pos hb, if_pos hb]; show ends w (10 :: ends [10] r) = _; rw [ends_cons_lf, ih]
    · rw [if_neg hb, if_neg hb]; show ends w (c :: ends [10] r) = _; rw [ends_cons_plain _ _ _ (by simpa using hb), ih]; rfl
theorem ends_of_pairs (w l : List UInt8) : ends w (ends [13, 10] l) = ends w l := by
  induction l using ends_cases with
  | h0 => rfl
  | h2 r ih => rw [ends_crlf, ends_crlf]; show ends w (13 :: 10 :: ends [13, 10] r) = _; rw [ends_crlf, ih]
  | h1 c r h ih =>
    rw [ends_one _ _ _ h, ends_one _ _ _ h]
    by_cases hb : brk c = true
    · rw [if_pos hb, if_pos hb]; show ends w (13 :: 10 :: ends [13, 10] r) = _; rw [ends_crlf, ih]
    · rw [if_neg hb, if_neg hb]; show ends w (c :: ends [13, 10] r) = _; rw [ends_cons_plain _ _ _ (by simpa using hb), ih]; rfl
theorem ends_len (w l : List UInt8) : (ends w l).length ≤ (w.length + 1) * l.length := by
  induction l using ends_cases with
  | h0 => simp [ends]
  | h2 r ih => rw [ends_crlf]; simp only [List.length_append, List.length_cons, Nat.mul_add] at ih ⊢; omega
  | h1 c r h ih =>
    rw [ends_one _ _ _ h]
    simp only [List.length_append, List.length_cons, Nat.mul_add] at ih ⊢
    split <;> simp <;> omega
end Go.Proofs.YtapbljaohhcpoaaDoor.PT
