/-
  PLAIN LAWS ON A TEXT's LINES (chapter 21): no program in sight.
-/
import Derived.Test.YtapbljaohhcpoaaDoorPlainJn
import Derived.Test.YtapbljaohhcpoaaDoorPlainReplace
namespace Go.Proofs.YtapbljaohhcpoaaDoor.PT
set_option linter.unusedVariables false
set_option linter.unusedSimpArgs false

/-- without an empty text at the end -/
def dropE (X : List (List UInt8)) : List (List UInt8) := if X.getLast? = some [] then X.dropLast else X
theorem dropE_cons (x : List UInt8) (X : List (List UInt8)) (h : X ≠ []) : dropE (x :: X) = x :: dropE X := by
  cases X with
  | nil => exact absurd rfl h
  | cons y r =>
    unfold dropE
    rw [List.getLast?_cons_cons]
    split
    · rw [List.dropLast_cons_of_ne_nil (by simp)]
    · rfl
/-- a text's lines, the one that has begun ahead -/
def rl (cur : List UInt8) : List UInt8 → List (List UInt8)
  | c :: d :: r => if c = 13 ∧ d = 10 then cur :: rl [] r else if brk c then cur :: rl [] (d :: r) else rl (cur ++ [c]) (d :: r)
  | [c] => if brk c then [cur] else [cur ++ [c]]
  | [] => if cur = [] then [] else [cur]
theorem rl_nil (cur : List UInt8) : rl cur [] = if cur = [] then [] else [cur] := by rw [rl]
theorem rl_crlf (cur r : List UInt8) : rl cur (13 :: 10 :: r) = cur :: rl [] r := by rw [rl, if_pos ⟨rfl, rfl⟩]
theorem rl_brk (cur : List UInt8) (c : UInt8) (r : List UInt8) (h : ¬ (c = 13 ∧ r.head? = some 10)) (hb : brk c = true) : rl cur (c :: r) = cur :: rl [] r := by
  cases r with
  | nil => rw [rl, if_pos hb, rl_nil, if_pos rfl]
  | cons d r => rw [rl, if_neg (fun e => h ⟨e.1, by rw [e.2]; rfl⟩), if_pos hb]
theorem rl_more (cur : List UInt8) (c : UInt8) (r : List UInt8) (hb : brk c = false) : rl cur (c :: r) = rl (cur ++ [c]) r := by
  cases r with
  | nil => simp [rl, hb]
  | cons d r =>
    rw [rl, if_neg (fun e => by rw [e.1] at hb; exact absurd hb (by decide)), hb]; rfl
theorem rl_lines (l : List UInt8) : ∀ cur, dropE (spl 10 cur (ends [10] l)) = rl cur l := by
  refine ends_cases (P := fun l => ∀ cur, dropE (spl 10 cur (ends [10] l)) = rl cur l) ?_ ?_ ?_ l
  · intro cur
    rw [show ends [10] [] = [] by rw [ends], rl_nil]
    unfold dropE spl
    by_cases h : cur = []
    · subst h; rfl
    · rw [if_neg h, if_neg (by simpa using h)]
  · intro r ih cur
    rw [ends_crlf, rl_crlf, show [10] ++ ends [10] r = 10 :: ends [10] r from rfl, spl, if_pos rfl, dropE_cons _ _ (spl_ne 10 _ _), ih]
  · intro c r hn ih cur
    rw [ends_one [10] c r hn]
    cases hb : brk c
    · have h10 : c ≠ 10 := fun e => by rw [e] at hb; exact absurd hb (by decide)
      rw [rl_more cur c r hb, if_neg (by simp), show [c] ++ ends [10] r = c :: ends [10] r from rfl, spl, if_neg h10, ih]
    · rw [rl_brk cur c r hn hb, if_pos rfl, show [10] ++ ends [10] r = 10 :: ends [10] r from rfl, spl, if_pos rfl, dropE_cons _ _ (spl_ne 10 _ _), ih]
theorem rl_word (x : List UInt8) (h : ∀ c ∈ x, brk c = false) : ∀ cur r, rl cur (x ++ r) = rl (cur ++ x) r := by
  induction x with
  | nil => intro cur r; simp
  | cons c x ih =>
    intro cur r
    rw [List.cons_append, rl_more cur c _ (h c (by simp)), ih (fun d hd => h d (by simp [hd]))]
    simp
theorem rl_all (X : List (List UInt8)) (h : ∀ x ∈ X, ∀ c ∈ x, brk c = false) : rl [] (X.flatMap fun x => x ++ [13, 10]) = X := by
  induction X with
  | nil => rw [List.flatMap_nil, rl_nil, if_pos rfl]
  | cons x r ih =>
    rw [List.flatMap_cons, List.append_assoc, rl_word x (h x (by simp)), List.nil_append, show [13, 10] ++ (r.flatMap fun x => x ++ [13, 10]) = 13 :: 10 :: (r.flatMap fun x => x ++ [13, 10]) from rfl, rl_crlf, ih (fun y hy => h y (by simp [hy]))]
end Go.Proofs.YtapbljaohhcpoaaDoor.PT
