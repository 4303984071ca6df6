/-
  PLAIN LAWS: texts joined by one byte, and parted again: no program in sight.
-/
import Derived.Lib.Join
import Derived.Test.YtapbljaohhcpoaaDoorPlainSplit
namespace Go.Proofs.YtapbljaohhcpoaaDoor.PT

def jn (c : UInt8) : List (List UInt8) → List UInt8
  | [] => []
  | x :: r => x ++ r.flatMap fun y => c :: y
theorem jn_lib (c : UInt8) (xs : List (List UInt8)) : Lib.join xs [c] = jn c xs := by
  cases xs with
  | nil => rfl
  | cons x r =>
    rw [Lib.join_cons, jn]
    congr 1
theorem jn_snoc (c : UInt8) (xs : List (List UInt8)) (y : List UInt8) (h : xs ≠ []) : jn c (xs ++ [y]) = jn c xs ++ c :: y := by
  cases xs with
  | nil => exact absurd rfl h
  | cons x r => simp [jn]
theorem jn_append (c : UInt8) (xs ys : List (List UInt8)) (h : xs ≠ []) (k : ys ≠ []) : jn c (xs ++ ys) = jn c xs ++ c :: jn c ys := by
  cases xs with
  | nil => exact absurd rfl h
  | cons x r =>
    cases ys with
    | nil => exact absurd rfl k
    | cons y s => simp [jn]
theorem spl_word (c : UInt8) (x : List UInt8) (hx : c ∉ x) : ∀ cur r, spl c cur (x ++ r) = spl c (cur ++ x) r := by
  induction x with
  | nil => intro cur r; simp
  | cons d x ih =>
    intro cur r
    simp only [List.mem_cons, not_or] at hx
    rw [List.cons_append, spl, if_neg (fun e => hx.1 e.symm), ih hx.2]
    simp
theorem spl_jn (c : UInt8) (xs : List (List UInt8)) (h : ∀ x ∈ xs, c ∉ x) (hn : xs ≠ []) : spl c [] (jn c xs) = xs := by
  have tail : ∀ r : List (List UInt8), (∀ x ∈ r, c ∉ x) → ∀ cur, spl c cur (r.flatMap fun y => c :: y) = cur :: r := by
    intro r
    induction r with
    | nil => intro _ cur; rfl
    | cons y r ih =>
      intro h cur
      rw [List.flatMap_cons, List.cons_append, spl, if_pos rfl, spl_word c y (h y (by simp)), ih (fun x hx => h x (by simp [hx]))]
      simp
  cases xs with
  | nil => exact absurd rfl hn
  | cons x r =>
    rw [jn, spl_word c x (h x (by simp)), tail r (fun y hy => h y (by simp [hy]))]
    simp
theorem spl_no (c : UInt8) : ∀ (l cur : List UInt8), c ∉ cur → ∀ x ∈ spl c cur l, c ∉ x
  | [], cur, h, x, hx => by
    simp [spl] at hx; rw [hx]; exact h
  | d :: r, cur, h, x, hx => by
    unfold spl at hx
    split at hx
    · rcases List.mem_cons.1 hx with e | e
      · rw [e]; exact h
      · exact spl_no c r [] (by simp) x e
    · rename_i hd
      refine spl_no c r (cur ++ [d]) ?_ x hx
      rw [List.mem_append, List.mem_singleton]
      exact fun e => e.elim h (fun e => hd e.symm)
theorem jn_spl (c : UInt8) : ∀ (l cur : List UInt8), jn c (spl c cur l) = cur ++ l
  | [], cur => by simp [spl, jn]
  | d :: r, cur => by
    unfold spl
    split
    · rename_i hd
      have ih := jn_spl c r []
      cases hs : spl c [] r with
      | nil => exact absurd hs (spl_ne c r [])
      | cons x s =>
        rw [hs] at ih
        simp only [jn, List.flatMap_cons] at ih ⊢
        rw [hd]
        simp at ih ⊢
        exact ih
    · rw [jn_spl c r]; simp
theorem spl_small (c : UInt8) : ∀ (l cur : List UInt8), ∀ x ∈ spl c cur l, x.length ≤ cur.length + l.length
  | [], cur, x, hx => by simp [spl] at hx; rw [hx]; simp
  | d :: r, cur, x, hx => by
    unfold spl at hx
    split at hx
    · rcases List.mem_cons.1 hx with e | e
      · rw [e]; simp
      · have := spl_small c r [] x e
        simp only [List.length_nil, List.length_cons] at this ⊢
        omega
    · have := spl_small c r (cur ++ [d]) x hx
      simp only [List.length_append, List.length_cons, List.length_nil] at this ⊢
      omega
theorem spl_count (c : UInt8) : ∀ (l cur : List UInt8), (spl c cur l).length ≤ l.length + 1
  | [], cur => by simp [spl]
  | d :: r, cur => by
    unfold spl
    split
    · have := spl_count c r []; simp only [List.length_cons]; omega
    · have := spl_count c r (cur ++ [d]); simp only [List.length_cons]; omega
theorem jn_len (c : UInt8) (xs : List (List UInt8)) (B : Nat) (h : ∀ x ∈ xs, x.length ≤ B) : (jn c xs).length ≤ xs.length * (B + 1) := by
  have tail : ∀ r : List (List UInt8), (∀ x ∈ r, x.length ≤ B) → (r.flatMap fun y => c :: y).length ≤ r.length * (B + 1) := by
    intro r
    induction r with
    | nil => intro _; simp
    | cons y r ih =>
      intro h
      have h1 := h y (by simp)
      have h2 := ih (fun x hx => h x (by simp [hx]))
      rw [List.flatMap_cons, List.length_append, List.length_cons, List.length_cons, Nat.add_mul]
      omega
  cases xs with
  | nil => simp [jn]
  | cons x r =>
    have h1 := h x (by simp)
    have h2 := tail r (fun y hy => h y (by simp [hy]))
    rw [jn, List.length_append, List.length_cons, Nat.add_mul]
    omega
end Go.Proofs.YtapbljaohhcpoaaDoor.PT
