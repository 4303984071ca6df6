/-
  PLAIN LAWS ON strings.Split and strings.Cut AT ONE BYTE: no program in sight.
-/
import Derived.Lib.Split
import Derived.Lib.CountLaws
import Derived.Test.YtenicjebccdekaaPlainText
namespace Go.Proofs.Ytenicjebccdekaa.PT
set_option linter.unusedVariables false
set_option linter.unusedSimpArgs false

/-- the texts between a sign, the one that has begun ahead -/
def spl (c : UInt8) (cur : List UInt8) : List UInt8 → List (List UInt8)
  | [] => [cur]
  | d :: r => if d = c then cur :: spl c [] r else spl c (cur ++ [d]) r
def onHead (d : List UInt8) : List (List UInt8) → List (List UInt8)
  | [] => []
  | x :: l => (d ++ x) :: l
theorem spl_head (c : UInt8) : ∀ (l cur : List UInt8), spl c cur l = onHead cur (spl c [] l)
  | [], cur => by simp [spl, onHead]
  | d :: r, cur => by
    unfold spl
    by_cases h : d = c
    · rw [if_pos h, if_pos h]; simp [onHead]
    · rw [if_neg h, if_neg h, spl_head c r (cur ++ [d]), spl_head c r ([] ++ [d])]
      cases spl c [] r with
      | nil => rfl
      | cons x l => simp [onHead]
theorem index_hit (c : UInt8) (r : List UInt8) : Lib.index (c :: r) [c] = (0 : Nat) := by
  rw [Lib.index, if_pos (by simp [List.isPrefixOf])]; rfl
theorem index_miss (c d : UInt8) (r : List UInt8) (h : d ≠ c) : Lib.index (d :: r) [c] = if Lib.index r [c] == -1 then -1 else Lib.index r [c] + 1 := by
  rw [Lib.index, if_neg (by simp [List.isPrefixOf]; exact fun e => h e.symm)]
theorem index_nil (c : UInt8) : Lib.index [] [c] = -1 := rfl
theorem split_spl (c : UInt8) : ∀ l : List UInt8, Lib.splitK [c] 0 (Lib.count l [c]) l = spl c [] l
  | [] => by rw [Lib.count_miss (index_nil c)]; rfl
  | d :: r => by
    have ih := split_spl c r
    by_cases h : d = c
    · subst h
      rw [Lib.count_hit (by simp) (index_hit d r), Nat.add_comm 1, Lib.splitK, if_neg (by rw [index_hit]; simp), index_hit, spl, if_pos rfl]
      simp [ih]
    · have hx := index_miss c d r h
      rw [spl, if_neg h, spl_head, ← ih]
      by_cases hm : Lib.index r [c] = -1
      · rw [hm] at hx
        rw [Lib.count_miss (s := d :: r) hx, Lib.count_miss hm]
        rfl
      · have hge := Lib.index_ge r [c]
        obtain ⟨i, hi⟩ : ∃ i : Nat, Lib.index r [c] = i := ⟨(Lib.index r [c]).toNat, by omega⟩
        have hx' : Lib.index (d :: r) [c] = (i + 1 : Nat) := by
          rw [hx, hi, if_neg (by simp)]; rfl
        have e : (d :: r).drop (i + 1 + [c].length) = r.drop (i + [c].length) := by
          rw [show i + 1 + [c].length = (i + [c].length) + 1 by omega]; rfl
        rw [Lib.count_hit (by simp) hx', Lib.count_hit (by simp) hi, e, Nat.add_comm 1, Lib.splitK, if_neg (by rw [hx']; simp; omega), hx', Lib.splitK, if_neg (by rw [hi]; simp), hi]
        simp only [Int.toNat_natCast, onHead, Nat.add_zero, List.take_succ_cons]
        rw [show (d :: r).drop (i + 1 + [c].length) = r.drop (i + [c].length) from e]
        rfl
theorem spl_ne (c : UInt8) : ∀ (l cur : List UInt8), spl c cur l ≠ []
  | [], cur => by simp [spl]
  | d :: r, cur => by
    unfold spl
    split
    · simp
    · exact spl_ne c r _
/-- ahead of the first sign, and behind it -/
theorem cut_at (c : UInt8) (l : List UInt8) : (c ∉ l → Lib.cut l [c] = (l, [], false)) ∧ (∀ a b, l = a ++ c :: b → c ∉ a → Lib.cut l [c] = (a, b, true)) := by
  have hno : ∀ l : List UInt8, c ∉ l → Lib.index l [c] = -1 := by
    intro l
    induction l with
    | nil => intro _; rfl
    | cons d r ih =>
      intro h
      simp only [List.mem_cons, not_or] at h
      rw [index_miss c d r (fun e => h.1 e.symm), ih h.2]; rfl
  have hyes : ∀ a b : List UInt8, c ∉ a → Lib.index (a ++ c :: b) [c] = (a.length : Nat) := by
    intro a b
    induction a with
    | nil => intro _; exact index_hit c b
    | cons d a ih =>
      intro h
      simp only [List.mem_cons, not_or] at h
      rw [List.cons_append, index_miss c d _ (fun e => h.1 e.symm), ih h.2, if_neg (by simp)]
      rfl
  refine ⟨fun h => ?_, fun a b e h => ?_⟩
  · unfold Lib.cut
    rw [hno l h, if_neg (by decide)]
  · subst e
    unfold Lib.cut
    rw [hyes a b h, if_pos (by simp)]
    simp
end Go.Proofs.Ytenicjebccdekaa.PT
