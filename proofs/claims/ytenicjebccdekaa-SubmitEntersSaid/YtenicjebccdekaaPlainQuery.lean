/-
  PLAIN LAWS ON AN ADDRESS's QUERY (chapter 24): no program in sight.
-/
import Derived.Test.YtenicjebccdekaaPlainSplit
namespace Go.Proofs.Ytenicjebccdekaa.PT
set_option linter.unusedVariables false
set_option linter.unusedSimpArgs false

/-- what stands ahead of the first sign -/
def upTo (c : UInt8) : List UInt8 → List UInt8
  | [] => []
  | d :: r => if d = c then [] else d :: upTo c r
theorem upTo_not (c : UInt8) : ∀ l, c ∉ upTo c l
  | [] => by simp [upTo]
  | d :: r => by
    unfold upTo
    split
    · simp
    · rename_i h
      simp only [List.mem_cons, not_or]
      exact ⟨fun e => h e.symm, upTo_not c r⟩
theorem upTo_all (c : UInt8) : ∀ l, c ∉ l → upTo c l = l
  | [], _ => rfl
  | d :: r, h => by
    simp only [List.mem_cons, not_or] at h
    rw [upTo, if_neg (fun e => h.1 e.symm), upTo_all c r h.2]
theorem upTo_at (c : UInt8) : ∀ a b : List UInt8, c ∉ a → upTo c (a ++ c :: b) = a
  | [], b, _ => by simp [upTo]
  | d :: r, b, h => by
    simp only [List.mem_cons, not_or] at h
    rw [List.cons_append, upTo, if_neg (fun e => h.1 e.symm), upTo_at c r b h.2]
theorem upTo_split (c : UInt8) : ∀ l, c ∉ l ∨ ∃ b, l = upTo c l ++ c :: b
  | [] => by simp
  | d :: r => by
    by_cases h : d = c
    · exact Or.inr ⟨r, by rw [upTo, if_pos h, h]; rfl⟩
    · rcases upTo_split c r with k | ⟨b, k⟩
      · left
        simp only [List.mem_cons, not_or]
        exact ⟨fun e => h e.symm, k⟩
      · exact Or.inr ⟨b, by rw [upTo, if_neg h, List.cons_append, ← k]⟩
theorem upTo_mem (c : UInt8) : ∀ (l : List UInt8) (x : UInt8), x ∈ upTo c l → x ∈ l
  | [], _, h => h
  | d :: r, x, h => by
    unfold upTo at h
    split at h
    · simp at h
    · rcases List.mem_cons.1 h with e | e
      · exact List.mem_cons.2 (Or.inl e)
      · exact List.mem_cons.2 (Or.inr (upTo_mem c r x e))
theorem upTo_len (c : UInt8) : ∀ l, (upTo c l).length ≤ l.length
  | [] => Nat.le_refl _
  | d :: r => by
    unfold upTo
    split
    · simp
    · simp only [List.length_cons]; have := upTo_len c r; omega
theorem upTo_take (c : UInt8) : ∀ l, l.take (upTo c l).length = upTo c l
  | [] => rfl
  | d :: r => by
    unfold upTo
    split
    · rfl
    · rw [List.length_cons, List.take_succ_cons, upTo_take c r]
/-- the address with the query put in -/
def qry (a q : List UInt8) : List UInt8 := upTo 63 (upTo 35 a) ++ 63 :: q ++ a.drop (upTo 35 a).length
theorem qry_yes (x b q : List UInt8) (h : (35 : UInt8) ∉ x) : qry (x ++ 35 :: b) q = upTo 63 x ++ 63 :: q ++ 35 :: b := by
  unfold qry
  rw [upTo_at 35 x b h, List.drop_left]
theorem qry_no (a q : List UInt8) (h : (35 : UInt8) ∉ a) : qry a q = upTo 63 a ++ 63 :: q := by
  unfold qry
  rw [upTo_all 35 a h, List.drop_length, List.append_nil]
theorem head_no (x q : List UInt8) (h : (35 : UInt8) ∉ x) (hq : (35 : UInt8) ∉ q) : (35 : UInt8) ∉ upTo 63 x ++ 63 :: q := by
  intro m
  rcases List.mem_append.1 m with e | e
  · exact h (upTo_mem 63 x 35 e)
  · rcases List.mem_cons.1 e with e | e
    · exact absurd e (by decide)
    · exact hq e
theorem qry_again (a q : List UInt8) (hq : (35 : UInt8) ∉ q) : qry (qry a q) q = qry a q := by
  rcases upTo_split 35 a with h | ⟨b, h⟩
  · rw [qry_no a q h, qry_no _ q (head_no a q h hq), upTo_at 63 _ q (upTo_not 63 a)]
  · have hn := upTo_not 35 a
    rw [h]
    rw [qry_yes _ b q hn, qry_yes _ b q (head_no _ q hn hq), upTo_at 63 _ q (upTo_not 63 _)]
theorem cut_yes (c : UInt8) (x b : List UInt8) (h : c ∉ x) : Lib.cut (x ++ c :: b) [c] = (x, b, true) := (cut_at c (x ++ c :: b)).2 x b rfl h
theorem cut_no (c : UInt8) (l : List UInt8) (h : c ∉ l) : Lib.cut l [c] = (l, [], false) := (cut_at c l).1 h
theorem cut_fst (c : UInt8) (l : List UInt8) : (Lib.cut l [c]).1 = upTo c l := by
  rcases upTo_split c l with h | ⟨b, h⟩
  · rw [cut_no c l h, upTo_all c l h]
  · rw [h, cut_yes c _ b (upTo_not c l), upTo_at c _ b (upTo_not c l)]
end Go.Proofs.Ytenicjebccdekaa.PT
