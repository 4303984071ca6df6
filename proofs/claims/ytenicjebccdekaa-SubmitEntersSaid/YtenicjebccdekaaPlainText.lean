/-
  PLAIN LAWS ON TEXTS (lists of bytes): no program in sight.
-/
import Derived.Lib.Bytealg
namespace Go.Proofs.Ytenicjebccdekaa.PT
set_option linter.unusedVariables false
set_option linter.unusedSimpArgs false

/-- a capital letter of ASCII made small -/
def lowB (c : UInt8) : UInt8 := if 65 ≤ c.toNat ∧ c.toNat ≤ 90 then UInt8.ofNat (c.toNat + 32) else c
def low (l : List UInt8) : List UInt8 := l.map lowB

theorem lowB_yes (c : UInt8) (h1 : 65 ≤ c.toNat) (h2 : c.toNat ≤ 90) : ((lowB c).toNat : Int) = (c.toNat : Int) + 32 := by
  unfold lowB
  rw [if_pos ⟨h1, h2⟩]
  simp
  omega
theorem lowB_no (c : UInt8) (h : ¬ (65 ≤ c.toNat ∧ c.toNat ≤ 90)) : lowB c = c := by
  unfold lowB
  rw [if_neg h]
theorem lowB_twice (c : UInt8) : lowB (lowB c) = lowB c := by
  by_cases h : 65 ≤ c.toNat ∧ c.toNat ≤ 90
  · have h1 := lowB_yes c h.1 h.2
    exact lowB_no _ (by omega)
  · rw [lowB_no c h]; exact lowB_no c h
theorem low_twice (l : List UInt8) : low (low l) = low l := by
  unfold low
  simp [lowB_twice]
theorem low_length (l : List UInt8) : (low l).length = l.length := by simp [low]

theorem drop_cons' (s : ByteArray) (k : Nat) (h : k < s.size) : s.data.toList.drop k = s[k] :: s.data.toList.drop (k + 1) := by
  rw [List.drop_eq_getElem_cons (by simpa using h)]; rfl
theorem take_snoc (s : ByteArray) (k : Nat) (h : k < s.size) : s.data.toList.take (k + 1) = s.data.toList.take k ++ [s[k]] := by
  rw [List.take_succ_eq_append_getElem (by simpa using h)]; rfl
theorem indexByte_no {l : List UInt8} {c : UInt8} (h : c ∉ l) : Lib.indexByte l c = -1 := by
  induction l with
  | nil => rfl
  | cons b l ih =>
    simp only [List.mem_cons, not_or] at h
    rw [Lib.indexByte, ih h.2, if_neg (by simp; exact fun e => h.1 e.symm)]
    rfl
theorem indexByte_yes {l : List UInt8} {c : UInt8} (h : c ∈ l) : ∃ z : Nat, Lib.indexByte l c = z ∧ z < l.length := by
  induction l with
  | nil => cases h
  | cons b l ih =>
    by_cases e : b = c
    · exact ⟨0, by rw [Lib.indexByte, if_pos (by simpa using e)]; rfl, by simp⟩
    · have h' : c ∈ l := by
        rcases List.mem_cons.1 h with h | h
        · exact absurd h.symm e
        · exact h
      obtain ⟨z, hz, hl⟩ := ih h'
      refine ⟨z + 1, ?_, by simpa using hl⟩
      rw [Lib.indexByte, hz, if_neg (by simpa using e), if_neg (by simp)]
      rfl

end Go.Proofs.Ytenicjebccdekaa.PT
