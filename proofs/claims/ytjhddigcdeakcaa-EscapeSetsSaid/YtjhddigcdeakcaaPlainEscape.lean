/-
  PLAIN LAWS ON ESCAPES: no program in sight.
-/
import Derived.Lib.Bytealg
import Derived.Test.YtjhddigcdeakcaaPlainText
namespace Go.Proofs.Ytjhddigcdeakcaa.PT

theorem indexByte_no {l : List UInt8} {c : UInt8} (h : c ∉ l) : Lib.indexByte l c = -1 := by
  induction l with
  | nil => rfl
  | cons b l ih =>
    simp only [List.mem_cons, not_or] at h
    rw [Lib.indexByte, ih h.2, if_neg (by simp; exact fun e => h.1 e.symm)]
    rfl
theorem indexByte_yes {l : List UInt8} {c : UInt8} (h : c ∈ l) : ∃ z : Nat, Lib.indexByte l c = z ∧ z < l.length := by
  induction l with
  | nil => cases h
  | cons b l ih =>
    by_cases e : b = c
    · exact ⟨0, by rw [Lib.indexByte, if_pos (by simpa using e)]; rfl, by simp⟩
    · have h' : c ∈ l := by
        rcases List.mem_cons.1 h with h | h
        · exact absurd h.symm e
        · exact h
      obtain ⟨z, hz, hl⟩ := ih h'
      refine ⟨z + 1, ?_, by simpa using hl⟩
      rw [Lib.indexByte, hz, if_neg (by simpa using e), if_neg (by simp)]
      rfl

/-- does a byte stand in a text? -/
def inB (c : UInt8) (l : List UInt8) : Bool := decide (c ∈ l)
theorem inB_yes {c : UInt8} {l : List UInt8} (h : c ∈ l) : inB c l = true := decide_eq_true h
theorem inB_no {c : UInt8} {l : List UInt8} (h : c ∉ l) : inB c l = false := decide_eq_false h
theorem inB_iff {c : UInt8} {l : List UInt8} : inB c l = true ↔ c ∈ l := decide_eq_true_iff
def letterB (c : UInt8) : Bool := (97 ≤ c.toNat && c.toNat ≤ 122) || (65 ≤ c.toNat && c.toNat ≤ 90) || (48 ≤ c.toNat && c.toNat ≤ 57)
def moreL : Nat → List UInt8
  | 1 => [32, 34, 60, 62, 96]
  | 2 => [32, 34, 35, 60, 62]
  | 3 => [39]
  | 4 => [63, 94, 123, 125, 96]
  | 5 => [47, 58, 59, 61, 64, 91, 92, 93, 124]
  | 6 => [36, 37, 38, 43, 44]
  | _ => []
def aheadN : Nat → Nat
  | 3 => 2
  | 4 => 2
  | 5 => 4
  | 6 => 5
  | _ => 0
/-- what a set escapes among the bytes from 32 to 126 -/
def escL : Nat → List UInt8
  | 1 => moreL 1
  | 2 => moreL 2
  | 3 => moreL 2 ++ moreL 3
  | 4 => moreL 2 ++ moreL 4
  | 5 => moreL 2 ++ moreL 4 ++ moreL 5
  | 6 => moreL 2 ++ moreL 4 ++ moreL 5 ++ moreL 6
  | _ => []
theorem aheadN_lt (k : Nat) (h : 0 < k) : aheadN k < k := by
  unfold aheadN
  split <;> omega
theorem aheadN_le (k : Nat) : aheadN k ≤ 6 := by
  unfold aheadN
  split <;> omega
theorem escL_step (k : Nat) (h0 : 0 < k) (h : k ≤ 6) (c : UInt8) : c ∈ escL k ↔ c ∈ moreL k ∨ c ∈ escL (aheadN k) := by
  obtain rfl | rfl | rfl | rfl | rfl | rfl : k = 1 ∨ k = 2 ∨ k = 3 ∨ k = 4 ∨ k = 5 ∨ k = 6 := by omega
  all_goals simp only [escL, aheadN, List.mem_append, List.not_mem_nil, or_false]
  all_goals first | exact Iff.rfl | exact Or.comm
def plain7 : List UInt8 := [42, 45, 46, 95]
/-- a digit's letter -/
def hexU (n : Nat) : UInt8 := if n < 10 then UInt8.ofNat (48 + n) else UInt8.ofNat (55 + n)
/-- does a set escape a byte? -/
def escB (set : Int) (c : UInt8) : Bool :=
  if set < 0 ∨ 7 < set then false
  else if set = 7 then !letterB c && !inB c plain7
  else if c.toNat < 32 ∨ 126 < c.toNat then true
  else inB c (escL set.toNat)
theorem escB_out (set : Int) (c : UInt8) (h : set < 0 ∨ 7 < set) : escB set c = false := if_pos h
theorem escB_7 (c : UInt8) : escB 7 c = (!letterB c && !inB c plain7) := by
  unfold escB
  rw [if_neg (by omega), if_pos rfl]
theorem escB_far (k : Nat) (c : UInt8) (hk : k ≤ 6) (h : c.toNat < 32 ∨ 126 < c.toNat) : escB k c = true := by
  unfold escB
  rw [if_neg (by omega), if_neg (by omega), if_pos h]
theorem escB_near (k : Nat) (c : UInt8) (hk : k ≤ 6) (h : ¬ (c.toNat < 32 ∨ 126 < c.toNat)) : escB k c = inB c (escL k) := by
  unfold escB
  rw [if_neg (by omega), if_neg (by omega), if_neg h, Int.toNat_natCast]
theorem inB_step (k : Nat) (h0 : 0 < k) (h : k ≤ 6) (c : UInt8) (hn : c ∉ moreL k) : inB c (escL k) = inB c (escL (aheadN k)) := by
  rw [Bool.eq_iff_iff, inB_iff, inB_iff, escL_step k h0 h]
  exact ⟨fun e => e.elim (fun e => absurd e hn) id, Or.inr⟩
theorem inB_here (k : Nat) (h0 : 0 < k) (h : k ≤ 6) (c : UInt8) (hn : c ∈ moreL k) : inB c (escL k) = true := by
  rw [inB_iff, escL_step k h0 h]
  exact Or.inl hn
end Go.Proofs.Ytjhddigcdeakcaa.PT
