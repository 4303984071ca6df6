/-
  PLAIN LAWS ON ESCAPES: no program in sight.
-/
import Derived.Lib.Bytealg
import Derived.Test.YtjhddigcdeakcaaPlainText
namespace Go.Proofs.Ytjhddigcdeakcaa.PT

theorem indexByte_no {l : List UInt8} {c : UInt8} (h : c ∉ l) : Lib.indexByte l c = -1 := by
  induction l with
  | nil => rfl
  | cons b l ih =>
    simp only [List.mem_cons, not_or] at h
    rw [Lib.indexByte, ih h.2, if_neg (by simp; exact fun e => h.1 e.symm)]
    rfl
theorem indexByte_yes {l : List UInt8} {c : UInt8} (h : c ∈ l) : ∃ z : Nat, Lib.indexByte l c = z ∧ z < l.length := by
  induction l with
  | nil => cases h
  | cons b l ih =>
    by_cases e : b = c
    · exact ⟨0, by rw [Lib.indexByte, if_pos (by simpa using e)]; rfl, by simp⟩
    · have h' : c ∈ l := by
        rcases List.mem_cons.1 h with h | h
        · exact absurd h.symm e
        · exact h
      obtain ⟨z, hz, hl⟩ := ih h'
      refine ⟨z + 1, ?_, by simpa using hl⟩
      rw [Lib.indexByte, hz, if_neg (by simpa using e), if_neg (by simp)]
      rfl

/-- does a byte stand in a text? -/
def inB (c : UInt8) (l : List UInt8) : Bool := decide (c ∈ l)
theorem inB_yes {c : UInt8} {l : List UInt8} (h : c ∈ l) : inB c l = true := decide_eq_true h
theorem inB_no {c : UInt8} {l : List UInt8} (h : c ∉ l) : inB c l = false := decide_eq_false h
theorem inB_iff {c : UInt8} {l : List UInt8} : inB c l = true ↔ c ∈ l := decide_eq_true_iff
def letterB (c : UInt8) : Bool := (97 ≤ c.toNat && c.toNat ≤ 122) || (65 ≤ c.toNat && c.toNat ≤ 90) || (48 ≤ c.toNat && c.toNat ≤ 57)
def moreL : Nat → List UInt8
  | 1 => [32, 34, 60, 62, 96]
  | 2 => [32, 34, 35, 60, 62]
  | 3 => [39]
  | 4 => [63, 94, 123, 125, 96]
  | 5 => [47, 58, 59, 61, 64, 91, 92, 93, 124]
  | 6 => [36, 37, 38, 43, 44]
  | _ => []
def aheadN : Nat → Nat
  | 3 => 2
  | 4 => 2
  | 5 => 4
  | 6 => 5
  | _ => 0
/-- what a set escapes among the bytes from 32 to 126 -/
def escL : Nat → List UInt8
  | 1 => moreL 1
  | 2 => moreL 2
  | 3 => moreL 2 ++ moreL 3
  | 4 => moreL 2 ++ moreL 4
  | 5 => moreL 2 ++ moreL 4 ++ moreL 5
  | 6 => moreL 2 ++ moreL 4 ++ moreL 5 ++ moreL 6
  | _ => []
theorem aheadN_lt (k : Nat) (h : 0 < k) : aheadN k < k := by
  unfold aheadN
  split <;> omega
theorem aheadN_le (k : Nat) : aheadN k ≤ 6 := by
  unfold aheadN
  split <;> omega
theorem escL_step (k : Nat) (h0 : 0 < k) (h : k ≤ 6) (c : UInt8) : c ∈ escL k ↔ c ∈ moreL k ∨ c ∈ escL (aheadN k) := by
  obtain rfl | rfl | rfl | rfl | rfl | rfl : k = 1 ∨ k = 2 ∨ k = 3 ∨ k = 4 ∨ k = 5 ∨ k = 6 := by omega
  all_goals simp only [escL, aheadN, List.mem_append, List.not_mem_nil, or_false]
  all_goals first | exact Iff.rfl | exact Or.comm
def plain7 : List UInt8 := [42, 45, 46, 95]
/-- a digit's letter -/
def hexU (n : Nat) : UInt8 := if n < 10 then UInt8.ofNat (48 + n) else UInt8.ofNat (55 + n)
/-- does a set escape a byte? -/
def escB (set : Int) (c : UInt8) : Bool :=
  if set < 0 ∨ 7 < set then false
  else if set = 7 then !letterB c && !inB c plain7
  else if c.toNat < 32 ∨ 126 < c.toNat then true
  else inB c (escL set.toNat)
theorem escB_out (set : Int) (c : UInt8) (h : set < 0 ∨ 7 < set) : escB set c = false := if_pos h
theorem escB_7 (c : UInt8) : escB 7 c = (!letterB c && !inB c plain7) := by
  unfold escB
  rw [if_neg (by omega), if_pos rfl]
theorem escB_far (k : Nat) (c : UInt8) (hk : k ≤ 6) (h : c.toNat < 32 ∨ 126 < c.toNat) : escB k c = true := by
  unfold escB
  rw [if_neg (by omega), if_neg (by omega), if_pos h]
theorem escB_near (k : Nat) (c : UInt8) (hk : k ≤ 6) (h : ¬ (c.toNat < 32 ∨ 126 < c.toNat)) : escB k c = inB c (escL k) := by
  unfold escB
  rw [if_neg (by omega), if_neg (by omega), if_neg h, Int.toNat_natCast]
theorem inB_step (k : Nat) (h0 : 0 < k) (h : k ≤ 6) (c : UInt8) (hn : c ∉ moreL k) : inB c (escL k) = inB c (escL (aheadN k)) := by
  rw [Bool.eq_iff_iff, inB_iff, inB_iff, escL_step k h0 h]
  exact ⟨fun e => e.elim (fun e => absurd e hn) id, Or.inr⟩
theorem inB_here (k : Nat) (h0 : 0 < k) (h : k ≤ 6) (c : UInt8) (hn : c ∈ moreL k) : inB c (escL k) = true := by
  rw [inB_iff, escL_step k h0 h]
  exact Or.inl hn

/-- a hexadecimal digit's number; 255: it is none -/
def digN (c : UInt8) : Nat := if 48 ≤ c.toNat ∧ c.toNat ≤ 57 then c.toNat - 48 else if 97 ≤ c.toNat ∧ c.toNat ≤ 102 then c.toNat - 87 else if 65 ≤ c.toNat ∧ c.toNat ≤ 70 then c.toNat - 55 else 255
theorem digN_le (c : UInt8) : digN c ≤ 255 := by
  have := c.toNat_lt
  unfold digN
  split
  · omega
  · split
    · omega
    · split <;> omega
def digI (c : UInt8) : Int := if digN c < 16 then digN c else -1
def hexAll : List UInt8 := [48, 49, 50, 51, 52, 53, 54, 55, 56, 57, 65, 66, 67, 68, 69, 70, 97, 98, 99, 100, 101, 102]
theorem digI_at (k : Nat) (h : k < hexAll.length) : digI hexAll[k] = if 15 < k then (k : Int) - 6 else k := by
  have : ∀ j : Fin 22, digI (hexAll[j.val]'(by simp [hexAll])) = if 15 < j.val then (j.val : Int) - 6 else j.val := by decide
  exact this ⟨k, by simpa [hexAll] using h⟩
theorem hex_mem_all : ∀ n : Fin 256, digN (UInt8.ofNat n.val) < 16 → UInt8.ofNat n.val ∈ hexAll := by decide +kernel
theorem digI_none (c : UInt8) (h : c ∉ hexAll) : digI c = -1 := by
  unfold digI
  rw [if_neg]
  intro h'
  apply h
  have := hex_mem_all ⟨c.toNat, c.toNat_lt⟩
  simp at this
  exact this h'
/-- a text read by its escapes -/
def dec : List UInt8 → List UInt8
  | c :: a :: b :: r => if c = 37 ∧ digN a < 16 ∧ digN b < 16 then UInt8.ofNat (digN a * 16 + digN b) :: dec r else c :: dec (a :: b :: r)
  | c :: r => c :: dec r
  | [] => []
theorem dec_yes (a b : UInt8) (r : List UInt8) (ha : digN a < 16) (hb : digN b < 16) : dec (37 :: a :: b :: r) = UInt8.ofNat (digN a * 16 + digN b) :: dec r := by
  rw [dec, if_pos ⟨rfl, ha, hb⟩]
theorem dec_no (c a b : UInt8) (r : List UInt8) (h : ¬ (c = 37 ∧ digN a < 16 ∧ digN b < 16)) : dec (c :: a :: b :: r) = c :: dec (a :: b :: r) := by
  rw [dec, if_neg h]
theorem dec_short1 (c : UInt8) : dec [c] = [c] := rfl
theorem dec_short2 (c a : UInt8) : dec [c, a] = [c, a] := rfl
theorem dec_len : ∀ l : List UInt8, (dec l).length ≤ l.length
  | c :: a :: b :: r => by
    rw [dec]
    have h1 := dec_len r
    have h2 := dec_len (a :: b :: r)
    split
    · simp only [List.length_cons]; omega
    · simp only [List.length_cons] at h2 ⊢; omega
  | [_, _] => by simp [dec]
  | [_] => by simp [dec]
  | [] => by simp [dec]

theorem drop_cons' (s : ByteArray) (k : Nat) (h : k < s.size) : s.data.toList.drop k = s[k] :: s.data.toList.drop (k + 1) := by
  rw [List.drop_eq_getElem_cons (by simpa using h)]; rfl
/-- an escape begins at place k -/
def EscAt (s : ByteArray) (k : Nat) : Prop := ∃ h : k + 2 < s.size, s[k] = 37 ∧ digN s[k + 1] < 16 ∧ digN s[k + 2] < 16
theorem dec_at_yes (s : ByteArray) (k : Nat) (h : k + 2 < s.size) (h0 : s[k] = 37) (h1 : digN s[k + 1] < 16) (h2 : digN s[k + 2] < 16) :
    dec (s.data.toList.drop k) = UInt8.ofNat (digN s[k + 1] * 16 + digN s[k + 2]) :: dec (s.data.toList.drop (k + 3)) := by
  rw [drop_cons' s k (by omega), drop_cons' s (k + 1) (by omega), drop_cons' s (k + 2) (by omega), h0, dec_yes _ _ _ h1 h2]
theorem dec_at_no (s : ByteArray) (k : Nat) (h : k < s.size) (hn : ¬ EscAt s k) : dec (s.data.toList.drop k) = s[k] :: dec (s.data.toList.drop (k + 1)) := by
  by_cases h2 : k + 2 < s.size
  · rw [drop_cons' s k (by omega), drop_cons' s (k + 1) (by omega), drop_cons' s (k + 2) (by omega), dec_no]
    exact fun ⟨e1, e2, e3⟩ => hn ⟨h2, e1, e2, e3⟩
  · by_cases h1 : k + 1 < s.size
    · rw [drop_cons' s k (by omega), drop_cons' s (k + 1) (by omega), List.drop_eq_nil_of_le (by simp; omega)]
      rfl
    · rw [drop_cons' s k (by omega), List.drop_eq_nil_of_le (by simp; omega)]
      rfl
end Go.Proofs.Ytjhddigcdeakcaa.PT
