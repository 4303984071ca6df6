/-
  PLAIN LAWS ON ESCAPES: no program in sight.
-/
import Derived.Lib.Bytealg
import Derived.Test.YtapbljaohhcpoaaDoorPlainText
namespace Go.Proofs.YtapbljaohhcpoaaDoor.PT

/-- does a byte stand in a text? -/
def inB (c : UInt8) (l : List UInt8) : Bool := decide (c ∈ l)
theorem inB_yes {c : UInt8} {l : List UInt8} (h : c ∈ l) : inB c l = true := decide_eq_true h
theorem inB_no {c : UInt8} {l : List UInt8} (h : c ∉ l) : inB c l = false := decide_eq_false h
theorem inB_iff {c : UInt8} {l : List UInt8} : inB c l = true ↔ c ∈ l := decide_eq_true_iff
def letterB (c : UInt8) : Bool := (97 ≤ c.toNat && c.toNat ≤ 122) || (65 ≤ c.toNat && c.toNat ≤ 90) || (48 ≤ c.toNat && c.toNat ≤ 57)
def moreL : Nat → List UInt8
  | 1 => [32, 34, 60, 62, 96]
  | 2 => [32, 34, 35, 60, 62]
  | 3 => [39]
  | 4 => [63, 94, 123, 125, 96]
  | 5 => [47, 58, 59, 61, 64, 91, 92, 93, 124]
  | 6 => [36, 37, 38, 43, 44]
  | _ => []
def aheadN : Nat → Nat
  | 3 => 2
  | 4 => 2
  | 5 => 4
  | 6 => 5
  | _ => 0
/-- what a set escapes among the bytes from 32 to 126 -/
def escL : Nat → List UInt8
  | 1 => moreL 1
  | 2 => moreL 2
  | 3 => moreL 2 ++ moreL 3
  | 4 => moreL 2 ++ moreL 4
  | 5 => moreL 2 ++ moreL 4 ++ moreL 5
  | 6 => moreL 2 ++ moreL 4 ++ moreL 5 ++ moreL 6
  | _ => []
theorem aheadN_lt (k : Nat) (h : 0 < k) : aheadN k < k := by
  unfold aheadN
  split <;> omega
theorem aheadN_le (k : Nat) : aheadN k ≤ 6 := by
  unfold aheadN
  split <;> omega
theorem escL_step (k : Nat) (h0 : 0 < k) (h : k ≤ 6) (c : UInt8) : c ∈ escL k ↔ c ∈ moreL k ∨ c ∈ escL (aheadN k) := by
  obtain rfl | rfl | rfl | rfl | rfl | rfl : k = 1 ∨ k = 2 ∨ k = 3 ∨ k = 4 ∨ k = 5 ∨ k = 6 := by omega
  all_goals simp only [escL, aheadN, List.mem_append, List.not_mem_nil, or_false]
  all_goals first | exact Iff.rfl | exact Or.comm
def plain7 : List UInt8 := [42, 45, 46, 95]
/-- a digit's letter -/
def hexU (n : Nat) : UInt8 := if n < 10 then UInt8.ofNat (48 + n) else UInt8.ofNat (55 + n)
/-- does a set escape a byte? -/
def escB (set : Int) (c : UInt8) : Bool :=
  if set < 0 ∨ 7 < set then false
  else if set = 7 then !letterB c && !inB c plain7
  else if c.toNat < 32 ∨ 126 < c.toNat then true
  else inB c (escL set.toNat)
theorem escB_out (set : Int) (c : UInt8) (h : set < 0 ∨ 7 < set) : escB set c = false := if_pos h
theorem escB_7 (c : UInt8) : escB 7 c = (!letterB c && !inB c plain7) := by
  unfold escB
  rw [if_neg (by omega), if_pos rfl]
theorem escB_far (k : Nat) (c : UInt8) (hk : k ≤ 6) (h : c.toNat < 32 ∨ 126 < c.toNat) : escB k c = true := by
  unfold escB
  rw [if_neg (by omega), if_neg (by omega), if_pos h]
theorem escB_near (k : Nat) (c : UInt8) (hk : k ≤ 6) (h : ¬ (c.toNat < 32 ∨ 126 < c.toNat)) : escB k c = inB c (escL k) := by
  unfold escB
  rw [if_neg (by omega), if_neg (by omega), if_neg h, Int.toNat_natCast]
theorem inB_step (k : Nat) (h0 : 0 < k) (h : k ≤ 6) (c : UInt8) (hn : c ∉ moreL k) : inB c (escL k) = inB c (escL (aheadN k)) := by
  rw [Bool.eq_iff_iff, inB_iff, inB_iff, escL_step k h0 h]
  exact ⟨fun e => e.elim (fun e => absurd e hn) id, Or.inr⟩
theorem inB_here (k : Nat) (h0 : 0 < k) (h : k ≤ 6) (c : UInt8) (hn : c ∈ moreL k) : inB c (escL k) = true := by
  rw [inB_iff, escL_step k h0 h]
  exact Or.inl hn

/-- a hexadecimal digit's number; 255: it is none -/
def digN (c : UInt8) : Nat := if 48 ≤ c.toNat ∧ c.toNat ≤ 57 then c.toNat - 48 else if 97 ≤ c.toNat ∧ c.toNat ≤ 102 then c.toNat - 87 else if 65 ≤ c.toNat ∧ c.toNat ≤ 70 then c.toNat - 55 else 255
theorem digN_le (c : UInt8) : digN c ≤ 255 := by
  have := c.toNat_lt
  unfold digN
  split
  · omega
  · split
    · omega
    · split <;> omega
def digI (c : UInt8) : Int := if digN c < 16 then digN c else -1
def hexAll : List UInt8 := [48, 49, 50, 51, 52, 53, 54, 55, 56, 57, 65, 66, 67, 68, 69, 70, 97, 98, 99, 100, 101, 102]
theorem digI_at (k : Nat) (h : k < hexAll.length) : digI hexAll[k] = if 15 < k then (k : Int) - 6 else k := by
  have : ∀ j : Fin 22, digI (hexAll[j.val]'(by simp [hexAll])) = if 15 < j.val then (j.val : Int) - 6 else j.val := by decide
  exact this ⟨k, by simpa [hexAll] using h⟩
theorem hex_mem_all : ∀ n : Fin 256, digN (UInt8.ofNat n.val) < 16 → UInt8.ofNat n.val ∈ hexAll := by decide +kernel
theorem digI_none (c : UInt8) (h : c ∉ hexAll) : digI c = -1 := by
  unfold digI
  rw [if_neg]
  intro h'
  apply h
  have := hex_mem_all ⟨c.toNat, c.toNat_lt⟩
  simp at this
  exact this h'
/-- a text read by its escapes -/
def dec : List UInt8 → List UInt8
  | c :: a :: b :: r => if c = 37 ∧ digN a < 16 ∧ digN b < 16 then UInt8.ofNat (digN a * 16 + digN b) :: dec r else c :: dec (a :: b :: r)
  | c :: r => c :: dec r
  | [] => []
theorem dec_yes (a b : UInt8) (r : List UInt8) (ha : digN a < 16) (hb : digN b < 16) : dec (37 :: a :: b :: r) = UInt8.ofNat (digN a * 16 + digN b) :: dec r := by
  rw [dec, if_pos ⟨rfl, ha, hb⟩]
theorem dec_no (c a b : UInt8) (r : List UInt8) (h : ¬ (c = 37 ∧ digN a < 16 ∧ digN b < 16)) : dec (c :: a :: b :: r) = c :: dec (a :: b :: r) := by
  rw [dec, if_neg h]
theorem dec_short1 (c : UInt8) : dec [c] = [c] := rfl
theorem dec_short2 (c a : UInt8) : dec [c, a] = [c, a] := rfl
theorem dec_len : ∀ l : List UInt8, (dec l).length ≤ l.length
  | c :: a :: b :: r => by
    rw [dec]
    have h1 := dec_len r
    have h2 := dec_len (a :: b :: r)
    split
    · simp only [List.length_cons]; omega
    · simp only [List.length_cons] at h2 ⊢; omega
  | [_, _] => by simp [dec]
  | [_] => by simp [dec]
  | [] => by simp [dec]

/-- an escape begins at place k -/
def EscAt (s : ByteArray) (k : Nat) : Prop := ∃ h : k + 2 < s.size, s[k] = 37 ∧ digN s[k + 1] < 16 ∧ digN s[k + 2] < 16
theorem dec_at_yes (s : ByteArray) (k : Nat) (h : k + 2 < s.size) (h0 : s[k] = 37) (h1 : digN s[k + 1] < 16) (h2 : digN s[k + 2] < 16) :
    dec (s.data.toList.drop k) = UInt8.ofNat (digN s[k + 1] * 16 + digN s[k + 2]) :: dec (s.data.toList.drop (k + 3)) := by
  rw [drop_cons' s k (by omega), drop_cons' s (k + 1) (by omega), drop_cons' s (k + 2) (by omega), h0, dec_yes _ _ _ h1 h2]
theorem dec_at_no (s : ByteArray) (k : Nat) (h : k < s.size) (hn : ¬ EscAt s k) : dec (s.data.toList.drop k) = s[k] :: dec (s.data.toList.drop (k + 1)) := by
  by_cases h2 : k + 2 < s.size
  · rw [drop_cons' s k (by omega), drop_cons' s (k + 1) (by omega), drop_cons' s (k + 2) (by omega), dec_no]
    exact fun ⟨e1, e2, e3⟩ => hn ⟨h2, e1, e2, e3⟩
  · by_cases h1 : k + 1 < s.size
    · rw [drop_cons' s k (by omega), drop_cons' s (k + 1) (by omega), List.drop_eq_nil_of_le (by simp; omega)]
      rfl
    · rw [drop_cons' s k (by omega), List.drop_eq_nil_of_le (by simp; omega)]
      rfl
/-- what a set makes of a text -/
def encL (z : Int) : List UInt8 → List UInt8
  | [] => []
  | c :: r => (if escB z c then [37, hexU (c.toNat / 16), hexU (c.toNat % 16)] else [c]) ++ encL z r
theorem encL_append (z : Int) (a b : List UInt8) : encL z (a ++ b) = encL z a ++ encL z b := by
  induction a with
  | nil => rfl
  | cons c a ih => simp [encL, ih]
theorem encL_len (z : Int) (l : List UInt8) : (encL z l).length ≤ 3 * l.length := by
  induction l with
  | nil => simp [encL]
  | cons c l ih =>
    simp only [encL, List.length_append, List.length_cons]
    split <;> simp <;> omega
theorem encL_snoc_yes (z : Int) (s : ByteArray) (k : Nat) (h : k < s.size) (he : escB z s[k] = true) : encL z (s.data.toList.take (k + 1)) = encL z (s.data.toList.take k) ++ [37, hexU (s[k].toNat / 16), hexU (s[k].toNat % 16)] := by
  rw [take_snoc s k h, encL_append]
  simp [encL, he]
theorem encL_snoc_no (z : Int) (s : ByteArray) (k : Nat) (h : k < s.size) (he : escB z s[k] = false) : encL z (s.data.toList.take (k + 1)) = encL z (s.data.toList.take k) ++ [s[k]] := by
  rw [take_snoc s k h, encL_append]
  simp [encL, he]

theorem digN_hexU (n : Nat) (h : n < 16) : digN (hexU n) = n := by
  have : ∀ i : Fin 16, digN (hexU i.val) = i.val := by decide
  exact this ⟨n, h⟩
theorem dec_cons_ne (c : UInt8) (h : c ≠ 37) : ∀ r : List UInt8, dec (c :: r) = c :: dec r
  | [] => rfl
  | [_] => rfl
  | a :: b :: r => dec_no c a b r (fun e => h e.1)
theorem dec_encL (z : Int) (l : List UInt8) (h : escB z 37 = true ∨ 37 ∉ l) : dec (encL z l) = l := by
  induction l with
  | nil => rfl
  | cons c r ih =>
    have ih' := ih (h.imp id (fun h e => h (List.mem_cons_of_mem _ e)))
    have hc : c.toNat < 256 := c.toNat_lt
    unfold encL
    cases he : escB z c
    · have hne : c ≠ 37 := by
        rintro rfl
        rcases h with h | h
        · rw [h] at he; cases he
        · exact h (List.mem_cons_self ..)
      show dec (c :: encL z r) = _
      rw [dec_cons_ne c hne, ih']
    · show dec (37 :: hexU (c.toNat / 16) :: hexU (c.toNat % 16) :: encL z r) = _
      rw [dec_yes _ _ _ (by rw [digN_hexU _ (by omega)]; omega) (by rw [digN_hexU _ (by omega)]; omega), digN_hexU _ (by omega), digN_hexU _ (by omega), ih', show c.toNat / 16 * 16 + c.toNat % 16 = c.toNat by omega]
      simp

end Go.Proofs.YtapbljaohhcpoaaDoor.PT
