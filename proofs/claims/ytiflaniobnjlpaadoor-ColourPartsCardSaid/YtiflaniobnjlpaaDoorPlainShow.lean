/-
  PLAIN LAWS ON A COLOUR'S NUMBERS: no program in sight.
-/
import Derived.Test.YtiflaniobnjlpaaDoorPlainColour
namespace Go.Proofs.YtiflaniobnjlpaaDoor.PT

def hexl (n : Nat) : UInt8 := lowB (hexU n)
/-- the colour of three numbers -/
def showC (r g b : UInt8) : List UInt8 := [35, hexl (r.toNat / 16), hexl (r.toNat % 16), hexl (g.toNat / 16), hexl (g.toNat % 16), hexl (b.toNat / 16), hexl (b.toNat % 16)]
theorem showC_low (r g b : UInt8) : low ([35] ++ [hexU (r.toNat / 16), hexU (r.toNat % 16)] ++ [hexU (g.toNat / 16), hexU (g.toNat % 16)] ++ [hexU (b.toNat / 16), hexU (b.toNat % 16)]) = showC r g b := by
  have : lowB 35 = 35 := by decide
  simp [low, showC, hexl, this]
theorem hexl_all : ∀ n : Fin 16, digN (hexl n.val) = n.val := by decide
theorem digN_hexl (n : Nat) (h : n < 16) : digN (hexl n) = n := hexl_all ⟨n, h⟩
theorem hexl_digN_all : ∀ n : Fin 256, digN (UInt8.ofNat n.val) < 16 → hexl (digN (UInt8.ofNat n.val)) = lowB (UInt8.ofNat n.val) := by decide +kernel
theorem hexl_digN (c : UInt8) (h : digN c < 16) : hexl (digN c) = lowB c := by
  have := hexl_digN_all ⟨c.toNat, c.toNat_lt⟩
  simp at this
  exact this h
/-- the number of two digits at a place -/
def partN (l : List UInt8) (k : Nat) : Nat := digN (l.getD k 0) * 16 + digN (l.getD (k + 1) 0)
theorem isCol_showC (r g b : UInt8) : isCol (showC r g b) = true := by
  have h1 : r.toNat < 256 := r.toNat_lt
  have h2 : g.toNat < 256 := g.toNat_lt
  have h3 : b.toNat < 256 := b.toNat_lt
  refine isCol_of _ rfl ?_
  simp only [List.all_cons, List.all_nil, isHex, Bool.and_true, Bool.and_eq_true, decide_eq_true_eq]
  rw [digN_hexl _ (by omega), digN_hexl _ (by omega), digN_hexl _ (by omega), digN_hexl _ (by omega), digN_hexl _ (by omega), digN_hexl _ (by omega)]
  omega
theorem partN_showC (r g b : UInt8) : partN (showC r g b) 1 = r.toNat ∧ partN (showC r g b) 3 = g.toNat ∧ partN (showC r g b) 5 = b.toNat := by
  have h1 : r.toNat < 256 := r.toNat_lt
  have h2 : g.toNat < 256 := g.toNat_lt
  have h3 : b.toNat < 256 := b.toNat_lt
  unfold partN
  refine ⟨?_, ?_, ?_⟩
  · show digN (hexl (r.toNat / 16)) * 16 + digN (hexl (r.toNat % 16)) = _
    rw [digN_hexl _ (by omega), digN_hexl _ (by omega)]; omega
  · show digN (hexl (g.toNat / 16)) * 16 + digN (hexl (g.toNat % 16)) = _
    rw [digN_hexl _ (by omega), digN_hexl _ (by omega)]; omega
  · show digN (hexl (b.toNat / 16)) * 16 + digN (hexl (b.toNat % 16)) = _
    rw [digN_hexl _ (by omega), digN_hexl _ (by omega)]; omega
/-- six digits -/
theorem six (r : List UInt8) (h : r.length = 6) : ∃ a b c d e f, r = [a, b, c, d, e, f] := by
  match r, h with
  | [a, b, c, d, e, f], _ => exact ⟨a, b, c, d, e, f, rfl⟩
theorem isCol_six (l : List UInt8) (h : isCol l = true) : ∃ a b c d e f, l = [35, a, b, c, d, e, f] ∧ digN a < 16 ∧ digN b < 16 ∧ digN c < 16 ∧ digN d < 16 ∧ digN e < 16 ∧ digN f < 16 := by
  obtain ⟨r, rfl, h6, hx⟩ := isCol_shape l h
  obtain ⟨a, b, c, d, e, f, rfl⟩ := six r h6
  simp only [List.all_cons, List.all_nil, isHex, Bool.and_true, Bool.and_eq_true, decide_eq_true_eq] at hx
  exact ⟨a, b, c, d, e, f, rfl, hx.1, hx.2.1, hx.2.2.1, hx.2.2.2.1, hx.2.2.2.2.1, hx.2.2.2.2.2⟩
theorem partN_lt (l : List UInt8) (h : isCol l = true) : partN l 1 < 256 ∧ partN l 3 < 256 ∧ partN l 5 < 256 := by
  obtain ⟨a, b, c, d, e, f, rfl, h1, h2, h3, h4, h5, h6⟩ := isCol_six l h
  refine ⟨?_, ?_, ?_⟩
  · show digN a * 16 + digN b < 256; omega
  · show digN c * 16 + digN d < 256; omega
  · show digN e * 16 + digN f < 256; omega
theorem show_parts (l : List UInt8) (h : isCol l = true) : showC (UInt8.ofNat (partN l 1)) (UInt8.ofNat (partN l 3)) (UInt8.ofNat (partN l 5)) = clean l := by
  unfold clean
  rw [if_pos h]
  have hp := partN_lt l h
  obtain ⟨a, b, c, d, e, f, rfl, h1, h2, h3, h4, h5, h6⟩ := isCol_six l h
  have e1 : partN [35, a, b, c, d, e, f] 1 = digN a * 16 + digN b := rfl
  have e2 : partN [35, a, b, c, d, e, f] 3 = digN c * 16 + digN d := rfl
  have e3 : partN [35, a, b, c, d, e, f] 5 = digN e * 16 + digN f := rfl
  rw [e1, e2, e3] at hp
  rw [e1, e2, e3]
  have q : ∀ n, n < 256 → (UInt8.ofNat n).toNat = n := fun n hn => by simp; omega
  unfold showC
  rw [q _ hp.1, q _ hp.2.1, q _ hp.2.2]
  rw [show (digN a * 16 + digN b) / 16 = digN a by omega, show (digN a * 16 + digN b) % 16 = digN b by omega,
    show (digN c * 16 + digN d) / 16 = digN c by omega, show (digN c * 16 + digN d) % 16 = digN d by omega,
    show (digN e * 16 + digN f) / 16 = digN e by omega, show (digN e * 16 + digN f) % 16 = digN f by omega]
  rw [hexl_digN _ h1, hexl_digN _ h2, hexl_digN _ h3, hexl_digN _ h4, hexl_digN _ h5, hexl_digN _ h6]
  rfl
/-- the number of the digits ahead of a place -/
def numAt (l : List UInt8) : Nat → Nat
  | 0 => 0
  | k + 1 => if k = 0 then 0 else numAt l k * 16 + digN (l.getD k 0)
theorem numAt_one (l : List UInt8) : numAt l 1 = 0 := rfl
theorem numAt_succ (l : List UInt8) (k : Nat) (h : 1 ≤ k) : numAt l (k + 1) = numAt l k * 16 + digN (l.getD k 0) := by
  show (if k = 0 then 0 else _) = _
  rw [if_neg (by omega)]
theorem numAt_seven (l : List UInt8) (h : isCol l = true) : numAt l 7 = partN l 1 * 65536 + partN l 3 * 256 + partN l 5 := by
  unfold partN
  rw [numAt_succ l 6 (by omega), numAt_succ l 5 (by omega), numAt_succ l 4 (by omega), numAt_succ l 3 (by omega), numAt_succ l 2 (by omega), numAt_succ l 1 (by omega), numAt_one]
  simp only [Nat.reduceAdd]
  omega
theorem isCol_dig (l : List UInt8) (h : isCol l = true) (k : Nat) (h1 : 1 ≤ k) (h7 : k < 7) : digN (l.getD k 0) < 16 := by
  obtain ⟨a, b, c, d, e, f, rfl, g1, g2, g3, g4, g5, g6⟩ := isCol_six l h
  obtain rfl | rfl | rfl | rfl | rfl | rfl : k = 1 ∨ k = 2 ∨ k = 3 ∨ k = 4 ∨ k = 5 ∨ k = 6 := by omega
  all_goals assumption
theorem numAt_lt (l : List UInt8) (h : isCol l = true) (k : Nat) (h1 : 1 ≤ k) (h7 : k ≤ 7) : numAt l k < 16777216 := by
  have d1 := isCol_dig l h 1 (by omega) (by omega)
  have d2 := isCol_dig l h 2 (by omega) (by omega)
  have d3 := isCol_dig l h 3 (by omega) (by omega)
  have d4 := isCol_dig l h 4 (by omega) (by omega)
  have d5 := isCol_dig l h 5 (by omega) (by omega)
  have d6 := isCol_dig l h 6 (by omega) (by omega)
  have s1 := numAt_one l
  have s2 := numAt_succ l 1 (by omega)
  have s3 := numAt_succ l 2 (by omega)
  have s4 := numAt_succ l 3 (by omega)
  have s5 := numAt_succ l 4 (by omega)
  have s6 := numAt_succ l 5 (by omega)
  have s7 := numAt_succ l 6 (by omega)
  simp only [Nat.reduceAdd] at s2 s3 s4 s5 s6 s7
  obtain rfl | rfl | rfl | rfl | rfl | rfl | rfl : k = 1 ∨ k = 2 ∨ k = 3 ∨ k = 4 ∨ k = 5 ∨ k = 6 ∨ k = 7 := by omega
  all_goals omega
theorem hex_at_all : ∀ n : Fin 256, digN (UInt8.ofNat n.val) < 16 → Lib.indexByte hexCs (lowB (UInt8.ofNat n.val)) = digN (UInt8.ofNat n.val) := by decide +kernel
theorem hex_at (c : UInt8) (h : digN c < 16) : Lib.indexByte hexCs (lowB c) = digN c := by
  have := hex_at_all ⟨c.toNat, c.toNat_lt⟩
  simp at this
  exact this h
end Go.Proofs.YtiflaniobnjlpaaDoor.PT
