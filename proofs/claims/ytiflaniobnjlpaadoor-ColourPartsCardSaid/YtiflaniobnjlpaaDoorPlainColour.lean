/-
  PLAIN LAWS ON COLOURS (chapter 06): no program in sight.
-/
import Derived.Lib.SlTrimSet
import Derived.Test.YtiflaniobnjlpaaDoorPlainText
import Derived.Test.YtiflaniobnjlpaaDoorPlainEscape
namespace Go.Proofs.YtiflaniobnjlpaaDoor.PT

def hexCs : List UInt8 := [48, 49, 50, 51, 52, 53, 54, 55, 56, 57, 97, 98, 99, 100, 101, 102]
def isHex (c : UInt8) : Bool := decide (digN c < 16)
theorem low_hex_all : ∀ n : Fin 256, hexCs.contains (lowB (UInt8.ofNat n.val)) = isHex (UInt8.ofNat n.val) ∧ isHex (lowB (UInt8.ofNat n.val)) = isHex (UInt8.ofNat n.val) := by decide +kernel
theorem low_hex (c : UInt8) : hexCs.contains (lowB c) = isHex c := by
  have := (low_hex_all ⟨c.toNat, c.toNat_lt⟩).1
  simpa using this
theorem hex_low (c : UInt8) : isHex (lowB c) = isHex c := by
  have := (low_hex_all ⟨c.toNat, c.toNat_lt⟩).2
  simpa using this
theorem dropWhile_nil (p : UInt8 → Bool) : ∀ l : List UInt8, l.dropWhile p = [] ↔ ∀ x ∈ l, p x = true
  | [] => by simp
  | c :: r => by
    rw [List.dropWhile_cons]
    by_cases h : p c = true
    · rw [if_pos h, dropWhile_nil p r]
      constructor
      · intro k x hx
        rcases List.mem_cons.1 hx with e | e
        · rw [e]; exact h
        · exact k x e
      · intro k x hx; exact k x (List.mem_cons.2 (Or.inr hx))
    · rw [if_neg h]
      constructor
      · intro k; exact absurd k (by simp)
      · intro k; exact absurd (k c (by simp)) h
theorem trimS_nil (l cs : List UInt8) : Lib.trimS l cs = [] ↔ ∀ x ∈ l, cs.contains x = true := by
  constructor
  · intro h
    unfold Lib.trimS Lib.trimLeftS at h
    rw [dropWhile_nil] at h
    unfold Lib.trimRightS at h
    cases hd : l.reverse.dropWhile (cs.contains ·) with
    | nil =>
      rw [dropWhile_nil] at hd
      intro x hx
      exact hd x (by simpa using hx)
    | cons y r =>
      exfalso
      have h1 := h y (by rw [hd]; simp)
      have h2 := List.head_dropWhile_not (l := l.reverse) (fun x => cs.contains x) (by rw [hd]; simp)
      simp only [hd, List.head_cons] at h2
      rw [h1] at h2
      exact Bool.noConfusion h2
  · intro h
    have e : Lib.trimRightS l cs = [] := by
      unfold Lib.trimRightS
      rw [(dropWhile_nil _ _).2 (fun x hx => h x (by simpa using hx))]
      rfl
    unfold Lib.trimS
    rw [e]
    rfl
theorem trim_hex (r : List UInt8) : decide (Lib.trimS (low r) hexCs = []) = r.all isHex := by
  rw [Bool.eq_iff_iff, decide_eq_true_iff, trimS_nil, List.all_eq_true]
  unfold low
  constructor
  · intro h x hx
    rw [← low_hex]
    exact h _ (List.mem_map.2 ⟨x, hx, rfl⟩)
  · intro h x hx
    obtain ⟨y, hy, rfl⟩ := List.mem_map.1 hx
    rw [low_hex]
    exact h y hy
/-- a simple colour -/
def isCol (l : List UInt8) : Bool := Lib.hasPrefix l [35] && (decide ((l.drop 1).length = 6) && (l.drop 1).all isHex)
def black : List UInt8 := [35, 48, 48, 48, 48, 48, 48]
def clean (l : List UInt8) : List UInt8 := if isCol l = true then low l else black
theorem isCol_black : isCol black = true := by decide
theorem low_black : low black = black := by decide
theorem isCol_shape (l : List UInt8) (h : isCol l = true) : ∃ r, l = 35 :: r ∧ r.length = 6 ∧ r.all isHex = true := by
  unfold isCol at h
  cases l with
  | nil => simp [Lib.hasPrefix] at h
  | cons c r =>
    simp only [Bool.and_eq_true, decide_eq_true_eq] at h
    have : c = 35 := by
      have := h.1
      simp [Lib.hasPrefix, List.isPrefixOf] at this
      exact this.symm
    exact ⟨r, by rw [this], h.2.1, h.2.2⟩
theorem isCol_of (r : List UInt8) (h : r.length = 6) (hx : r.all isHex = true) : isCol (35 :: r) = true := by
  unfold isCol
  simp only [Bool.and_eq_true, decide_eq_true_eq]
  exact ⟨by simp [Lib.hasPrefix, List.isPrefixOf], h, hx⟩
theorem isCol_low (l : List UInt8) (h : isCol l = true) : isCol (low l) = true := by
  obtain ⟨r, rfl, h1, h2⟩ := isCol_shape l h
  refine isCol_of (low r) (by rw [low_length, h1]) ?_
  rw [List.all_eq_true] at h2 ⊢
  intro x hx
  obtain ⟨y, hy, rfl⟩ := List.mem_map.1 hx
  rw [hex_low]; exact h2 y hy
theorem isCol_clean (l : List UInt8) : isCol (clean l) = true := by
  unfold clean
  split
  · rename_i h; exact isCol_low l h
  · exact isCol_black
theorem clean_clean (l : List UInt8) : clean (clean l) = clean l := by
  have h := isCol_clean l
  rw [clean, if_pos h]
  unfold clean
  split
  · exact low_twice l
  · exact low_black
end Go.Proofs.YtiflaniobnjlpaaDoor.PT
