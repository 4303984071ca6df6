/-
  PLAIN LAWS: validity and units of 16 bits, step by step; texts joined: no program in sight.
-/
import Derived.Test.YtjhddigcdeakcaaDoorPlainUtf
namespace Go.Proofs.YtjhddigcdeakcaaDoor.PT
open Go.Lib (decodeN decodeL validD validGoD)

theorem size_lst (s : ByteArray) : s.data.toList.length = s.size := by simp
theorem decodeL_pos (l : List UInt8) : 1 ≤ (decodeL l).2 := by
  rw [Lib.decodeL_N]
  unfold decodeN
  repeat' split
  all_goals simp
def badL (l : List UInt8) : Prop := (decodeL l).1 = 65533 ∧ (decodeL l).2 = 1
instance (l : List UInt8) : Decidable (badL l) := by unfold badL; exact inferInstance
theorem validD_step (l : List UInt8) (h : l ≠ []) : validD l = if badL l then false else validD (l.drop (decodeL l).2) := by
  unfold validD
  cases l with
  | nil => exact absurd rfl h
  | cons c r =>
    rw [List.length_cons, validGoD, if_neg h]
    by_cases hb : badL (c :: r)
    · rw [if_pos hb]; unfold badL at hb; rw [if_pos hb]
    · rw [if_neg hb]; unfold badL at hb; rw [if_neg hb]
      have := decodeL_pos (c :: r)
      exact Lib.validGoD_fuel _ _ _ (by rw [List.length_drop, List.length_cons]; omega) (Nat.le_refl _)
theorem validD_nil : validD [] = true := rfl

/-- units of 16 bits -/
def unGo : Nat → List UInt8 → Nat
  | 0, _ => 0
  | n + 1, l => if l = [] then 0 else (if 65535 < (decodeL l).1 then 2 else 1) + unGo n (l.drop (decodeL l).2)
def units (l : List UInt8) : Nat := unGo l.length l
theorem unGo_nil : ∀ n, unGo n [] = 0
  | 0 => rfl
  | n + 1 => by rw [unGo, if_pos rfl]
theorem unGo_fuel : ∀ (n m : Nat) (l : List UInt8), l.length ≤ n → l.length ≤ m → unGo n l = unGo m l
  | n, m, [], _, _ => by rw [unGo_nil, unGo_nil]
  | 0, _, c :: r, h, _ => by simp at h
  | _ + 1, 0, c :: r, _, h => by simp at h
  | n + 1, m + 1, c :: r, h1, h2 => by
    have := decodeL_pos (c :: r)
    rw [unGo, if_neg (List.cons_ne_nil c r), unGo, if_neg (List.cons_ne_nil c r)]
    rw [unGo_fuel n m ((c :: r).drop (decodeL (c :: r)).2) (by rw [List.length_drop]; omega) (by rw [List.length_drop]; omega)]
theorem units_step (l : List UInt8) (h : l ≠ []) : units l = (if 65535 < (decodeL l).1 then 2 else 1) + units (l.drop (decodeL l).2) := by
  unfold units
  cases l with
  | nil => exact absurd rfl h
  | cons c r =>
    have := decodeL_pos (c :: r)
    rw [List.length_cons, unGo, if_neg h]
    rw [unGo_fuel r.length _ ((c :: r).drop (decodeL (c :: r)).2) (by rw [List.length_drop, List.length_cons]; omega) (Nat.le_refl _)]
theorem units_nil : units [] = 0 := rfl
theorem units_le : ∀ (n : Nat) (l : List UInt8), l.length ≤ n → units l ≤ 2 * l.length
  | _, [], _ => by simp [units_nil]
  | 0, c :: r, h => by simp at h
  | n + 1, c :: r, h => by
    have hp := decodeL_pos (c :: r)
    rw [units_step _ (by simp)]
    have := units_le n ((c :: r).drop (decodeL (c :: r)).2) (by rw [List.length_drop]; omega)
    rw [List.length_drop] at this
    have hl : 1 ≤ (c :: r).length := by simp
    split <;> omega

/-- the sign at the head, as the reference has it -/
theorem sgn_L (s : ByteArray) (k : Nat) : sgn s k = sgOf (decodeL (s.data.toList.drop k)) := by
  unfold sgn; rw [Lib.decodeL_drop]
theorem sgOf_bad (d : Nat × Nat) (h : d.1 = 65533 ∧ d.2 = 1) : sgOf d = (0, false) := if_pos h
theorem sgOf_ok (d : Nat × Nat) (h : ¬ (d.1 = 65533 ∧ d.2 = 1)) : sgOf d = (d.2, decide (65535 < d.1)) := if_neg h
theorem drop_ne (s : ByteArray) (k : Nat) (h : k < s.size) : s.data.toList.drop k ≠ [] := by
  intro e
  have := congrArg List.length e
  rw [List.length_drop, size_lst, List.length_nil] at this
  omega
theorem valid_bad (s : ByteArray) (k : Nat) (h : k < s.size) (h0 : (sgn s k).1 = 0) : validD (s.data.toList.drop k) = false := by
  rw [validD_step _ (drop_ne s k h), if_pos]
  unfold badL
  rw [sgn_L] at h0
  by_cases hb : (decodeL (s.data.toList.drop k)).1 = 65533 ∧ (decodeL (s.data.toList.drop k)).2 = 1
  · exact hb
  · rw [sgOf_ok _ hb] at h0
    have := decodeL_pos (s.data.toList.drop k)
    omega
theorem sgn_le (s : ByteArray) (k : Nat) (h : k < s.size) : k + (sgn s k).1 ≤ s.size := by
  have := Lib.decodeL_le _ (drop_ne s k h)
  rw [List.length_drop, size_lst] at this
  rw [sgn_L]
  unfold sgOf
  split
  · simp; omega
  · simp only; omega
theorem valid_ok (s : ByteArray) (k : Nat) (h : k < s.size) (h0 : (sgn s k).1 ≠ 0) : validD (s.data.toList.drop k) = validD (s.data.toList.drop (k + (sgn s k).1)) := by
  rw [validD_step _ (drop_ne s k h)]
  by_cases hb : badL (s.data.toList.drop k)
  · unfold badL at hb
    rw [sgn_L, sgOf_bad _ hb] at h0
    exact absurd rfl h0
  · rw [if_neg hb]
    unfold badL at hb
    rw [sgn_L, sgOf_ok _ hb, List.drop_drop]
theorem units_at (s : ByteArray) (k : Nat) (h : k < s.size) : units (s.data.toList.drop k) = (if (sgn s k).2 = true then 2 else 1) + units (s.data.toList.drop (k + (if (sgn s k).1 = 0 then 1 else (sgn s k).1))) := by
  rw [units_step _ (drop_ne s k h), sgn_L, List.drop_drop]
  by_cases hb : (decodeL (s.data.toList.drop k)).1 = 65533 ∧ (decodeL (s.data.toList.drop k)).2 = 1
  · rw [sgOf_bad _ hb, hb.1, hb.2]
    simp
  · have := decodeL_pos (s.data.toList.drop k)
    rw [sgOf_ok _ hb, if_neg (show ¬ (decodeL (s.data.toList.drop k)).2 = 0 by omega)]
    simp only [decide_eq_true_eq]
theorem units_dec (s : ByteArray) (k : Nat) (h : k < s.size) : units (s.data.toList.drop k) = (if 65535 < (Utf8.decode s k).1 then 2 else 1) + units (s.data.toList.drop (k + (Utf8.decode s k).2)) := by
  rw [units_step _ (drop_ne s k h), Lib.decodeL_drop, List.drop_drop]
end Go.Proofs.YtjhddigcdeakcaaDoor.PT
