/-
  PLAIN LAWS: validity and units of two texts joined: no program in sight.
-/
import Derived.Test.YtjhddigcdeakcaaDoorPlainUnits
namespace Go.Proofs.YtjhddigcdeakcaaDoor.PT
open Go.Lib (decodeN decodeL validD)

theorem dec2 (n b0 b1 b2 b3 : Nat) (ha : ¬ b0 < 128) (h : b0 / 32 = 6 ∧ (1 < n ∧ b1 / 64 = 2)) : decodeN n b0 b1 b2 b3 = (if b0 % 32 * 64 + b1 % 64 ≥ 128 then (b0 % 32 * 64 + b1 % 64, 2) else (65533, 1)) := by
  unfold decodeN; rw [if_neg ha, if_pos h]
theorem dec3 (n b0 b1 b2 b3 : Nat) (ha : ¬ b0 < 128) (hb : ¬ b0 / 32 = 6) (h : b0 / 16 = 14 ∧ (1 < n ∧ b1 / 64 = 2) ∧ (2 < n ∧ b2 / 64 = 2)) : decodeN n b0 b1 b2 b3 =
    (if b0 % 16 * 4096 + b1 % 64 * 64 + b2 % 64 ≥ 2048 ∧ (b0 % 16 * 4096 + b1 % 64 * 64 + b2 % 64 < 55296 ∨ (57344 ≤ b0 % 16 * 4096 + b1 % 64 * 64 + b2 % 64 ∧ b0 % 16 * 4096 + b1 % 64 * 64 + b2 % 64 ≤ 1114111)) then (b0 % 16 * 4096 + b1 % 64 * 64 + b2 % 64, 3) else (65533, 1)) := by
  have h2 : ¬ (b0 / 32 = 6 ∧ (1 < n ∧ b1 / 64 = 2)) := fun e => hb e.1
  unfold decodeN; rw [if_neg ha, if_neg h2, if_pos h]
theorem dec4 (n b0 b1 b2 b3 : Nat) (ha : ¬ b0 < 128) (hb : ¬ b0 / 32 = 6) (hb3 : ¬ b0 / 16 = 14) (h : b0 / 8 = 30 ∧ (1 < n ∧ b1 / 64 = 2) ∧ (2 < n ∧ b2 / 64 = 2) ∧ (3 < n ∧ b3 / 64 = 2)) : decodeN n b0 b1 b2 b3 =
    (if b0 % 8 * 262144 + b1 % 64 * 4096 + b2 % 64 * 64 + b3 % 64 ≥ 65536 ∧ (b0 % 8 * 262144 + b1 % 64 * 4096 + b2 % 64 * 64 + b3 % 64 < 55296 ∨ (57344 ≤ b0 % 8 * 262144 + b1 % 64 * 4096 + b2 % 64 * 64 + b3 % 64 ∧ b0 % 8 * 262144 + b1 % 64 * 4096 + b2 % 64 * 64 + b3 % 64 ≤ 1114111)) then (b0 % 8 * 262144 + b1 % 64 * 4096 + b2 % 64 * 64 + b3 % 64, 4) else (65533, 1)) := by
  have h2 : ¬ (b0 / 32 = 6 ∧ (1 < n ∧ b1 / 64 = 2)) := fun e => hb e.1
  have h3 : ¬ (b0 / 16 = 14 ∧ (1 < n ∧ b1 / 64 = 2) ∧ (2 < n ∧ b2 / 64 = 2)) := fun e => hb3 e.1
  unfold decodeN; rw [if_neg ha, if_neg h2, if_neg h3, if_pos h]
theorem decBad (n b0 b1 b2 b3 : Nat) (ha : ¬ b0 < 128) (h2 : ¬ (b0 / 32 = 6 ∧ (1 < n ∧ b1 / 64 = 2))) (h3 : ¬ (b0 / 16 = 14 ∧ (1 < n ∧ b1 / 64 = 2) ∧ (2 < n ∧ b2 / 64 = 2)))
    (h4 : ¬ (b0 / 8 = 30 ∧ (1 < n ∧ b1 / 64 = 2) ∧ (2 < n ∧ b2 / 64 = 2) ∧ (3 < n ∧ b3 / 64 = 2))) : decodeN n b0 b1 b2 b3 = (65533, 1) := by
  unfold decodeN; rw [if_neg ha, if_neg h2, if_neg h3, if_neg h4]
theorem decodeN_ext (n n' b0 b1 b2 b3 c1 c2 c3 : Nat) (hn : n ≤ n') (h1 : 1 < n → c1 = b1) (h2 : 2 < n → c2 = b2) (h3 : 3 < n → c3 = b3)
    (hok : ¬ ((decodeN n b0 b1 b2 b3).1 = 65533 ∧ (decodeN n b0 b1 b2 b3).2 = 1)) : decodeN n' b0 c1 c2 c3 = decodeN n b0 b1 b2 b3 := by
  by_cases ha : b0 < 128
  · unfold decodeN; rw [if_pos ha, if_pos ha]
  by_cases hb : b0 / 32 = 6
  · by_cases hc : 1 < n ∧ b1 / 64 = 2
    · have e := h1 hc.1
      subst e
      rw [dec2 n' b0 c1 c2 c3 ha ⟨hb, by omega, hc.2⟩, dec2 n b0 c1 b2 b3 ha ⟨hb, hc⟩]
    · exfalso
      apply hok
      have : decodeN n b0 b1 b2 b3 = (65533, 1) := by
        exact decBad n b0 b1 b2 b3 ha (fun e => hc e.2) (by omega) (by omega)
      rw [this]; exact ⟨rfl, rfl⟩
  by_cases hb3 : b0 / 16 = 14
  · by_cases hc : (1 < n ∧ b1 / 64 = 2) ∧ (2 < n ∧ b2 / 64 = 2)
    · have e1 := h1 hc.1.1
      have e2 := h2 hc.2.1
      subst e1 e2
      rw [dec3 n' b0 c1 c2 c3 ha hb ⟨hb3, ⟨by omega, hc.1.2⟩, by omega, hc.2.2⟩, dec3 n b0 c1 c2 b3 ha hb ⟨hb3, hc⟩]
    · exfalso
      apply hok
      have : decodeN n b0 b1 b2 b3 = (65533, 1) := by
        exact decBad n b0 b1 b2 b3 ha (fun e => hb e.1) (fun e => hc e.2) (by omega)
      rw [this]; exact ⟨rfl, rfl⟩
  by_cases hb4 : b0 / 8 = 30
  · by_cases hc : (1 < n ∧ b1 / 64 = 2) ∧ (2 < n ∧ b2 / 64 = 2) ∧ (3 < n ∧ b3 / 64 = 2)
    · have e1 := h1 hc.1.1
      have e2 := h2 hc.2.1.1
      have e3 := h3 hc.2.2.1
      subst e1 e2 e3
      rw [dec4 n' b0 c1 c2 c3 ha hb hb3 ⟨hb4, ⟨by omega, hc.1.2⟩, ⟨by omega, hc.2.1.2⟩, by omega, hc.2.2.2⟩, dec4 n b0 c1 c2 c3 ha hb hb3 ⟨hb4, hc⟩]
    · exfalso
      apply hok
      have : decodeN n b0 b1 b2 b3 = (65533, 1) := by
        exact decBad n b0 b1 b2 b3 ha (fun e => hb e.1) (fun e => hb3 e.1) (fun e => hc e.2)
      rw [this]; exact ⟨rfl, rfl⟩
  · rw [decBad n' b0 c1 c2 c3 ha (fun e => hb e.1) (fun e => hb3 e.1) (fun e => hb4 e.1), decBad n b0 b1 b2 b3 ha (fun e => hb e.1) (fun e => hb3 e.1) (fun e => hb4 e.1)]
theorem getD_app (a b : List UInt8) (i : Nat) (h : i < a.length) : (a ++ b).getD i 0 = a.getD i 0 := by
  simp [List.getD, List.getElem?_append_left h]
theorem decodeL_app (a b : List UInt8) (ha : a ≠ []) (hok : ¬ badL a) : decodeL (a ++ b) = decodeL a := by
  have hl : 0 < a.length := List.length_pos_iff.2 ha
  unfold badL at hok
  rw [Lib.decodeL_N] at hok
  rw [Lib.decodeL_N, Lib.decodeL_N, getD_app a b 0 hl]
  exact decodeN_ext _ _ _ _ _ _ _ _ _ (by simp) (fun h => by rw [getD_app a b 1 h]) (fun h => by rw [getD_app a b 2 h]) (fun h => by rw [getD_app a b 3 h]) hok
theorem joined : ∀ (n : Nat) (a b : List UInt8), a.length ≤ n → validD a = true → units (a ++ b) = units a + units b ∧ validD (a ++ b) = validD b
  | _, [], b, _, _ => by simp [units_nil]
  | 0, c :: r, _, h, _ => by simp at h
  | n + 1, c :: r, b, h, hv => by
    have hne : (c :: r) ≠ [] := by simp
    have hp := decodeL_pos (c :: r)
    have hle := Lib.decodeL_le (c :: r) hne
    rw [validD_step _ hne] at hv
    by_cases hb : badL (c :: r)
    · rw [if_pos hb] at hv; cases hv
    · rw [if_neg hb] at hv
      have hd := decodeL_app (c :: r) b hne hb
      have hne2 : (c :: r) ++ b ≠ [] := by simp
      have hb2 : ¬ badL ((c :: r) ++ b) := by unfold badL; rw [hd]; exact hb
      have hdrop : ((c :: r) ++ b).drop (decodeL (c :: r)).2 = (c :: r).drop (decodeL (c :: r)).2 ++ b := List.drop_append_of_le_length hle
      obtain ⟨i1, i2⟩ := joined n ((c :: r).drop (decodeL (c :: r)).2) b (by rw [List.length_drop]; omega) hv
      rw [units_step _ hne2, units_step _ hne, hd, hdrop, i1, validD_step _ hne2, if_neg hb2, hd, hdrop, i2]
      exact ⟨by omega, rfl⟩
end Go.Proofs.YtjhddigcdeakcaaDoor.PT
