/-
  text.Lower, ref01.Lower, text.Same, law01.long: the walks.
-/
import Derived.Test.YtenicjebccdekaaBytes
import Derived.Test.YtenicjebccdekaaPlainText
namespace Go.Proofs.Ytenicjebccdekaa
set_option linter.unusedVariables false
set_option linter.unusedSimpArgs false
open Go.RowKit PT

/-- the cell of the row behind so many rounds -/
def lowAt (s : ByteArray) (k j : Nat) : Int := if j < k then ((lowB (s.data.toList.getD j 0)).toNat : Int) else ((s.data.toList.getD j 0).toNat : Int)
theorem lowAt_ge (s : ByteArray) (k j : Nat) (h : k ≤ j) : lowAt s k j = ((s.data.toList.getD j 0).toNat : Int) := by unfold lowAt; rw [if_neg (by omega)]
theorem lowAt_lt (s : ByteArray) (k j : Nat) (h : j < k) : lowAt s k j = ((lowB (s.data.toList.getD j 0)).toNat : Int) := by unfold lowAt; rw [if_pos h]
theorem lowAt_ne (s : ByteArray) (k j : Nat) (h : j ≠ k) : lowAt s (k + 1) j = lowAt s k j := by
  unfold lowAt
  by_cases h1 : j < k
  · rw [if_pos h1, if_pos (by omega)]
  · rw [if_neg h1, if_neg (by omega)]

/-- what the row holds behind k rounds -/
def LowRow (s : ByteArray) (b k : Nat) (wr : World) : Prop := ∀ j, j < s.size → wr.cell? ⟨b, j, none⟩ = some (.int .u8 (lowAt s k j)) ∧ wr.frozen? ⟨b, j, none⟩ = false

theorem LowRow.put {s : ByteArray} {b k : Nat} {wr : World} (h : LowRow s b k wr) (hk : k < s.size) (n : Int) (hn : n = ((lowB (s.data.toList.getD k 0)).toNat : Int)) :
    LowRow s b (k + 1) (wr.setCell ⟨b, k, none⟩ (.int .u8 n)) := by
  intro j hj
  by_cases e : j = k
  · subst e
    rw [lowAt_lt s (j + 1) j (by omega), ← hn]
    obtain ⟨hc, hf⟩ := h j hj
    exact ⟨World.cell?_setCell_same _ _ _ hc, by rw [World.frozen?_setCell]; exact hf⟩
  · obtain ⟨hc, hf⟩ := h j hj
    rw [lowAt_ne s k j e]
    exact ⟨by rw [World.cell?_setCell_other]; exact hc; (intro h; simp only [Addr.mk.injEq] at h; exact e h.2.1.symm), by rw [World.frozen?_setCell]; exact hf⟩
theorem LowRow.keep {s : ByteArray} {b k : Nat} {wr : World} (h : LowRow s b k wr) (hn : lowB (s.data.toList.getD k 0) = s.data.toList.getD k 0) : LowRow s b (k + 1) wr := by
  intro j hj
  obtain ⟨hc, hf⟩ := h j hj
  refine ⟨?_, hf⟩
  by_cases e : j = k
  · subst e
    rw [lowAt_lt s (j + 1) j (by omega), hn, hc, lowAt_ge _ _ _ (Nat.le_refl _)]
  · rw [lowAt_ne s k j e]; exact hc

set_option maxHeartbeats 800000 in
set_option maxRecDepth 100000 in
theorem lower_any (s : ByteArray) (w : World) (hs : s.size ≤ 140737488351232) :
    Calls Try.prog 91 #[.string s] w fun e w' => e = .returned (.string ⟨(low s.data.toList).toArray⟩) ∧ Below w.heap.size w w' := by
  have hcv := Lib.run_convert_string_bytes (P := Try.prog) w 9 86 5 s Try.underlying9 Try.underlying86 Try.underlying5
  go_enter Try.func91, Try.ntmps91
  go_wp2
  go_loopw [10] (fun i wr => ∃ k : Nat, k ≤ s.size ∧ i = .int .i64 k ∧ LowRow s w.heap.size k wr ∧ Below w.heap.size w wr) (fun i _ => s.size - (intOf i).toNat)
  case atStart =>
    refine ⟨0, Nat.zero_le _, rfl, fun j hj => ⟨?_, frozen_bytesWorld w _ s j hj⟩, bytesWorld_below w _ s⟩
    rw [Lib.bytesWorld_cell w _ s j hj, lowAt_ge _ _ _ (Nat.zero_le _)]
  case round =>
    obtain ⟨k, hk, rfl, hrow, hbel⟩ := hrel
    by_cases hlt : k < s.size
    · obtain ⟨hc, hf⟩ := hrow k hlt
      have hg : s.data.toList.getD k 0 = s.data[k] := by simp [List.getD, hlt]
      rw [lowAt_ge _ _ _ (Nat.le_refl _), hg] at hc
      have HG := Lib.hid hg
      clear hg
      by_cases hl : 65 ≤ s.data[k].toNat ∧ s.data[k].toNat ≤ 90
      · have h1 : (65 : Int) ≤ (s.data[k].toNat : Int) := by omega
        have h2 : (s.data[k].toNat : Int) ≤ (90 : Int) := by omega
        have hy := Lib.hid (lowB_yes s.data[k] hl.1 hl.2)
        have hR := hrow.put hlt ((s.data[k].toNat : Int) + 97 - 65) (by rw [HG.out, hy.out]; omega)
        clear hl
        go_wp2
        go_roundw
        case rel => exact ⟨k + 1, by omega, by go_num, hR, hbel.setCell (Nat.le_refl _) _⟩
        case measure => simp [intOf]; omega
      · have hR := hrow.keep (by rw [HG.out]; exact lowB_no _ hl)
        go_wp2
        all_goals
          go_roundw
          case rel => exact ⟨k + 1, by omega, by go_num, hR, hbel⟩
          case measure => simp [intOf]; omega
    · have hL : (low s.data.toList).length = s.size := by simp [low]
      have hcb := run_convert_bytes_back (P := Try.prog) wr 86 9 5 ⟨w.heap.size, 0, none⟩ (grownCap w s.size 0 5) (low s.data.toList) Try.underlying86 Try.underlying5 Try.underlying9 (fun j hj => by
        have hj' : j < s.size := by omega
        have := (hrow j hj').1
        rw [lowAt_lt s k j (by omega)] at this
        rw [addr_add, Nat.zero_add, this]
        simp [low, List.getD, hj'])
      rw [hL] at hcb
      clear hL
      go_wp2
      go_ret
      exact ⟨rfl, hbel⟩

theorem low_take (s : ByteArray) (k : Nat) (h : k < s.size) : low (s.data.toList.take (k + 1)) = low (s.data.toList.take k) ++ [lowB s[k]] := by
  rw [List.take_succ_eq_append_getElem (by simpa using h)]
  simp [low]; rfl

set_option maxHeartbeats 800000 in
set_option maxRecDepth 100000 in
theorem refLower_any (s : ByteArray) (w : World) (hs : s.size ≤ 65536) :
    Calls Try.prog 74 #[.string s] w fun e w' => e = .returned (.string ⟨(low s.data.toList).toArray⟩) ∧ Below w.heap.size w w' := by
  go_enter Try.func74, Try.ntmps74
  go_wp2
  go_loopw [4, 3] (fun i v wr => ∃ k : Nat, k ≤ s.size ∧ i = .int .i64 k ∧ OB w.heap.size (low (s.data.toList.take k)) v wr ∧ Below w.heap.size w wr) (fun i _ _ => s.size - (intOf i).toNat)
  case atStart => exact ⟨0, Nat.zero_le _, rfl, OB.nil _ _, Below.refl _ _⟩
  case round =>
    obtain ⟨k, hk, rfl, hown, hbel⟩ := hrel
    by_cases hlt : k < s.size
    · have hT := Lib.hid (low_take s k hlt)
      have hlen : (low (s.data.toList.take k)).length ≤ 65536 := by simp [low]; omega
      have hz := hbel.size
      by_cases hl : 65 ≤ s[k].toNat ∧ s[k].toNat ≤ 90
      · have h1 : (65 : Int) ≤ (s[k].toNat : Int) := by omega
        have h2 : (s[k].toNat : Int) ≤ (90 : Int) := by omega
        have hy := Lib.hid (lowB_yes s[k] hl.1 hl.2)
        clear hl
        go_wp2_with (at_builtin; refine wpList_append_byte rfl _ _ rfl rfl rfl (lowB s[k]) hy.out.symm hown (by omega) hz ?_; intro v' w1 hown' hb')
        go_roundw
        case rel => exact ⟨k + 1, by omega, by go_num, by rw [hT.out]; exact hown', hbel.trans hb'⟩
        case measure => simp [intOf]; omega
      · have hy := Lib.hid (lowB_no s[k] hl)
        go_wp2_with (at_builtin; refine wpList_append_byte rfl _ _ rfl rfl rfl s[k] rfl hown (by omega) hz ?_; intro v' w1 hown' hb')
        all_goals
          go_roundw
          case rel => exact ⟨k + 1, by omega, by go_num, by rw [hT.out, hy.out]; exact hown', hbel.trans hb'⟩
          case measure => simp [intOf]; omega
    · have hcb := hown.conv
      go_wp2
      go_ret
      exact ⟨by rw [List.take_of_length_le (by simp; omega)]; rfl, hbel⟩
end Go.Proofs.Ytenicjebccdekaa
