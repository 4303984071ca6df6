/-
  text.Strip and ref01.Blank, ref01.Strip: the walks.
-/
import Derived.Test.YtiflaniobnjlpaaDoorBytes
import Derived.Test.YtiflaniobnjlpaaDoorShelf
import Derived.Test.YtiflaniobnjlpaaDoorPlainStrip
namespace Go.Proofs.YtiflaniobnjlpaaDoor
open Go.RowKit PT

theorem strip_any (s : ByteArray) (w : World) (hs : s.size ≤ 9223372036854775807) :
    Calls Tryd.prog 43 #[.string s] w fun e w' => e = .returned (.string ⟨(strip s.data.toList).toArray⟩) ∧ Below w.heap.size w w' := by
  have hasc : ∀ (j : Nat) b, (ByteArray.mk #[9, 10, 12, 13, 32]).data.toList[j]? = some b → b.toNat < 128 := by
    intro j b h
    have hm := List.mem_of_getElem? h
    have : ∀ c ∈ (ByteArray.mk #[9, 10, 12, 13, 32]).data.toList, c.toNat < 128 := by decide
    exact this b hm
  go_enter Tryd.func43, Tryd.ntmps43
  go_wp2_with fail
  refine (Tryd.strings_Trim_laid s ⟨#[9, 10, 12, 13, 32]⟩ _ hs (by decide) hasc).mono ?_
  clear hasc
  rintro e w1 ⟨rfl, hb1⟩
  go_wp2_with fail
  go_ret
  exact ⟨rfl, hb1⟩

theorem blk_eq (c : UInt8) : blk c = (decide (c.toNat = 9) || decide (c.toNat = 10) || decide (c.toNat = 12) || decide (c.toNat = 13) || decide (c.toNat = 32)) := by
  have h : ∀ n : UInt8, (c == n) = decide (c.toNat = n.toNat) := by
    intro n
    rw [Bool.eq_iff_iff, decide_eq_true_iff, beq_iff_eq]
    exact ⟨fun e => by rw [e], fun e => UInt8.toNat_inj.1 e⟩
  simp only [blk, blanks, List.contains_cons, List.contains_nil, Bool.or_false, h]
  simp [Bool.or_assoc]

theorem refBlank_any (c : UInt8) (w : World) :
    Calls Tryd.prog 60 #[.int .u8 c.toNat] w fun e w' => e = .returned (.bool (blk c)) ∧ w = w' := by
  go_enter Tryd.func60, Tryd.ntmps60
  go_wp2
  all_goals
    go_ret
    exact ⟨ret_bool (by rw [blk_eq, Bool.eq_iff_iff]; simp; omega), rfl⟩

/-- all bytes of s from p to q are blanks -/
def AllBlk (s : ByteArray) (p q : Nat) : Prop := ∀ j (h : j < s.size), p ≤ j → j < q → blk s[j] = true
theorem isStrip_cut (s : ByteArray) (k q : Nat) (hkq : k ≤ q) (hq : q ≤ s.size) (h1 : AllBlk s 0 k) (h2 : AllBlk s q s.size) (h3 : ∀ h : k < s.size, blk s[k] = false) (h4 : k < q → ∀ h : q - 1 < s.size, blk s[q - 1] = false) :
    IsStrip s.data.toList ((s.data.toList.drop k).take (q - k)) := by
  have hat : ∀ j (h : j < s.size), s.data.toList[j]? = some s[j] := fun j h => List.getElem?_eq_getElem (by simpa using h)
  refine ⟨s.data.toList.take k, s.data.toList.drop q, ?_, ?_, ?_, ?_, ?_⟩
  · rw [List.append_assoc, show s.data.toList.drop q = (s.data.toList.drop k).drop (q - k) by rw [List.drop_drop]; congr 1; omega, List.take_append_drop, List.take_append_drop]
  · intro c hc
    obtain ⟨j, hj⟩ := List.mem_iff_getElem?.1 hc
    have hjk : j < k := by
      have := (List.getElem?_eq_some_iff.1 hj).1
      rw [List.length_take] at this
      omega
    rw [List.getElem?_take_of_lt hjk, hat j (by omega)] at hj
    simp only [Option.some.injEq] at hj
    rw [← hj]
    exact h1 j (by omega) (Nat.zero_le _) hjk
  · intro c hc
    obtain ⟨j, hj⟩ := List.mem_iff_getElem?.1 hc
    have hjq : q + j < s.size := by
      have := (List.getElem?_eq_some_iff.1 hj).1
      rw [List.length_drop, size_list] at this
      omega
    rw [List.getElem?_drop, hat _ hjq] at hj
    simp only [Option.some.injEq] at hj
    rw [← hj]
    exact h2 _ hjq (by omega) hjq
  · intro c hc
    have hne : k < q := by
      rcases Nat.lt_or_ge k q with h | h
      · exact h
      · rw [show q - k = 0 by omega] at hc; cases hc
    rw [List.head?_take, if_neg (by omega), List.head?_drop, hat k (by omega)] at hc
    simp only [Option.some.injEq] at hc
    rw [← hc]
    exact h3 (by omega)
  · intro c hc
    have hne : k < q := by
      rcases Nat.lt_or_ge k q with h | h
      · exact h
      · rw [show q - k = 0 by omega] at hc; cases hc
    have hl : ((s.data.toList.drop k).take (q - k)).length = q - k := by
      rw [List.length_take, List.length_drop, size_list]; omega
    rw [List.getLast?_eq_getElem?, hl, List.getElem?_take_of_lt (by omega), List.getElem?_drop, hat _ (by omega)] at hc
    simp only [Option.some.injEq] at hc
    have h5 := h4 hne (by omega)
    rw [← hc]
    have e : k + (q - k - 1) = q - 1 := by omega
    simp only [e]
    exact h5

theorem ret_cut (s : ByteArray) (k q : Nat) (_hkq : k ≤ q) (_hq : q ≤ s.size) (h : IsStrip s.data.toList ((s.data.toList.drop k).take (q - k))) :
    Ending.returned (.string (s.extract k q)) = .returned (.string ⟨(strip s.data.toList).toArray⟩) := by
  rw [strip_of h]
  congr 2
  apply ByteArray.ext
  apply Array.toList_inj.1
  rw [Lib.extract_data]

theorem ret_cut0 (s : ByteArray) (q : Nat) (hq : q ≤ s.size) (h : IsStrip s.data.toList ((s.data.toList.drop q).take (q - q))) :
    Ending.returned (.string ByteArray.empty) = .returned (.string ⟨(strip s.data.toList).toArray⟩) := by
  rw [← ret_cut s q q (Nat.le_refl _) hq h, show s.extract q q = ByteArray.empty by simp]

set_option maxHeartbeats 1000000 in
theorem refStrip_any (s : ByteArray) (w : World) (hs : s.size ≤ 1000000000) :
    Calls Tryd.prog 44 #[.string s] w fun e w' => e = .returned (.string ⟨(strip s.data.toList).toArray⟩) ∧ w = w' := by
  go_enter Tryd.func44, Tryd.ntmps44
  go_wp2_with fail
  go_loop [3] (fun i => ∃ k : Nat, k ≤ s.size ∧ i = .int .i64 k ∧ Hid (AllBlk s 0 k)) (fun i => s.size - (intOf i).toNat)
  case atStart => exact ⟨0, Nat.zero_le _, rfl, fun j _ _ h => by omega⟩
  case round =>
    obtain ⟨k, hk, rfl, hA⟩ := hrel
    by_cases hlt : k < s.size
    · go_wp2_with fail
      refine (refBlank_any s[k] _).mono ?_
      rintro e w' ⟨rfl, rfl⟩
      cases hb : blk s[k]
      · go_wp2_with fail
        have HX := Lib.hid (show ∀ h : k < s.size, blk s[k] = false from fun _ => hb)
        clear hb
        go_loop [4] (fun i => ∃ q : Nat, k ≤ q ∧ q ≤ s.size ∧ i = .int .i64 q ∧ Hid (AllBlk s q s.size)) (fun i => (intOf i).toNat)
        case atStart => exact ⟨s.size, by omega, Nat.le_refl _, rfl, fun j h h0 h1 => by omega⟩
        case round =>
          obtain ⟨q, hq1, hq2, rfl, hB⟩ := hrel
          by_cases hlt2 : k < q
          · have s1 : (0 : Int) ≤ (q : Int) - 1 := by omega
            have s2 : (q : Int) - 1 < (s.size : Int) := by omega
            have s3 : ((q : Int) - 1).toNat = q - 1 := by omega
            have hq3 : q - 1 < s.size := by omega
            go_wp2_with fail
            refine (refBlank_any s[q - 1] _).mono ?_
            rintro e w' ⟨rfl, rfl⟩
            cases hb2 : blk s[q - 1]
            · have HE := Lib.hid hb2
              clear hb2
              have hle : (k : Int) ≤ (q : Int) := by omega
              go_wp2_with fail
              go_ret
              exact ⟨ret_cut s k q hq1 hq2 (isStrip_cut s k q hq1 hq2 hA.out hB.out HX.out (fun _ _ => HE.out)), rfl⟩
            · have HE := Lib.hid hb2
              clear hb2
              go_wp2_with fail
              go_round
              case rel => exact ⟨q - 1, by omega, by omega, by go_num, fun j hj h0 h1 => by
                by_cases e : j = q - 1
                · subst e; exact HE.out
                · exact hB.out j hj (by omega) h1⟩
              case measure => simp [intOf]; omega
          · obtain rfl : q = k := by omega
            go_wp2_with fail
            go_ret
            exact ⟨ret_cut0 s q hq2 (isStrip_cut s q q hq1 hq2 hA.out hB.out HX.out (fun h => absurd h (Nat.lt_irrefl _))), rfl⟩
      · have HB := Lib.hid hb
        clear hb
        go_wp2_with fail
        go_round
        case rel => exact ⟨k + 1, by omega, by go_num, fun j hj h0 h1 => by
          by_cases e : j = k
          · subst e; exact HB.out
          · exact hA.out j hj h0 (by omega)⟩
        case measure => simp [intOf]; omega
    · go_wp2_with fail
      have HX := Lib.hid (show ∀ h : k < s.size, blk s[k] = false from fun h => absurd h hlt)
      go_loop [4] (fun i => ∃ q : Nat, k ≤ q ∧ q ≤ s.size ∧ i = .int .i64 q ∧ Hid (AllBlk s q s.size)) (fun i => (intOf i).toNat)
      case atStart => exact ⟨s.size, by omega, Nat.le_refl _, rfl, fun j h h0 h1 => by omega⟩
      case round =>
        obtain ⟨q, hq1, hq2, rfl, hB⟩ := hrel
        by_cases hlt2 : k < q
        · exact absurd (Nat.lt_of_lt_of_le hlt2 hq2) hlt
        · obtain rfl : q = k := by omega
          go_wp2_with fail
          go_ret
          exact ⟨ret_cut0 s q hq2 (isStrip_cut s q q hq1 hq2 hA.out hB.out HX.out (fun h => absurd h (Nat.lt_irrefl _))), rfl⟩
end Go.Proofs.YtiflaniobnjlpaaDoor
