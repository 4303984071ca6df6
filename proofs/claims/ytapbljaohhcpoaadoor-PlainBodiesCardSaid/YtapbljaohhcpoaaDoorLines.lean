/-
  text.Lines, text.Pairs, text.NoBreaks and ref01.ends, Lines, Pairs, NoBreaks: the walks.
-/
import Derived.Test.YtapbljaohhcpoaaDoorBytes
import Derived.Test.YtapbljaohhcpoaaDoorShelf
import Derived.Test.YtapbljaohhcpoaaDoorTables
import Derived.Test.YtapbljaohhcpoaaDoorPlainReplace
namespace Go.Proofs.YtapbljaohhcpoaaDoor
open Go.RowKit PT

theorem replaceAll_any (s : ByteArray) (o n : List UInt8) (hs : s.size ≤ 10000000) (hn : n.length ≤ 10) (ho : 1 ≤ o.length) (hne : o ≠ n) (w : World) (hT : Tables w) :
    Calls Tryd.prog 58 #[.string s, .string ⟨o.toArray⟩, .string ⟨n.toArray⟩] w fun e w' => e = .returned (.string ⟨(rep o n s.data.toList).toArray⟩) ∧ Below w.heap.size w w' := by
  have hc : Lib.countB s ⟨o.toArray⟩ ≤ s.size + 1 := by
    have := Lib.count_le s.data.toList o
    rw [size_list] at this
    exact this
  have hm : Lib.countB s ⟨o.toArray⟩ * (ByteArray.mk n.toArray).size ≤ (s.size + 1) * 10 := Nat.mul_le_mul hc (by rw [size_mk]; exact hn)
  refine (Tryd.strings_ReplaceAll_shaped s ⟨o.toArray⟩ ⟨n.toArray⟩ w hT.shape (by omega) (by rw [size_mk]; exact ho) (by omega)).mono ?_
  rintro e w' ⟨rfl, hb⟩
  refine ⟨?_, hb⟩
  rw [show (ByteArray.mk o.toArray).data.toList = o from rfl, show (ByteArray.mk n.toArray).data.toList = n from rfl, replaceAll_rep _ _ _ hne]

theorem lines_any (s : ByteArray) (hs : s.size ≤ 4000000) (w : World) (hT : Tables w) :
    Calls Tryd.prog 76 #[.string s] w fun e w' => e = .returned (.string ⟨(ends [10] s.data.toList).toArray⟩) ∧ Below w.heap.size w w' := by
  go_enter Tryd.func76, Tryd.ntmps76
  go_wp2_with fail
  refine (replaceAll_any s [13, 10] [10] (by omega) (by decide) (by decide) (by decide) _ hT).mono ?_
  rintro e w1 ⟨rfl, hb1⟩
  have hl : (rep [13, 10] [10] s.data.toList).length ≤ 10000000 := by
    have := rep_len [13, 10] [10] (by simp) _ _ (Nat.le_refl s.data.toList.length)
    rw [size_list] at this
    simp only [List.length_cons, List.length_nil] at this
    omega
  go_wp2_with fail
  refine (replaceAll_any _ [13] [10] (by rw [size_mk]; exact hl) (by decide) (by decide) (by decide) _ (hT.kept hb1)).mono ?_
  rintro e w2 ⟨rfl, hb2⟩
  go_wp2_with fail
  go_ret
  exact ⟨ret_str (by rw [rep_one]; exact lines_eq _), bs hb1 hb2⟩

theorem ends_A (w : List UInt8) (s : ByteArray) (k : Nat) (h : k < s.size) (h0 : s[k] ≠ 10) (h1 : s[k] ≠ 13) : ends w (s.data.toList.drop k) = s[k] :: ends w (s.data.toList.drop (k + 1)) := by
  rw [drop_cons' s k h, ends_cons_plain]
  simp [brk, h0, h1]
theorem ends_B (w : List UInt8) (s : ByteArray) (k : Nat) (h : k < s.size) (h0 : s[k] = 10) : ends w (s.data.toList.drop k) = w ++ ends w (s.data.toList.drop (k + 1)) := by
  rw [drop_cons' s k h, h0, ends_cons_lf]
theorem ends_C (w : List UInt8) (s : ByteArray) (k : Nat) (h : k + 1 < s.size) (h0 : s[k] = 13) (h1 : s[k + 1] = 10) : ends w (s.data.toList.drop k) = w ++ ends w (s.data.toList.drop (k + 2)) := by
  rw [drop_cons' s k (by omega), drop_cons' s (k + 1) h, h0, h1, ends_crlf]
theorem ends_D (w : List UInt8) (s : ByteArray) (k : Nat) (h : k < s.size) (h0 : s[k] = 13) (h1 : ∀ h' : k + 1 < s.size, s[k + 1] ≠ 10) : ends w (s.data.toList.drop k) = w ++ ends w (s.data.toList.drop (k + 1)) := by
  rw [drop_cons' s k h, ends_one, h0]
  · rfl
  · rintro ⟨_, h2⟩
    by_cases h' : k + 1 < s.size
    · rw [drop_cons' s (k + 1) h'] at h2
      exact h1 h' (by simpa using h2)
    · rw [List.drop_eq_nil_of_le (by simp; omega)] at h2
      cases h2

set_option maxHeartbeats 1000000 in
set_option maxRecDepth 100000 in
theorem refEnds_any (s : ByteArray) (v : List UInt8) (hs : s.size ≤ 4000000) (hv : v.length ≤ 10) (w : World) :
    Calls Tryd.prog 54 #[.string s, .string ⟨v.toArray⟩] w fun e w' => e = .returned (.string ⟨(ends v s.data.toList).toArray⟩) ∧ Below w.heap.size w w' := by
  have hvs : (ByteArray.mk v.toArray).size = v.length := size_mk v
  obtain ⟨V, hV, hV2⟩ : ∃ V : ByteArray, V = ⟨v.toArray⟩ ∧ V.data.toList = v := ⟨_, rfl, rfl⟩
  rw [← hV] at hvs ⊢
  have HV := Lib.hid hV2
  have HZ := Lib.hid hvs
  clear hV hV2 hvs
  go_enter Tryd.func54, Tryd.ntmps54
  go_wp2_with fail
  go_loopw [6, 5] (fun i x wr => ∃ k : Nat, ∃ acc : List UInt8, k ≤ s.size ∧ i = .int .i64 k ∧ Hid (acc ++ ends v (s.data.toList.drop k) = ends v s.data.toList) ∧ acc.length ≤ 10 * k ∧ OB w.heap.size acc x wr ∧ Below w.heap.size w wr) (fun i _ _ => s.size - (intOf i).toNat)
  case atStart => exact ⟨0, [], Nat.zero_le _, rfl, rfl, Nat.le_refl _, OB.nil _ _, Below.refl _ _⟩
  case round =>
    obtain ⟨k, acc, hk, rfl, hacc, hal, hown, hbel⟩ := hrel
    have hsz := hbel.size
    have hlen : acc.length + V.size < 70368744177664 := by rw [HZ.out]; omega
    by_cases hlt : k < s.size
    · by_cases h10 : s[k] = 10
      · have hT := Lib.hid (ends_B v s k hlt h10)
        have E1 : ((s[k].toNat : Int) != 10) = false := byteNe_yes h10
        have E2 : ((s[k].toNat : Int) == 13) = false := by rw [h10]; rfl
        clear h10
        go_wp2_with (at_builtin; refine wpList_append_text rfl _ _ rfl rfl rfl hown hlen hsz ?_; intro v' w3 hown3 hb3)
        go_roundw
        case rel => exact ⟨k + 1, acc ++ v, by omega, by go_num, by unfold Hid; rw [List.append_assoc, ← hacc.out, hT.out], by rw [List.length_append]; omega, by rw [HV.out] at hown3; exact hown3, hbel.trans hb3⟩
        case measure => simp [intOf]; omega
      · by_cases h13 : s[k] = 13
        · have E1 : ((s[k].toNat : Int) != 10) = true := byteNe_no h10
          have E2 : ((s[k].toNat : Int) != 13) = false := byteNe_yes h13
          have E3 : ((s[k].toNat : Int) == 13) = true := byteEq_yes h13
          by_cases h1 : k + 1 < s.size
          · by_cases h2 : s[k + 1] = 10
            · have hT := Lib.hid (ends_C v s k h1 h13 h2)
              have E4 : ((s[k + 1].toNat : Int) == 10) = true := byteEq_yes h2
              have h1' : (k : Int) + 1 < (s.size : Int) := by omega
              clear h10 h13 h2
              go_wp2_with (at_builtin; refine wpList_append_text rfl _ _ rfl rfl rfl hown hlen hsz ?_; intro v' w3 hown3 hb3)
              go_roundw
              case rel => exact ⟨k + 2, acc ++ v, by omega, by go_num, by unfold Hid; rw [List.append_assoc, ← hacc.out, hT.out], by rw [List.length_append]; omega, by rw [HV.out] at hown3; exact hown3, hbel.trans hb3⟩
              case measure => simp [intOf]; omega
            · have hT := Lib.hid (ends_D v s k hlt h13 (fun _ => h2))
              have E4 : ((s[k + 1].toNat : Int) == 10) = false := byteEq_no h2
              have h1' : (k : Int) + 1 < (s.size : Int) := by omega
              clear h10 h13 h2
              go_wp2_with (at_builtin; refine wpList_append_text rfl _ _ rfl rfl rfl hown hlen hsz ?_; intro v' w3 hown3 hb3)
              go_roundw
              case rel => exact ⟨k + 1, acc ++ v, by omega, by go_num, by unfold Hid; rw [List.append_assoc, ← hacc.out, hT.out], by rw [List.length_append]; omega, by rw [HV.out] at hown3; exact hown3, hbel.trans hb3⟩
              case measure => simp [intOf]; omega
          · have hT := Lib.hid (ends_D v s k hlt h13 (fun h => absurd h h1))
            have h1' : decide ((k : Int) + 1 < (s.size : Int)) = false := by simp; omega
            clear h10 h13 h1
            go_wp2_with (at_builtin; refine wpList_append_text rfl _ _ rfl rfl rfl hown hlen hsz ?_; intro v' w3 hown3 hb3)
            go_roundw
            case rel => exact ⟨k + 1, acc ++ v, by omega, by go_num, by unfold Hid; rw [List.append_assoc, ← hacc.out, hT.out], by rw [List.length_append]; omega, by rw [HV.out] at hown3; exact hown3, hbel.trans hb3⟩
            case measure => simp [intOf]; omega
        · have hT := Lib.hid (ends_A v s k hlt h10 h13)
          have E1 : ((s[k].toNat : Int) != 10) = true := byteNe_no h10
          have E2 : ((s[k].toNat : Int) != 13) = true := byteNe_no h13
          clear h10 h13
          go_wp2_with (at_builtin; refine wpList_append_byte rfl _ _ rfl rfl rfl s[k] rfl hown (by omega) hsz ?_; intro v' w3 hown3 hb3)
          go_roundw
          case rel => exact ⟨k + 1, acc ++ [s[k]], by omega, by go_num, by unfold Hid; rw [List.append_assoc, ← hacc.out, hT.out]; rfl, by simp; omega, hown3, hbel.trans hb3⟩
          case measure => simp [intOf]; omega
    · obtain rfl : k = s.size := by omega
      have ha : acc = ends v s.data.toList := by
        have := hacc.out
        rw [List.drop_eq_nil_of_le (by simp)] at this
        simpa [ends] using this
      have HA := Lib.hid ha
      clear ha
      have hcb := hown.conv
      go_wp2_with fail
      go_ret
      exact ⟨ret_str HA.out, hbel⟩

theorem sub1_len (o : UInt8) (new l : List UInt8) : (sub1 o new l).length ≤ (new.length + 1) * l.length := by
  have := rep_len [o] new (by simp) _ _ (Nat.le_refl l.length)
  rwa [rep_one] at this

theorem pairs_any (s : ByteArray) (hs : s.size ≤ 4000000) (w : World) (hT : Tables w) :
    Calls Tryd.prog 59 #[.string s] w fun e w' => e = .returned (.string ⟨(ends [13, 10] s.data.toList).toArray⟩) ∧ Below w.heap.size w w' := by
  have hl : (ends [10] s.data.toList).length ≤ 10000000 := by
    have := ends_len [10] s.data.toList
    rw [size_list] at this
    simp only [List.length_cons, List.length_nil] at this
    omega
  go_enter Tryd.func59, Tryd.ntmps59
  go_wp2_with fail
  refine (lines_any s hs _ hT).mono ?_
  rintro e w1 ⟨rfl, hb1⟩
  go_wp2_with fail
  refine (replaceAll_any _ [10] [13, 10] (by rw [size_mk]; exact hl) (by decide) (by decide) (by decide) _ (hT.kept hb1)).mono ?_
  rintro e w2 ⟨rfl, hb2⟩
  go_wp2_with fail
  go_ret
  exact ⟨ret_str (by rw [rep_one]; exact pairs_eq _), bs hb1 hb2⟩

theorem refPairs_any (s : ByteArray) (hs : s.size ≤ 4000000) (w : World) :
    Calls Tryd.prog 28 #[.string s] w fun e w' => e = .returned (.string ⟨(ends [13, 10] s.data.toList).toArray⟩) ∧ Below w.heap.size w w' := by
  go_enter Tryd.func28, Tryd.ntmps28
  go_wp2_with fail
  refine (refEnds_any s [13, 10] hs (by decide) _).mono ?_
  rintro e w1 ⟨rfl, hb1⟩
  go_wp2_with fail
  go_ret
  exact ⟨rfl, hb1⟩
end Go.Proofs.YtapbljaohhcpoaaDoor
