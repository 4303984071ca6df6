/-
  ref02.Digits, ref02.Encode: the walks.
-/
import Derived.Test.YtapbljaohhcpoaaDoorEncode
import Derived.Test.YtapbljaohhcpoaaDoorRefEscapes
import Derived.Test.YtapbljaohhcpoaaDoorRefDigits
namespace Go.Proofs.YtapbljaohhcpoaaDoor
set_option linter.unusedVariables false
set_option linter.unusedSimpArgs false
open Go.RowKit PT

theorem refEncode_out (s : ByteArray) (z : Int) (w : World) (h : z < 0 ∨ 7 < z) :
    Calls Tryd.prog 79 #[.string s, .int .i64 z] w fun e w' => e = .returned (.tuple #[.string ⟨#[]⟩, .int .i64 3]) ∧ w = w' := by
  rcases h with h | h
  · go_enter Tryd.func79, Tryd.ntmps79
    go_wp2_with fail
    go_ret2
    exact ⟨rfl, rfl⟩
  · have h0 : (0 : Int) ≤ z := by omega
    go_enter Tryd.func79, Tryd.ntmps79
    go_wp2_with fail
    go_ret2
    exact ⟨rfl, rfl⟩

set_option maxHeartbeats 1000000 in
set_option maxRecDepth 100000 in
theorem refEncode_any (s : ByteArray) (z : Int) (w : World) (hs : s.size ≤ 200000) (h : ¬ (z < 0 ∨ 7 < z)) :
    Calls Tryd.prog 79 #[.string s, .int .i64 z] w fun e w' => e = .returned (.tuple #[.string ⟨(encL z s.data.toList).toArray⟩, .int .i64 0]) ∧ Below w.heap.size w w' := by
  have h0 : (0 : Int) ≤ z := by omega
  have h7 : z ≤ (7 : Int) := by omega
  clear h
  go_enter Tryd.func79, Tryd.ntmps79
  go_wp2_with fail
  go_loopw [7, 6] (fun i v wr => ∃ k : Nat, k ≤ s.size ∧ i = .int .i64 k ∧ OB w.heap.size (encL z (s.data.toList.take k)) v wr ∧ Below w.heap.size w wr) (fun i _ _ => s.size - (intOf i).toNat)
  case atStart => exact ⟨0, Nat.zero_le _, rfl, OB.nil _ _, Below.refl _ _⟩
  case round =>
    obtain ⟨k, hk, rfl, hown, hbel⟩ := hrel
    have hl := encL_len z (s.data.toList.take k)
    have hl2 : (s.data.toList.take k).length ≤ s.size := by simp; omega
    have hsz := hbel.size
    by_cases hlt : k < s.size
    · go_wp2_with fail
      refine (refEscapes_any z s[k] _).mono ?_
      rintro e w' ⟨rfl, rfl⟩
      cases he : escB z s[k]
      · have hT := Lib.hid (encL_snoc_no z s k hlt he)
        go_wp2_with (at_builtin; refine wpList_append_byte rfl _ _ rfl rfl rfl s[k] rfl hown (by omega) hsz ?_; intro v' w1 hown' hb')
        go_roundw
        case rel => exact ⟨k + 1, by omega, by go_num, by rw [hT.out]; exact hown', hbel.trans hb'⟩
        case measure => simp [intOf]; omega
      · have hT := Lib.hid (encL_snoc_yes z s k hlt he)
        go_wp2_with (at_builtin; refine wpList_append_byte rfl _ _ rfl rfl rfl 37 rfl hown (by omega) hsz ?_; intro v' w1 hown' hb')
        refine (refDigits_any s[k] _).mono ?_
        rintro e w2 ⟨rfl, hb2⟩
        have hown2 := hown'.kept hb2
        have hsz1 := hb'.size
        have hsz2 := hb2.size
        have hl3 : (encL z (s.data.toList.take k) ++ [37]).length + (ByteArray.mk [hexU (s[k].toNat / 16), hexU (s[k].toNat % 16)].toArray).size < 70368744177664 := by
          rw [size_mk, List.length_append]
          simp only [List.length_cons, List.length_nil]
          omega
        go_wp2_with (at_builtin; refine wpList_append_text rfl _ _ rfl rfl rfl hown2 hl3 (by omega) ?_; intro v2 w3 hown3 hb3)
        go_roundw
        case rel => exact ⟨k + 1, by omega, by go_num, by rw [hT.out]; rw [List.append_assoc] at hown3; exact hown3, ((hbel.trans hb').trans (hb2.mono (by omega))).trans hb3⟩
        case measure => simp [intOf]; omega
    · obtain rfl : k = s.size := by omega
      have hcb := hown.conv
      rw [List.take_of_length_le (show s.data.toList.length ≤ s.size by simp)] at hcb
      go_wp2_with fail
      go_ret2
      exact ⟨rfl, hbel⟩
end Go.Proofs.YtapbljaohhcpoaaDoor
