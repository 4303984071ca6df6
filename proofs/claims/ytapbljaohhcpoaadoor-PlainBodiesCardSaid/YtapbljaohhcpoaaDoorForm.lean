/-
  escape.Form, escape.Unform and ref02.Form, ref02.turned, ref02.Unform: the walks.
-/
import Derived.Test.YtapbljaohhcpoaaDoorRefEncode
import Derived.Test.YtapbljaohhcpoaaDoorRefDecode
import Derived.Test.YtapbljaohhcpoaaDoorDecode
import Derived.Test.YtapbljaohhcpoaaDoorLines
import Derived.Test.YtapbljaohhcpoaaDoorPlainForm
namespace Go.Proofs.YtapbljaohhcpoaaDoor
set_option linter.unusedVariables false
set_option linter.unusedSimpArgs false
open Go.RowKit PT

theorem form_any (s : ByteArray) (hs : s.size ≤ 200000) (w : World) (hT : Tables w) :
    Calls Tryd.prog 62 #[.string s] w fun e w' => e = .returned (.string ⟨(form s.data.toList).toArray⟩) ∧ Below w.heap.size w w' := by
  have hl := encL_len 7 s.data.toList
  rw [size_list] at hl
  go_enter Tryd.func62, Tryd.ntmps62
  go_wp2_with fail
  refine (encode_any s 7 _ hs (by omega)).mono ?_
  rintro e w1 ⟨rfl, hb1⟩
  go_wp2_with fail
  refine (replaceAll_any _ [37, 50, 48] [43] (by rw [size_mk]; omega) (by decide) (by decide) (by decide) _ (hT.kept hb1)).mono ?_
  rintro e w2 ⟨rfl, hb2⟩
  go_wp2_with fail
  go_ret
  exact ⟨ret_str (form_rep _), bs hb1 hb2⟩

theorem form_snoc_32 (s : ByteArray) (k : Nat) (h : k < s.size) (h32 : s[k] = 32) : form (s.data.toList.take (k + 1)) = form (s.data.toList.take k) ++ [43] := by
  rw [take_snoc s k h, form_append, h32]; rfl
theorem form_snoc (s : ByteArray) (k : Nat) (h : k < s.size) (h32 : s[k] ≠ 32) : form (s.data.toList.take (k + 1)) = form (s.data.toList.take k) ++ encL 7 [s[k]] := by
  rw [take_snoc s k h, form_append]
  simp [form, h32]
theorem one_cut (s : ByteArray) (k : Nat) (h : k < s.size) : s.extract k (k + 1) = ⟨[s[k]].toArray⟩ := by
  apply ByteArray.ext
  apply Array.toList_inj.1
  rw [Lib.extract_data, show k + 1 - k = 1 by omega, drop_cons' s k h]
  rfl

set_option maxHeartbeats 1000000 in
set_option maxRecDepth 100000 in
theorem refForm_any (s : ByteArray) (hs : s.size ≤ 200000) (w : World) :
    Calls Tryd.prog 65 #[.string s] w fun e w' => e = .returned (.string ⟨(form s.data.toList).toArray⟩) ∧ Below w.heap.size w w' := by
  go_enter Tryd.func65, Tryd.ntmps65
  go_wp2_with fail
  go_loopw [4, 3] (fun i v wr => ∃ k : Nat, k ≤ s.size ∧ i = .int .i64 k ∧ OB w.heap.size (form (s.data.toList.take k)) v wr ∧ Below w.heap.size w wr) (fun i _ _ => s.size - (intOf i).toNat)
  case atStart => exact ⟨0, Nat.zero_le _, rfl, OB.nil _ _, Below.refl _ _⟩
  case round =>
    obtain ⟨k, hk, rfl, hown, hbel⟩ := hrel
    have hsz := hbel.size
    have hl := form_len (s.data.toList.take k)
    have hl2 : (s.data.toList.take k).length ≤ s.size := by simp; omega
    by_cases hlt : k < s.size
    · have hle1 : (k : Int) ≤ (k : Int) + 1 := by omega
      have hle2 : (k : Int) + 1 ≤ (s.size : Int) := by omega
      have hE := Lib.hid (one_cut s k hlt)
      go_wp2_with fail
      rw [hE.out]
      refine (refEncode_any _ 7 _ (by rw [size_mk]; simp) (by omega)).mono ?_
      rintro e w2 ⟨rfl, hb2⟩
      have hown2 := hown.kept hb2
      have hz2 := hb2.size
      have hbel2 : Below w.heap.size w w2 := hbel.trans (hb2.mono hsz)
      have hel := encL_len 7 [s[k]]
      simp only [List.length_cons, List.length_nil] at hel
      by_cases h32 : s[k] = 32
      · have hT := Lib.hid (form_snoc_32 s k hlt h32)
        have E : ((s[k].toNat : Int) == 32) = true := byteEq_yes h32
        clear h32 hel
        go_wp2_with (at_builtin; refine wpList_append_text rfl _ _ rfl rfl rfl hown2 (t := ⟨#[43]⟩) (by rw [show (ByteArray.mk #[43]).size = 1 from rfl]; omega) (by omega) ?_; intro v3 w3 hown3 hb3)
        go_roundw
        case rel => exact ⟨k + 1, by omega, by go_num, by rw [hT.out]; exact hown3, hbel2.trans hb3⟩
        case measure => simp [intOf]; omega
      · have hT := Lib.hid (form_snoc s k hlt h32)
        have E : ((s[k].toNat : Int) == 32) = false := byteEq_no h32
        have hL : (form (s.data.toList.take k)).length + (ByteArray.mk (encL 7 [s[k]]).toArray).size < 70368744177664 := by rw [size_mk]; omega
        clear h32 hel
        go_wp2_with (at_builtin; refine wpList_append_text rfl _ _ rfl rfl rfl hown2 hL (by omega) ?_; intro v3 w3 hown3 hb3)
        go_roundw
        case rel => exact ⟨k + 1, by omega, by go_num, by rw [hT.out]; exact hown3, hbel2.trans hb3⟩
        case measure => simp [intOf]; omega
    · obtain rfl : k = s.size := by omega
      have hcb := hown.conv
      rw [List.take_of_length_le (show s.data.toList.length ≤ s.size by simp)] at hcb
      go_wp2_with fail
      go_ret
      exact ⟨rfl, hbel⟩

end Go.Proofs.YtapbljaohhcpoaaDoor
