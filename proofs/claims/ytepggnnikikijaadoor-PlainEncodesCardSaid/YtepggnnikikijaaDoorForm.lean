/-
  escape.Form, escape.Unform and ref02.Form, ref02.turned, ref02.Unform: the walks.
-/
import Derived.Test.YtepggnnikikijaaDoorRefEncode
import Derived.Test.YtepggnnikikijaaDoorRefDecode
import Derived.Test.YtepggnnikikijaaDoorDecode
import Derived.Test.YtepggnnikikijaaDoorLines
import Derived.Test.YtepggnnikikijaaDoorPlainForm
namespace Go.Proofs.YtepggnnikikijaaDoor
open Go.RowKit PT

theorem form_any (s : ByteArray) (hs : s.size ≤ 200000) (w : World) (hT : Tables w) :
    Calls Tryd.prog 32 #[.string s] w fun e w' => e = .returned (.string ⟨(form s.data.toList).toArray⟩) ∧ Below w.heap.size w w' := by
  have hl := encL_len 7 s.data.toList
  rw [size_list] at hl
  go_enter Tryd.func32, Tryd.ntmps32
  go_wp2_with fail
  refine (encode_any s 7 _ hs (by omega)).mono ?_
  rintro e w1 ⟨rfl, hb1⟩
  go_wp2_with fail
  refine (replaceAll_any _ [37, 50, 48] [43] (by rw [size_mk]; omega) (by decide) (by decide) (by decide) _ (hT.kept hb1)).mono ?_
  rintro e w2 ⟨rfl, hb2⟩
  go_wp2_with fail
  go_ret
  exact ⟨ret_str (form_rep _), bs hb1 hb2⟩

theorem unform_any (s : ByteArray) (hs : s.size ≤ 900000) (w : World) (hT : Tables w) :
    Calls Tryd.prog 36 #[.string s] w fun e w' => e = .returned (.string ⟨(unform s.data.toList).toArray⟩) ∧ Below w.heap.size w w' := by
  go_enter Tryd.func36, Tryd.ntmps36
  go_wp2_with fail
  refine (replaceAll_any s [43] [32] (by omega) (by decide) (by decide) (by decide) _ hT).mono ?_
  rintro e w1 ⟨rfl, hb1⟩
  rw [rep_one, sub1_turn]
  go_wp2_with fail
  refine (decode_any _ _ (by rw [size_mk, turn_len, size_list]; omega)).mono ?_
  rintro e w2 ⟨rfl, hb2⟩
  go_wp2_with fail
  go_ret
  exact ⟨rfl, bs hb1 hb2⟩

theorem form_snoc_32 (s : ByteArray) (k : Nat) (h : k < s.size) (h32 : s[k] = 32) : form (s.data.toList.take (k + 1)) = form (s.data.toList.take k) ++ [43] := by
  rw [take_snoc s k h, form_append, h32]; rfl
theorem form_snoc (s : ByteArray) (k : Nat) (h : k < s.size) (h32 : s[k] ≠ 32) : form (s.data.toList.take (k + 1)) = form (s.data.toList.take k) ++ encL 7 [s[k]] := by
  rw [take_snoc s k h, form_append]
  simp [form, h32]
theorem one_cut (s : ByteArray) (k : Nat) (h : k < s.size) : s.extract k (k + 1) = ⟨[s[k]].toArray⟩ := by
  apply ByteArray.ext
  apply Array.toList_inj.1
  rw [Lib.extract_data, show k + 1 - k = 1 by omega, drop_cons' s k h]
  rfl

set_option maxHeartbeats 1000000 in
set_option maxRecDepth 100000 in
theorem refForm_any (s : ByteArray) (hs : s.size ≤ 200000) (w : World) :
    Calls Tryd.prog 34 #[.string s] w fun e w' => e = .returned (.string ⟨(form s.data.toList).toArray⟩) ∧ Below w.heap.size w w' := by
  go_enter Tryd.func34, Tryd.ntmps34
  go_wp2_with fail
  go_loopw [4, 3] (fun i v wr => ∃ k : Nat, k ≤ s.size ∧ i = .int .i64 k ∧ OB w.heap.size (form (s.data.toList.take k)) v wr ∧ Below w.heap.size w wr) (fun i _ _ => s.size - (intOf i).toNat)
  case atStart => exact ⟨0, Nat.zero_le _, rfl, OB.nil _ _, Below.refl _ _⟩
  case round =>
    obtain ⟨k, hk, rfl, hown, hbel⟩ := hrel
    have hsz := hbel.size
    have hl := form_len (s.data.toList.take k)
    have hl2 : (s.data.toList.take k).length ≤ s.size := by simp; omega
    by_cases hlt : k < s.size
    · have hle1 : (k : Int) ≤ (k : Int) + 1 := by omega
      have hle2 : (k : Int) + 1 ≤ (s.size : Int) := by omega
      have hE := Lib.hid (one_cut s k hlt)
      go_wp2_with fail
      rw [hE.out]
      refine (refEncode_any _ 7 _ (by rw [size_mk]; simp) (by omega)).mono ?_
      rintro e w2 ⟨rfl, hb2⟩
      have hown2 := hown.kept hb2
      have hz2 := hb2.size
      have hbel2 : Below w.heap.size w w2 := hbel.trans (hb2.mono hsz)
      have hel := encL_len 7 [s[k]]
      simp only [List.length_cons, List.length_nil] at hel
      by_cases h32 : s[k] = 32
      · have hT := Lib.hid (form_snoc_32 s k hlt h32)
        have E : ((s[k].toNat : Int) == 32) = true := byteEq_yes h32
        clear h32 hel
        go_wp2_with (at_builtin; refine wpList_append_text rfl _ _ rfl rfl rfl hown2 (t := ⟨#[43]⟩) (by rw [show (ByteArray.mk #[43]).size = 1 from rfl]; omega) (by omega) ?_; intro v3 w3 hown3 hb3)
        go_roundw
        case rel => exact ⟨k + 1, by omega, by go_num, by rw [hT.out]; exact hown3, hbel2.trans hb3⟩
        case measure => simp [intOf]; omega
      · have hT := Lib.hid (form_snoc s k hlt h32)
        have E : ((s[k].toNat : Int) == 32) = false := byteEq_no h32
        have hL : (form (s.data.toList.take k)).length + (ByteArray.mk (encL 7 [s[k]]).toArray).size < 70368744177664 := by rw [size_mk]; omega
        clear h32 hel
        go_wp2_with (at_builtin; refine wpList_append_text rfl _ _ rfl rfl rfl hown2 hL (by omega) ?_; intro v3 w3 hown3 hb3)
        go_roundw
        case rel => exact ⟨k + 1, by omega, by go_num, by rw [hT.out]; exact hown3, hbel2.trans hb3⟩
        case measure => simp [intOf]; omega
    · obtain rfl : k = s.size := by omega
      have hcb := hown.conv
      rw [List.take_of_length_le (show s.data.toList.length ≤ s.size by simp)] at hcb
      go_wp2_with fail
      go_ret
      exact ⟨rfl, hbel⟩

theorem turn_snoc (o n : UInt8) (s : ByteArray) (k : Nat) (h : k < s.size) : turn o n (s.data.toList.take (k + 1)) = turn o n (s.data.toList.take k) ++ [if s[k] = o then n else s[k]] := by
  rw [take_snoc s k h, turn_append]; rfl
set_option maxHeartbeats 1000000 in
set_option maxRecDepth 100000 in
theorem refTurned_any (s : ByteArray) (o n : UInt8) (hs : s.size ≤ 1000000) (w : World) :
    Calls Tryd.prog 50 #[.string s, .int .u8 o.toNat, .int .u8 n.toNat] w fun e w' => e = .returned (.string ⟨(turn o n s.data.toList).toArray⟩) ∧ Below w.heap.size w w' := by
  go_enter Tryd.func50, Tryd.ntmps50
  go_wp2_with fail
  go_loopw [8, 7] (fun i v wr => ∃ k : Nat, k ≤ s.size ∧ i = .int .i64 k ∧ OB w.heap.size (turn o n (s.data.toList.take k)) v wr ∧ Below w.heap.size w wr) (fun i _ _ => s.size - (intOf i).toNat)
  case atStart => exact ⟨0, Nat.zero_le _, rfl, OB.nil _ _, Below.refl _ _⟩
  case round =>
    obtain ⟨k, hk, rfl, hown, hbel⟩ := hrel
    have hsz := hbel.size
    have hl := turn_len o n (s.data.toList.take k)
    have hl2 : (s.data.toList.take k).length ≤ s.size := by simp; omega
    have hl3 : (turn o n (s.data.toList.take k)).length ≤ s.size := by omega
    clear hl
    by_cases hlt : k < s.size
    · have hT := Lib.hid (turn_snoc o n s k hlt)
      by_cases h : s[k] = o
      · have E := byteEq_yes h
        have H := Lib.hid h
        clear h
        go_wp2_with (at_builtin; refine wpList_append_byte rfl _ _ rfl rfl rfl n rfl hown (by omega) hsz ?_; intro v3 w3 hown3 hb3)
        go_roundw
        case rel => exact ⟨k + 1, by omega, by go_num, by rw [hT.out, if_pos H.out]; exact hown3, hbel.trans hb3⟩
        case measure => simp [intOf]; omega
      · have E := byteEq_no h
        have H := Lib.hid h
        clear h
        go_wp2_with (at_builtin; refine wpList_append_byte rfl _ _ rfl rfl rfl s[k] rfl hown (by omega) hsz ?_; intro v3 w3 hown3 hb3)
        go_roundw
        case rel => exact ⟨k + 1, by omega, by go_num, by rw [hT.out, if_neg H.out]; exact hown3, hbel.trans hb3⟩
        case measure => simp [intOf]; omega
    · obtain rfl : k = s.size := by omega
      have hcb := hown.conv
      rw [List.take_of_length_le (show s.data.toList.length ≤ s.size by simp)] at hcb
      go_wp2_with fail
      go_ret
      exact ⟨rfl, hbel⟩

theorem refUnform_any (s : ByteArray) (hs : s.size ≤ 900000) (w : World) :
    Calls Tryd.prog 38 #[.string s] w fun e w' => e = .returned (.string ⟨(unform s.data.toList).toArray⟩) ∧ Below w.heap.size w w' := by
  go_enter Tryd.func38, Tryd.ntmps38
  go_wp2_with fail
  refine (refTurned_any s 43 32 (by omega) _).mono ?_
  rintro e w1 ⟨rfl, hb1⟩
  go_wp2_with fail
  refine (refDecode_any _ _ (by rw [size_mk, turn_len, size_list]; omega)).mono ?_
  rintro e w2 ⟨rfl, hb2⟩
  go_wp2_with fail
  go_ret
  exact ⟨rfl, bs hb1 hb2⟩
end Go.Proofs.YtepggnnikikijaaDoor
