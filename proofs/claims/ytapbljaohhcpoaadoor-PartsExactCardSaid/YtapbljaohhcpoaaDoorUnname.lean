/-
  A name read: parts.unname, ref20.Unname: the plain law and the walks.
-/
import Derived.Test.YtapbljaohhcpoaaDoorParts2
import Derived.Test.YtapbljaohhcpoaaDoorPlainUnn
namespace Go.Proofs.YtapbljaohhcpoaaDoor
open Go.RowKit PT

set_option maxHeartbeats 1000000 in
set_option maxRecDepth 100000 in
theorem unname_any (s : ByteArray) (hs : s.size ≤ 9000000) (w : World) (hT : Tables w) :
    Calls Tryd.prog 38 #[.string s] w fun e w' => e = .returned (.string ⟨(unn s.data.toList).toArray⟩) ∧ Below w.heap.size w w' := by
  have h1 := rep_short [37, 48, 68] 13 (by simp) _ s.data.toList (Nat.le_refl _)
  have h2 := rep_short [37, 48, 65] 10 (by simp) _ (rep [37, 48, 68] [13] s.data.toList) (Nat.le_refl _)
  rw [size_list] at h1
  have HU := Lib.hid (unn_rep _ s.data.toList (Nat.le_refl _))
  go_enter Tryd.func38, Tryd.ntmps38
  go_wp2_with fail
  refine (replaceAll_any s [37, 48, 68] [13] (by omega) (by decide) (by decide) (by decide) _ hT).mono ?_
  rintro e w1 ⟨rfl, hb1⟩
  go_wp2_with fail
  refine (replaceAll_any _ [37, 48, 65] [10] (by rw [size_mk]; omega) (by decide) (by decide) (by decide) _ (hT.kept hb1)).mono ?_
  rintro e w2 ⟨rfl, hb2⟩
  go_wp2_with fail
  refine (replaceAll_any _ [37, 50, 50] [34] (by rw [size_mk]; exact Nat.le_trans h2 (by omega)) (by decide) (by decide) (by decide) _ ((hT.kept hb1).kept hb2)).mono ?_
  rintro e w3 ⟨rfl, hb3⟩
  go_wp2_with fail
  go_ret
  exact ⟨ret_str HU.out, bs (bs hb1 hb2) hb3⟩
theorem pre_at (s t : ByteArray) (k : Nat) (h : k + t.size ≤ s.size) : t.data.toList.isPrefixOf (s.data.toList.drop k) = decide (s.extract k (k + t.size) = t) := by
  have := occ_at s t k 0 (by omega)
  rw [Nat.add_zero] at this
  rw [← this]
  unfold Lib.occAt
  rw [List.drop_zero]
theorem pre3_far (a b c : UInt8) (l : List UInt8) (h : l.length ≤ 2) : [a, b, c].isPrefixOf l = false := by
  rw [Bool.eq_false_iff]
  intro hp
  have := (List.isPrefixOf_iff_prefix.1 hp).length_le
  simp at this
  omega
theorem unn_A (s : ByteArray) (k : Nat) (h : k < s.size) (hp : [37, 48, 65].isPrefixOf (s.data.toList.drop k) = true) : unn (s.data.toList.drop k) = 10 :: unn (s.data.toList.drop (k + 3)) := by
  rw [drop_cons' s k h] at hp ⊢
  rw [unn, if_pos hp, List.drop_drop]
theorem unn_D (s : ByteArray) (k : Nat) (h : k < s.size) (hp : [37, 48, 65].isPrefixOf (s.data.toList.drop k) = false) (hd : [37, 48, 68].isPrefixOf (s.data.toList.drop k) = true) : unn (s.data.toList.drop k) = 13 :: unn (s.data.toList.drop (k + 3)) := by
  rw [drop_cons' s k h] at hp hd ⊢
  rw [unn, if_neg (by rw [hp]; exact Bool.false_ne_true), if_pos hd, List.drop_drop]
theorem unn_Q (s : ByteArray) (k : Nat) (h : k < s.size) (hp : [37, 48, 65].isPrefixOf (s.data.toList.drop k) = false) (hd : [37, 48, 68].isPrefixOf (s.data.toList.drop k) = false) (hq : [37, 50, 50].isPrefixOf (s.data.toList.drop k) = true) : unn (s.data.toList.drop k) = 34 :: unn (s.data.toList.drop (k + 3)) := by
  rw [drop_cons' s k h] at hp hd hq ⊢
  rw [unn, if_neg (by rw [hp]; exact Bool.false_ne_true), if_neg (by rw [hd]; exact Bool.false_ne_true), if_pos hq, List.drop_drop]
theorem unn_E (s : ByteArray) (k : Nat) (h : k < s.size) (hp : [37, 48, 65].isPrefixOf (s.data.toList.drop k) = false) (hd : [37, 48, 68].isPrefixOf (s.data.toList.drop k) = false) (hq : [37, 50, 50].isPrefixOf (s.data.toList.drop k) = false) : unn (s.data.toList.drop k) = s[k] :: unn (s.data.toList.drop (k + 1)) := by
  rw [drop_cons' s k h] at hp hd hq ⊢
  rw [unn, if_neg (by rw [hp]; exact Bool.false_ne_true), if_neg (by rw [hd]; exact Bool.false_ne_true), if_neg (by rw [hq]; exact Bool.false_ne_true)]
theorem cut_ne (s t : ByteArray) (k n : Nat) (h : s.extract k n ≠ t) : ((s.extract k n).toList == t.data.toList) = false := by
  rw [beq_eq_false_iff_ne, ByteArray.toList_eq]
  intro e
  exact h (ByteArray.ext (Array.toList_inj.1 e))
theorem cut_eq (s t : ByteArray) (k n : Nat) (h : s.extract k n = t) : ((s.extract k n).toList == t.data.toList) = true := by rw [h, ByteArray.toList_eq]; exact beq_self_eq_true _
set_option maxHeartbeats 2000000 in
set_option maxRecDepth 100000 in
theorem refUnname_any (s : ByteArray) (hs : s.size ≤ 9000000) (w : World) :
    Calls Tryd.prog 42 #[.string s] w fun e w' => e = .returned (.string ⟨(unn s.data.toList).toArray⟩) ∧ Below w.heap.size w w' := by
  have hUl := unn_len s.data.toList
  rw [size_list] at hUl
  go_enter Tryd.func42, Tryd.ntmps42
  go_wp2_with fail
  go_loopw [4, 3] (fun i v wr => ∃ (k : Nat) (acc : List UInt8), k ≤ s.size ∧ i = .int .i64 k ∧ OB w.heap.size acc v wr ∧ Hid (acc ++ unn (s.data.toList.drop k) = unn s.data.toList) ∧ Below w.heap.size w wr) (fun i _ _ => s.size - (intOf i).toNat)
  case atStart => exact ⟨0, [], Nat.zero_le _, rfl, OB.nil _ _, Lib.hid rfl, Below.refl _ _⟩
  case round =>
    obtain ⟨k, acc, hk, rfl, hown, hA, hbel⟩ := hrel
    have hsz := hbel.size
    have hL1 : acc.length < 70368744177664 := by
      have := congrArg List.length hA.out
      rw [List.length_append] at this
      omega
    by_cases hlt : k < s.size
    · by_cases h3 : k + 3 ≤ s.size
      · have h3' : (2 : Int) < (s.size : Int) - (k : Int) := by omega
        have pA := Lib.hid (pre_at s ⟨#[37, 48, 65]⟩ k h3)
        have pD := Lib.hid (pre_at s ⟨#[37, 48, 68]⟩ k h3)
        have pQ := Lib.hid (pre_at s ⟨#[37, 50, 50]⟩ k h3)
        by_cases eA : s.extract k (k + 3) = ⟨#[37, 48, 65]⟩
        · have hN := Lib.hid (show (acc ++ [10]) ++ unn (s.data.toList.drop (k + 3)) = unn s.data.toList by
            rw [← hA.out, unn_A s k hlt (by rw [show [37, 48, 65] = (ByteArray.mk #[37, 48, 65]).data.toList from rfl, pA.out]; exact decide_eq_true eA)]; simp)
          have cA : ((s.extract k (k + 3)).toList == [37, 48, 65]) = true := cut_eq _ _ _ _ eA
          clear eA
          go_wp2_with (at_builtin; refine wpList_append_byte rfl _ _ rfl rfl rfl 10 rfl hown hL1 hsz ?_; intro v' w2 hown' hb')
          go_roundw
          case rel => exact ⟨k + 3, acc ++ [10], by omega, by go_num, hown', hN, hbel.trans hb'⟩
          case measure => simp [intOf]; omega
        · have cA : ((s.extract k (k + 3)).toList == [37, 48, 65]) = false := cut_ne _ _ _ _ eA
          have fA := Lib.hid (show [37, 48, 65].isPrefixOf (s.data.toList.drop k) = false by rw [show [37, 48, 65] = (ByteArray.mk #[37, 48, 65]).data.toList from rfl, pA.out]; exact decide_eq_false eA)
          clear eA
          by_cases eD : s.extract k (k + 3) = ⟨#[37, 48, 68]⟩
          · have hN := Lib.hid (show (acc ++ [13]) ++ unn (s.data.toList.drop (k + 3)) = unn s.data.toList by
              rw [← hA.out, unn_D s k hlt fA.out (by rw [show [37, 48, 68] = (ByteArray.mk #[37, 48, 68]).data.toList from rfl, pD.out]; exact decide_eq_true eD)]; simp)
            have cD : ((s.extract k (k + 3)).toList == [37, 48, 68]) = true := cut_eq _ _ _ _ eD
            clear eD
            go_wp2_with (at_builtin; refine wpList_append_byte rfl _ _ rfl rfl rfl 13 rfl hown hL1 hsz ?_; intro v' w2 hown' hb')
            go_roundw
            case rel => exact ⟨k + 3, acc ++ [13], by omega, by go_num, hown', hN, hbel.trans hb'⟩
            case measure => simp [intOf]; omega
          · have cD : ((s.extract k (k + 3)).toList == [37, 48, 68]) = false := cut_ne _ _ _ _ eD
            have fD := Lib.hid (show [37, 48, 68].isPrefixOf (s.data.toList.drop k) = false by rw [show [37, 48, 68] = (ByteArray.mk #[37, 48, 68]).data.toList from rfl, pD.out]; exact decide_eq_false eD)
            clear eD
            by_cases eQ : s.extract k (k + 3) = ⟨#[37, 50, 50]⟩
            · have hN := Lib.hid (show (acc ++ [34]) ++ unn (s.data.toList.drop (k + 3)) = unn s.data.toList by
                rw [← hA.out, unn_Q s k hlt fA.out fD.out (by rw [show [37, 50, 50] = (ByteArray.mk #[37, 50, 50]).data.toList from rfl, pQ.out]; exact decide_eq_true eQ)]; simp)
              have cQ : ((s.extract k (k + 3)).toList == [37, 50, 50]) = true := cut_eq _ _ _ _ eQ
              clear eQ
              go_wp2_with (at_builtin; refine wpList_append_byte rfl _ _ rfl rfl rfl 34 rfl hown hL1 hsz ?_; intro v' w2 hown' hb')
              go_roundw
              case rel => exact ⟨k + 3, acc ++ [34], by omega, by go_num, hown', hN, hbel.trans hb'⟩
              case measure => simp [intOf]; omega
            · have cQ : ((s.extract k (k + 3)).toList == [37, 50, 50]) = false := cut_ne _ _ _ _ eQ
              have fQ := Lib.hid (show [37, 50, 50].isPrefixOf (s.data.toList.drop k) = false by rw [show [37, 50, 50] = (ByteArray.mk #[37, 50, 50]).data.toList from rfl, pQ.out]; exact decide_eq_false eQ)
              clear eQ
              have hN := Lib.hid (show (acc ++ [s[k]]) ++ unn (s.data.toList.drop (k + 1)) = unn s.data.toList by
                rw [← hA.out, unn_E s k hlt fA.out fD.out fQ.out]; simp)
              go_wp2_with (at_builtin; refine wpList_append_byte rfl _ _ rfl rfl rfl s[k] rfl hown hL1 hsz ?_; intro v' w2 hown' hb')
              go_roundw
              case rel => exact ⟨k + 1, acc ++ [s[k]], by omega, by go_num, hown', hN, hbel.trans hb'⟩
              case measure => simp [intOf]; omega
      · have h3' : decide ((2 : Int) < (s.size : Int) - (k : Int)) = false := by simp; omega
        have hl2 : (s.data.toList.drop k).length ≤ 2 := by rw [List.length_drop, size_list]; omega
        have hN := Lib.hid (show (acc ++ [s[k]]) ++ unn (s.data.toList.drop (k + 1)) = unn s.data.toList by
          rw [← hA.out, unn_E s k hlt (pre3_far _ _ _ _ hl2) (pre3_far _ _ _ _ hl2) (pre3_far _ _ _ _ hl2)]; simp)
        clear hl2
        go_wp2_with (at_builtin; refine wpList_append_byte rfl _ _ rfl rfl rfl s[k] rfl hown hL1 hsz ?_; intro v' w2 hown' hb')
        go_roundw
        case rel => exact ⟨k + 1, acc ++ [s[k]], by omega, by go_num, hown', hN, hbel.trans hb'⟩
        case measure => simp [intOf]; omega
    · obtain rfl : k = s.size := by omega
      have hcb := hown.conv
      have hR := Lib.hid (show acc = unn s.data.toList by
        have := hA.out
        rw [List.drop_eq_nil_of_le (by rw [size_list]; exact Nat.le_refl _), unn, List.append_nil] at this
        exact this)
      go_wp2_with fail
      go_ret
      exact ⟨ret_str hR.out, hbel⟩
end Go.Proofs.YtapbljaohhcpoaaDoor
