/-
  The law MailParts: the walk.
-/
import Derived.Test.YtiflaniobnjlpaaDoorWalkMailAddress
namespace Go.Proofs.YtiflaniobnjlpaaDoor
open Go.RowKit PT

theorem addr_ex3 : isAddr [97, 64, 98] = true := by decide
theorem at_a (u : ByteArray) : (u ++ ByteArray.mk #[64, 97]).data.toList = u.data.toList ++ [64, 97] := by simp
theorem a_at (P : ByteArray) : (ByteArray.mk #[97, 64] ++ P).data.toList = [97, 64] ++ P.data.toList := by simp
theorem at_host (u h : ByteArray) : (u ++ ByteArray.mk #[64] ++ h).data.toList = u.data.toList ++ 64 :: h.data.toList := by simp
theorem cat_size (a b : ByteArray) : (a ++ b).size = a.size + b.size := by
  rw [← size_list (a ++ b), ← size_list a, ← size_list b]; simp
set_option maxHeartbeats 1000000 in
set_option maxRecDepth 100000 in
theorem mailParts_walk (u h : ByteArray) (_hu : u.size ≤ maxLen) (_hh : h.size ≤ maxLen) (w : World) (hT : Tables w) :
    Calls Tryd.prog 4 #[.string u, .string h] w fun e w' => e = .returned (.bool true) ∧ Below w.heap.size w w' := by
  go_enter Tryd.func4, Tryd.ntmps4
  go_wp2_with fail
  refine (mailAddress_any _ (by decide) _ hT).mono ?_
  rintro e w1 ⟨rfl, hb1⟩
  rw [show isAddr (ByteArray.mk #[97, 64, 98]).data.toList = _ from addr_ex3]
  have hT1 := hT.kept hb1
  go_wp2_with fail
  refine (long07_any u _).mono ?_
  rintro e w' ⟨rfl, rfl⟩
  by_cases hl : 8192 < u.size
  · rw [decide_eq_true hl]
    go_wp2_with fail
    go_ret
    exact ⟨rfl, hb1⟩
  · rw [decide_eq_false hl]
    go_wp2_with fail
    refine (long07_any h _).mono ?_
    rintro e w' ⟨rfl, rfl⟩
    by_cases hl2 : 8192 < h.size
    · rw [decide_eq_true hl2]
      go_wp2_with fail
      go_ret
      exact ⟨rfl, hb1⟩
    · rw [decide_eq_false hl2]
      go_wp2_with fail
      go_loop [19] (fun i => ∃ k : Nat, k ≤ u.size ∧ i = .int .i64 k ∧ Hid (64 ∉ u.data.toList.take k)) (fun i => u.size - (intOf i).toNat)
      case atStart => exact ⟨0, Nat.zero_le _, rfl, Lib.hid (by simp)⟩
      case round =>
        obtain ⟨k, hk, rfl, hno⟩ := hrel
        by_cases hlt : k < u.size
        · by_cases h64 : u[k] = 64
          · have h64' : ((u[k].toNat : Int) == 64) = true := by rw [h64]; rfl
            clear h64
            go_wp2_with fail
            go_ret
            exact ⟨rfl, hb1⟩
          · have h64' : ((u[k].toNat : Int) == 64) = false := by
              rw [beq_eq_false_iff_ne]
              intro e
              exact h64 (UInt8.toNat_inj.1 (by have : (64 : UInt8).toNat = 64 := rfl; omega))
            have hS := Lib.hid (show 64 ∉ u.data.toList.take (k + 1) by
              rw [take_snoc u k hlt, List.mem_append, List.mem_singleton]
              exact fun h => h.elim hno.out (fun h => h64 h.symm))
            clear h64
            go_wp2_with fail
            go_round
            case rel => exact ⟨k + 1, by omega, by go_num, hS⟩
            case measure => simp [intOf]; omega
        · obtain rfl : k = u.size := by omega
          have hnu : 64 ∉ u.data.toList := by have := hno.out; rwa [List.take_of_length_le (by rw [size_list]; exact Nat.le_refl _)] at this
          have hA := isAddr_a u.data.toList hnu
          have hF := isAddr_of u.data.toList h.data.toList hnu
          have hF2 : isAddr (u.data.toList ++ 64 :: h.data.toList) = (isAddr (u.data.toList ++ [64, 97]) && (spl 46 [] h.data.toList).all isLabel) := by rw [hF, hA, Bool.and_assoc]
          have HF := Lib.hid hF2
          have hE1 := Lib.hid (at_a u)
          have hE2 := Lib.hid (at_host u h)
          have hz1 : (u ++ ByteArray.mk #[64, 97]).size ≤ 8194 := by rw [cat_size]; have : (ByteArray.mk #[64, 97]).size = 2 := rfl; omega
          have hz2 : (u ++ ByteArray.mk #[64] ++ h).size ≤ 16385 := by rw [cat_size, cat_size]; have : (ByteArray.mk #[64]).size = 1 := rfl; omega
          clear hA hF hF2 hno hnu
          go_wp2_with fail
          refine (mailAddress_any _ (by omega) _ hT1).mono ?_
          rintro e w2 ⟨rfl, hb2⟩
          rw [hE1.out]
          have hT2 := hT1.kept hb2
          go_wp2_with fail
          refine (refSplit_any h 46 (by omega) _).mono ?_
          rintro e w3 ⟨⟨v3, rfl, hown3⟩, hb3⟩
          have hX3 := hown3.txts
          have hT3 := hT2.kept hb3
          have hXs : ∀ x ∈ spl 46 [] h.data.toList, x.length ≤ 8192 ∧ 46 ∉ x := fun x hx => by
            have := spl_small 46 _ [] x hx
            rw [List.length_nil, size_list] at this
            exact ⟨by omega, spl_no 46 _ [] (by simp) x hx⟩
          have hXn := spl_count 46 h.data.toList []
          rw [size_list] at hXn
          generalize spl 46 [] h.data.toList = X at *
          obtain ⟨a, cap, rfl⟩ := hX3.len
          have hb13 := bs (bs hb1 hb2) hb3
          generalize hAe : isAddr (u.data.toList ++ [64, 97]) = A at *
          clear hAe hown3
          go_wp2_with fail
          go_loopw [33, 6] (fun i v wr => ∃ k : Nat, ∃ b : Bool, k ≤ X.length ∧ i = .int .i64 k ∧ v = .bool b ∧ Hid (b = (A && (X.take k).all isLabel)) ∧ Below w3.heap.size w3 wr) (fun i _ _ => X.length - (intOf i).toNat)
          case atStart => exact ⟨0, A, Nat.zero_le _, rfl, rfl, Lib.hid (by simp), Below.refl _ _⟩
          case round =>
            obtain ⟨j, b, hj, rfl, rfl, hB, hbel⟩ := hrel
            by_cases hjl : j < X.length
            · obtain ⟨bb, o, cap', hv, hb, hc⟩ := (hX3.kept hbel).at hjl
              cases hv
              have hXk := hXs X[j] (List.getElem_mem hjl)
              have hSt : (X.take (j + 1)).all isLabel = ((X.take j).all isLabel && isLabel X[j]) := by
                rw [List.take_succ_eq_append_getElem hjl, List.all_append]; simp
              obtain ⟨P, hx⟩ := some_bytes X[j]
              rw [hx] at hc hXk hSt
              rw [txt_of] at hc
              rw [size_list] at hXk
              have HSt := Lib.hid hSt
              clear hx hSt
              cases b
              · have hN := Lib.hid (show false = (A && (X.take (j + 1)).all isLabel) by rw [HSt.out, ← Bool.and_assoc, ← hB.out]; rfl)
                go_wp2_with fail
                go_roundw
                case rel => exact ⟨j + 1, false, by omega, by go_num, rfl, hN, hbel⟩
                case measure => simp [intOf]; omega
              · have hz3 : (ByteArray.mk #[97, 64] ++ P).size ≤ 8194 := by rw [cat_size]; have : (ByteArray.mk #[97, 64]).size = 2 := rfl; omega
                have hE3 := Lib.hid (show isAddr (ByteArray.mk #[97, 64] ++ P).data.toList = isLabel P.data.toList by rw [a_at]; exact isAddr_label _ hXk.2)
                have hN := Lib.hid (show isLabel P.data.toList = (A && (X.take (j + 1)).all isLabel) by rw [HSt.out, ← Bool.and_assoc, ← hB.out]; rfl)
                have hPz := hXk.1
                clear hXk
                go_wp2_with fail
                refine (mailAddress_any _ (by omega) _ (hT3.kept hbel)).mono ?_
                rintro e w4 ⟨rfl, hb4⟩
                rw [hE3.out]
                go_wp2_with fail
                go_roundw
                case rel => exact ⟨j + 1, isLabel P.data.toList, by omega, by go_num, rfl, hN, hbel.trans (hb4.mono hbel.size)⟩
                case measure => simp [intOf]; omega
            · obtain rfl : j = X.length := by omega
              have hB' : b = isAddr (u.data.toList ++ 64 :: h.data.toList) := by
                rw [HF.out, hB.out, List.take_of_length_le (Nat.le_refl _)]
              have HB := Lib.hid hB'
              clear hB'
              go_wp2_with fail
              refine (mailAddress_any _ (by omega) _ (hT3.kept hbel)).mono ?_
              rintro e w4 ⟨rfl, hb4⟩
              rw [hE2.out, ← HB.out]
              go_wp2_with fail
              go_ret
              exact ⟨ret_bool (by simp), bs hb13 (hbel.trans (hb4.mono hbel.size))⟩
end Go.Proofs.YtiflaniobnjlpaaDoor
