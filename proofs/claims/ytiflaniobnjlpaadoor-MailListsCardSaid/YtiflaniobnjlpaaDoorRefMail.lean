/-
  ref07.Label, Address, List, Trim, Clean: the walks.
-/
import Derived.Test.YtiflaniobnjlpaaDoorMailMore
import Derived.Test.YtiflaniobnjlpaaDoorRefSigns
namespace Go.Proofs.YtiflaniobnjlpaaDoor
open Go.RowKit PT

theorem ne45n {c : UInt8} (h : letterB c = true) : c ≠ 45 := by
  rintro rfl
  exact absurd h (by decide)
theorem label_bad (s : ByteArray) (k : Nat) (h : k < s.size) (hl : letterB s[k] = false) (hc : s[k] ≠ 45) : isLabel s.data.toList = false := by
  have hno : allB [45] s.data.toList = false := allB_no [45] s k h (by rw [hl, inB_no (by simpa using hc)]; rfl)
  unfold isLabel
  rw [hno]; simp
theorem intEq {a b : Int} (h : a = b) : (a == b) = true := by rw [beq_iff_eq]; exact h
set_option maxHeartbeats 1000000 in
set_option maxRecDepth 100000 in
theorem refLabel_any (s : ByteArray) (hs : s.size ≤ 4294967296) (w : World) :
    Calls Tryd.prog 35 #[.string s] w fun e w' => e = .returned (.bool (isLabel s.data.toList)) ∧ w = w' := by
  go_enter Tryd.func35, Tryd.ntmps35
  by_cases h0 : s.size = 0
  · have hl : s.data.toList = [] := List.length_eq_zero_iff.1 (by rw [size_list]; exact h0)
    have hN := Lib.hid (show isLabel s.data.toList = false by rw [hl]; rfl)
    have h1 : (s.size : Int) < 1 := by omega
    clear hl
    go_wp2_with fail
    go_ret
    exact ⟨ret_bool hN.out.symm, rfl⟩
  · have h1 : decide ((s.size : Int) < 1) = false := by simp; omega
    by_cases h63 : s.size ≤ 63
    · have h63' : decide ((63 : Int) < (s.size : Int)) = false := by simp; omega
      have hls : s.size - 1 < s.size := by omega
      have hpos : 0 < s.size := by omega
      go_wp2_with fail
      go_loop [3] (fun i => ∃ k : Nat, k ≤ s.size ∧ i = .int .i64 k ∧ Hid (allB [45] (s.data.toList.take k) = true ∧ (0 < k → s[0] ≠ 45) ∧ (k = s.size → s[s.size - 1] ≠ 45))) (fun i => s.size - (intOf i).toNat)
      case atStart => exact ⟨0, Nat.zero_le _, rfl, Lib.hid ⟨rfl, fun h => absurd h (by omega), fun h => absurd h (by omega)⟩⟩
      case round =>
        obtain ⟨k, hk, rfl, hA⟩ := hrel
        by_cases hlt : k < s.size
        · have hT := Lib.hid (allB_take [45] s k hlt)
          go_wp2_with fail
          refine (refPlain_any s[k] _).mono ?_
          rintro e w' ⟨rfl, rfl⟩
          cases hl : letterB s[k]
          · by_cases hc : s[k] = 45
            · have hc' := eq45 hc
              by_cases hk0 : k = 0
              · have hk0' := intEq (a := (k : Int)) (b := 0) (by omega)
                have hN := Lib.hid (label_head s hpos (by subst hk0; exact hc))
                have HK := Lib.hid hk0
                clear hl hc hk0
                go_wp2_with fail
                go_ret
                exact ⟨ret_bool hN.out.symm, rfl⟩
              · have hk0' := intNe (a := (k : Int)) (b := 0) (by omega)
                by_cases hkl : k = s.size - 1
                · have hkl' := intEq (a := (k : Int)) (b := (s.size : Int) - 1) (by omega)
                  have hN := Lib.hid (label_last s hls (by subst hkl; exact hc))
                  have HK := Lib.hid hkl
                  clear hl hc hkl
                  go_wp2_with fail
                  go_ret
                  exact ⟨ret_bool hN.out.symm, rfl⟩
                · have hkl' := intNe (a := (k : Int)) (b := (s.size : Int) - 1) (by omega)
                  have hN := Lib.hid (show allB [45] (s.data.toList.take (k + 1)) = true ∧ (0 < k + 1 → s[0] ≠ 45) ∧ (k + 1 = s.size → s[s.size - 1] ≠ 45) from
                    ⟨by rw [hT.out, hA.out.1, inB_yes (by rw [hc]; simp)]; simp, fun _ => hA.out.2.1 (by omega), fun h => absurd h (by omega)⟩)
                  clear hl hc
                  go_wp2_with fail
                  go_round
                  case rel => exact ⟨k + 1, by omega, by go_num, hN⟩
                  case measure => simp [intOf]; omega
            · have hc' := ne45 hc
              have hN := Lib.hid (label_bad s k hlt hl hc)
              clear hl hc
              go_wp2_with fail
              go_ret
              exact ⟨ret_bool hN.out.symm, rfl⟩
          · have hN := Lib.hid (show allB [45] (s.data.toList.take (k + 1)) = true ∧ (0 < k + 1 → s[0] ≠ 45) ∧ (k + 1 = s.size → s[s.size - 1] ≠ 45) from
              ⟨by rw [hT.out, hA.out.1, hl]; rfl, fun _ => by
                by_cases hk0 : k = 0
                · subst hk0; exact ne45n hl
                · exact hA.out.2.1 (by omega), fun h => by
                have : s.size - 1 = k := by omega
                simp only [this]; exact ne45n hl⟩)
            clear hl
            go_wp2_with fail
            go_round
            case rel => exact ⟨k + 1, by omega, by go_num, hN⟩
            case measure => simp [intOf]; omega
        · obtain rfl : k = s.size := by omega
          have hN := Lib.hid (label_ok s hpos h63 (by have := hA.out.1; rwa [List.take_of_length_le (by rw [size_list]; exact Nat.le_refl _)] at this) (hA.out.2.1 hpos) hls (hA.out.2.2 rfl))
          go_wp2_with fail
          go_ret
          exact ⟨ret_bool hN.out.symm, rfl⟩
    · have h63' : (63 : Int) < (s.size : Int) := by omega
      have hN := Lib.hid (show isLabel s.data.toList = false by unfold isLabel; rw [size_list, decide_eq_false h63]; simp)
      go_wp2_with fail
      go_ret
      exact ⟨ret_bool hN.out.symm, rfl⟩

theorem upTo_pre (c : UInt8) : ∀ a b : List UInt8, c ∉ a → upTo c (a ++ b) = a ++ upTo c b
  | [], b, _ => rfl
  | d :: a, b, h => by
    simp only [List.mem_cons, not_or] at h
    rw [List.cons_append, upTo, if_neg (fun e => h.1 e.symm), upTo_pre c a b h.2]; rfl
theorem addr_bad (s : ByteArray) (k : Nat) (h : k < s.size) (hn : 64 ∉ s.data.toList.take k) (h64 : s[k] ≠ 64) (hb : (letterB s[k] || inB s[k] userS) = false) : isAddr s.data.toList = false := by
  have e : upTo 64 s.data.toList = s.data.toList.take k ++ s[k] :: upTo 64 (s.data.toList.drop (k + 1)) := by
    conv => lhs; rw [← List.take_append_drop k s.data.toList]
    rw [upTo_pre 64 _ _ hn, drop_cons' s k h, upTo, if_neg h64]
  have hA : allB userS (upTo 64 s.data.toList) = false := by
    rw [e, all_append]
    have : allB userS (s[k] :: upTo 64 (s.data.toList.drop (k + 1))) = false := by unfold allB; rw [List.all_cons, hb]; rfl
    rw [this]; simp
  unfold isAddr
  rw [hA]; simp
theorem addr_at (s : ByteArray) (k : Nat) (h : k < s.size) (hn : 64 ∉ s.data.toList.take k) (h64 : s[k] = 64) : isAddr s.data.toList = (!(s.data.toList.take k).isEmpty && (allB userS (s.data.toList.take k) && (spl 46 [] (s.data.toList.drop (k + 1))).all isLabel)) := by
  conv => lhs; rw [← List.take_append_drop k s.data.toList]
  rw [drop_cons' s k h, h64, isAddr_of _ _ hn]
theorem addr_none (l : List UInt8) (h : 64 ∉ l) : isAddr l = false := by unfold isAddr; rw [inB_no h]; rfl
set_option maxHeartbeats 1000000 in
set_option maxRecDepth 100000 in
theorem refAddress_any (s : ByteArray) (hs : s.size ≤ 900000000) (w : World) :
    Calls Tryd.prog 12 #[.string s] w fun e w' => e = .returned (.bool (isAddr s.data.toList)) ∧ Below w.heap.size w w' := by
  go_enter Tryd.func12, Tryd.ntmps12
  go_wp2_with fail
  go_loop [3] (fun i => ∃ k : Nat, k ≤ s.size ∧ i = .int .i64 k ∧ Hid (64 ∉ s.data.toList.take k ∧ allB userS (s.data.toList.take k) = true)) (fun i => s.size - (intOf i).toNat)
  case atStart => exact ⟨0, Nat.zero_le _, rfl, Lib.hid ⟨by simp, rfl⟩⟩
  case round =>
    obtain ⟨k, hk, rfl, hA⟩ := hrel
    by_cases hlt : k < s.size
    · by_cases h64 : s[k] = 64
      · have h64' : ((s[k].toNat : Int) != 64) = false := by rw [h64]; rfl
        have hI := addr_at s k hlt hA.out.1 h64
        rw [hA.out.2, Bool.true_and] at hI
        have hne : ((k : Int) == (s.size : Int)) = false := intNe (by omega)
        by_cases hk0 : k = 0
        · have hk0' := intEq (a := (k : Int)) (b := 0) (by omega)
          have hN := Lib.hid (show isAddr s.data.toList = false by rw [hI, hk0]; rfl)
          have HK := Lib.hid hk0
          clear hI h64 hk0
          go_wp2_with fail
          go_ret
          exact ⟨ret_bool hN.out.symm, Below.refl _ _⟩
        · have hk0' := intNe (a := (k : Int)) (b := 0) (by omega)
          have hI2 := Lib.hid (show isAddr s.data.toList = (spl 46 [] (s.data.toList.drop (k + 1))).all isLabel by
            rw [hI]
            have : (s.data.toList.take k).isEmpty = false := by
              cases ht : s.data.toList.take k with
              | nil => have := congrArg List.length ht; rw [List.length_take, size_list, List.length_nil] at this; omega
              | cons _ _ => rfl
            rw [this]; rfl)
          have hE := Lib.hid (show (s.extract (k + 1) s.size).data.toList = s.data.toList.drop (k + 1) by
            rw [Lib.extract_data, List.take_of_length_le (by rw [List.length_drop, size_list]; exact Nat.le_refl _)])
          have hEs : (s.extract (k + 1) s.size).size ≤ 900000000 := by rw [← size_list, Lib.extract_data]; simp; omega
          have hk1 : (k : Int) + 1 ≤ (s.size : Int) := by omega
          clear hI h64
          go_wp2_with fail
          refine (refSplit_any _ 46 (by omega) _).mono ?_
          rintro e w2 ⟨⟨v2, rfl, hown2⟩, hb2⟩
          rw [hE.out] at hown2
          have hX2 := hown2.txts
          have hXs : ∀ x ∈ spl 46 [] (s.data.toList.drop (k + 1)), x.length ≤ 900000000 := fun x hx => by
            have := spl_small 46 _ [] x hx
            rw [List.length_nil, List.length_drop, size_list] at this
            omega
          have hXn := spl_count 46 (s.data.toList.drop (k + 1)) []
          rw [List.length_drop, size_list] at hXn
          generalize spl 46 [] (s.data.toList.drop (k + 1)) = X at *
          clear hown2
          obtain ⟨a, cap, rfl⟩ := hX2.len
          go_wp2_with fail
          go_loop [5] (fun i => ∃ k : Nat, k ≤ X.length ∧ i = .int .i64 k ∧ Hid ((X.take k).all isLabel = true)) (fun i => X.length - (intOf i).toNat)
          case atStart => exact ⟨0, Nat.zero_le _, rfl, Lib.hid rfl⟩
          case round =>
            obtain ⟨j, hj, rfl, hB⟩ := hrel
            by_cases hjl : j < X.length
            · obtain ⟨b, o, cap', hv, hb, hc⟩ := hX2.at hjl
              cases hv
              have hXk := hXs X[j] (List.getElem_mem hjl)
              have hNo := Lib.hid (all_take_no X isLabel j hjl)
              have hYe := Lib.hid (all_take_step X isLabel j hjl hB.out)
              obtain ⟨P, hx⟩ := some_bytes X[j]
              rw [hx] at hc hXk hNo hYe
              rw [txt_of] at hc
              rw [size_list] at hXk
              clear hx
              go_wp2_with fail
              refine (refLabel_any P (by omega) _).mono ?_
              rintro e w' ⟨rfl, rfl⟩
              cases hL : isLabel P.data.toList
              · have hN := Lib.hid (show isAddr s.data.toList = false by rw [hI2.out]; exact hNo.out hL)
                clear hL
                go_wp2_with fail
                go_ret
                exact ⟨ret_bool hN.out.symm, hb2⟩
              · have hN := Lib.hid (hYe.out hL)
                clear hL
                go_wp2_with fail
                go_round
                case rel => exact ⟨j + 1, by omega, by go_num, hN⟩
                case measure => simp [intOf]; omega
            · obtain rfl : j = X.length := by omega
              have hN := Lib.hid (show isAddr s.data.toList = true by rw [hI2.out]; have := hB.out; rwa [List.take_of_length_le (Nat.le_refl _)] at this)
              go_wp2_with fail
              go_ret
              exact ⟨ret_bool hN.out.symm, hb2⟩
      · have h64' : ((s[k].toNat : Int) != 64) = true := by
          simp only [bne_iff_ne, ne_eq]
          intro e
          exact h64 (UInt8.toNat_inj.1 (by have : (64 : UInt8).toNat = 64 := rfl; omega))
        have hS := Lib.hid (show 64 ∉ s.data.toList.take (k + 1) by
          rw [take_snoc s k hlt, List.mem_append, List.mem_singleton]
          exact fun h => h.elim hA.out.1 (fun h => h64 h.symm))
        have hT := Lib.hid (allB_take userS s k hlt)
        have hBad := Lib.hid (addr_bad s k hlt hA.out.1 h64)
        clear h64
        go_wp2_with fail
        refine (refPlain_any s[k] _).mono ?_
        rintro e w' ⟨rfl, rfl⟩
        cases hl : letterB s[k]
        · have hIn := Lib.hid hl
          clear hl
          go_wp2_with fail
          refine (refIn_any s[k] ⟨#[46, 33, 35, 36, 37, 38, 39, 42, 43, 47, 61, 63, 94, 95, 123, 124, 125, 126, 45, 96]⟩ _ (by decide)).mono ?_
          rintro e w' ⟨rfl, rfl⟩
          cases hi : inB s[k] (ByteArray.mk #[46, 33, 35, 36, 37, 38, 39, 42, 43, 47, 61, 63, 94, 95, 123, 124, 125, 126, 45, 96]).data.toList
          · have hN := Lib.hid (hBad.out (by rw [hIn.out, show inB s[k] userS = false from hi]; rfl))
            clear hi
            go_wp2_with fail
            go_ret
            exact ⟨ret_bool hN.out.symm, Below.refl _ _⟩
          · have hN := Lib.hid (show allB userS (s.data.toList.take (k + 1)) = true by rw [hT.out, hA.out.2, show inB s[k] userS = true from hi]; simp)
            clear hi
            go_wp2_with fail
            go_round
            case rel => exact ⟨k + 1, by omega, by go_num, Lib.hid ⟨hS.out, hN.out⟩⟩
            case measure => simp [intOf]; omega
        · have hN := Lib.hid (show allB userS (s.data.toList.take (k + 1)) = true by rw [hT.out, hA.out.2, hl]; rfl)
          clear hl
          go_wp2_with fail
          go_round
          case rel => exact ⟨k + 1, by omega, by go_num, Lib.hid ⟨hS.out, hN.out⟩⟩
          case measure => simp [intOf]; omega
    · obtain rfl : k = s.size := by omega
      have hN := Lib.hid (addr_none s.data.toList (by have := hA.out.1; rwa [List.take_of_length_le (by rw [size_list]; exact Nat.le_refl _)] at this))
      have hq := intEq (a := (s.size : Int)) (b := (s.size : Int)) rfl
      by_cases h0 : s.size = 0
      · have h0' := intEq (a := (s.size : Int)) (b := 0) (by omega)
        go_wp2_with fail
        go_ret
        exact ⟨ret_bool hN.out.symm, Below.refl _ _⟩
      · have h0' := intNe (a := (s.size : Int)) (b := 0) (by omega)
        go_wp2_with fail
        go_ret
        exact ⟨ret_bool hN.out.symm, Below.refl _ _⟩
end Go.Proofs.YtiflaniobnjlpaaDoor
