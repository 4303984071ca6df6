/-
  mail.plain, mail.all, mail.label, mail.Address, mail.List: the walks.
-/
import Derived.Test.YtiflaniobnjlpaaDoorTexts
import Derived.Test.YtiflaniobnjlpaaDoorCutOne
import Derived.Test.YtiflaniobnjlpaaDoorStrip
import Derived.Test.YtiflaniobnjlpaaDoorIb
import Derived.Test.YtiflaniobnjlpaaDoorTables
import Derived.Test.YtiflaniobnjlpaaDoorPlainMail
import Derived.StillTactics
namespace Go.Proofs.YtiflaniobnjlpaaDoor
open Go.RowKit PT

theorem mailPlain_any (c : UInt8) (w : World) :
    Calls Tryd.prog 49 #[.int .u8 c.toNat] w fun e w' => e = .returned (.bool (letterB c)) ∧ w = w' := by
  go_enter Tryd.func49, Tryd.ntmps49
  go_wp2
  all_goals
    go_ret
    exact ⟨ret_bool (by rw [Bool.eq_iff_iff]; simp [letterB]; omega), rfl⟩
set_option maxHeartbeats 1000000 in
set_option maxRecDepth 100000 in
theorem mailAll_any (s signs : ByteArray) (hs : s.size ≤ 4294967296) (w : World) :
    Calls Tryd.prog 30 #[.string s, .string signs] w fun e w' => e = .returned (.bool (allB signs.data.toList s.data.toList)) ∧ w = w' := by
  go_enter Tryd.func30, Tryd.ntmps30
  go_wp2_with fail
  go_loop [8] (fun i => ∃ k : Nat, k ≤ s.size ∧ i = .int .i64 k ∧ Hid (allB signs.data.toList (s.data.toList.take k) = true)) (fun i => s.size - (intOf i).toNat)
  case atStart => exact ⟨0, Nat.zero_le _, rfl, Lib.hid rfl⟩
  case round =>
    obtain ⟨k, hk, rfl, hA⟩ := hrel
    by_cases hlt : k < s.size
    · have hT := Lib.hid (allB_take signs.data.toList s k hlt)
      have hNo := Lib.hid (allB_no signs.data.toList s k hlt)
      go_wp2_with fail
      refine (mailPlain_any s[k] _).mono ?_
      rintro e w' ⟨rfl, rfl⟩
      cases hl : letterB s[k]
      · by_cases hi : s[k] ∈ signs.data.toList
        · have hN := Lib.hid (show allB signs.data.toList (s.data.toList.take (k + 1)) = true by rw [hT.out, hA.out, hl, inB_yes hi]; rfl)
          clear hl
          go_wp2_with fail
          refine (ib_yes signs s[k] _ hi).mono ?_
          rintro e w' ⟨z, hz, rfl, rfl⟩
          have hz' : decide ((z : Int) < 0) = false := by simp
          go_wp2_with fail
          go_round
          case rel => exact ⟨k + 1, by omega, by go_num, hN⟩
          case measure => simp [intOf]; omega
        · have hN := Lib.hid (hNo.out (by rw [hl, inB_no hi]; rfl))
          clear hl
          go_wp2_with fail
          refine (ib_no signs s[k] _ hi).mono ?_
          rintro e w' ⟨rfl, rfl⟩
          go_wp2_with fail
          go_ret
          exact ⟨ret_bool hN.out.symm, rfl⟩
      · have hN := Lib.hid (show allB signs.data.toList (s.data.toList.take (k + 1)) = true by rw [hT.out, hA.out, hl]; rfl)
        clear hl
        go_wp2_with fail
        go_round
        case rel => exact ⟨k + 1, by omega, by go_num, hN⟩
        case measure => simp [intOf]; omega
    · obtain rfl : k = s.size := by omega
      have hN := Lib.hid (show allB signs.data.toList s.data.toList = true by have := hA.out; rwa [List.take_of_length_le (by rw [size_list]; exact Nat.le_refl _)] at this)
      go_wp2_with fail
      go_ret
      exact ⟨ret_bool hN.out.symm, rfl⟩

theorem head_at (s : ByteArray) (h : 0 < s.size) : s.data.toList.head? = some s[0] := by
  have := drop_cons' s 0 h
  rw [List.drop_zero] at this
  rw [this]; rfl
theorem last_at (s : ByteArray) (h : s.size - 1 < s.size) : s.data.toList.getLast? = some s[s.size - 1] := by
  rw [List.getLast?_eq_getElem?, size_list, List.getElem?_eq_getElem (by rw [size_list]; exact h)]
  rfl
theorem label_head (s : ByteArray) (h : 0 < s.size) (hc : s[0] = 45) : isLabel s.data.toList = false := by
  unfold isLabel; rw [head_at s h, hc]; simp
theorem label_last (s : ByteArray) (h : s.size - 1 < s.size) (hc : s[s.size - 1] = 45) : isLabel s.data.toList = false := by
  unfold isLabel; rw [last_at s h, hc]; simp
theorem label_ok (s : ByteArray) (h0 : 0 < s.size) (h63 : s.size ≤ 63) (hA : allB [45] s.data.toList = true) (h1 : s[0] ≠ 45) (h : s.size - 1 < s.size) (h2 : s[s.size - 1] ≠ 45) : isLabel s.data.toList = true := by
  unfold isLabel
  rw [head_at s h0, last_at s h, hA, size_list, decide_eq_true h63, decide_eq_true (by simpa using h1), decide_eq_true (by simpa using h2)]
  cases hl : s.data.toList with
  | nil => have := congrArg List.length hl; rw [size_list, List.length_nil] at this; omega
  | cons _ _ => rfl
theorem ne45 {c : UInt8} (h : c ≠ 45) : ((c.toNat : Int) != 45) = true := by
  simp only [bne_iff_ne, ne_eq]
  intro e
  exact h (UInt8.toNat_inj.1 (by have : (45 : UInt8).toNat = 45 := rfl; omega))
theorem eq45 {c : UInt8} (h : c = 45) : ((c.toNat : Int) != 45) = false := by rw [h]; rfl
set_option maxHeartbeats 1000000 in
set_option maxRecDepth 100000 in
theorem mailLabel_any (s : ByteArray) (hs : s.size ≤ 4294967296) (w : World) :
    Calls Tryd.prog 32 #[.string s] w fun e w' => e = .returned (.bool (isLabel s.data.toList)) ∧ w = w' := by
  have hpe : s.toList.isEmpty = s.data.toList.isEmpty := by rw [ByteArray.toList_eq]
  by_cases h0 : s.size = 0
  · have hl : s.data.toList = [] := List.length_eq_zero_iff.1 (by rw [size_list]; exact h0)
    rw [hl] at hpe
    have hN := Lib.hid (show isLabel s.data.toList = false by rw [hl]; rfl)
    have hpe' : s.toList.isEmpty = true := hpe
    clear hl hpe h0
    go_enter Tryd.func32, Tryd.ntmps32
    go_wp2_with fail
    go_ret
    exact ⟨ret_bool hN.out.symm, rfl⟩
  · have hpe' : s.toList.isEmpty = false := by
      rw [hpe]
      cases hl : s.data.toList with
      | nil => have := congrArg List.length hl; rw [size_list, List.length_nil] at this; omega
      | cons _ _ => rfl
    have hpos : 0 < s.size := by omega
    clear hpe h0
    by_cases h63 : s.size ≤ 63
    · have h63' : (s.size : Int) ≤ 63 := by omega
      go_enter Tryd.func32, Tryd.ntmps32
      go_wp2_with fail
      refine (mailAll_any s ⟨#[45]⟩ hs _).mono ?_
      rintro e w' ⟨rfl, rfl⟩
      cases hA : allB (ByteArray.mk #[45]).data.toList s.data.toList
      · have hN := Lib.hid (show isLabel s.data.toList = false by unfold isLabel; rw [show allB [45] s.data.toList = false from hA]; simp)
        clear hA
        go_wp2_with fail
        go_ret
        exact ⟨ret_bool hN.out.symm, rfl⟩
      · have HA := Lib.hid (show allB [45] s.data.toList = true from hA)
        clear hA
        by_cases h1 : s[0] = 45
        · have hN := Lib.hid (label_head s hpos h1)
          have h1' := eq45 h1
          clear h1
          go_wp2_with fail
          go_ret
          exact ⟨ret_bool hN.out.symm, rfl⟩
        · have h1' := ne45 h1
          have hls : s.size - 1 < s.size := by omega
          have hI1 : (0 : Int) ≤ (s.size : Int) - 1 := by omega
          have hI2 : ((s.size : Int) - 1).toNat = s.size - 1 := by omega
          have hI3 : (s.size : Int) - 1 < (s.size : Int) := by omega
          by_cases h2 : s[s.size - 1] = 45
          · have hN := Lib.hid (label_last s hls h2)
            have h2' := eq45 h2
            clear h1 h2
            go_wp2_with fail
            go_ret
            exact ⟨ret_bool hN.out.symm, rfl⟩
          · have hN := Lib.hid (label_ok s hpos h63 HA.out h1 hls h2)
            have h2' := ne45 h2
            clear h1 h2
            go_wp2_with fail
            go_ret
            exact ⟨ret_bool hN.out.symm, rfl⟩
    · have h63' : decide ((s.size : Int) ≤ 63) = false := by simp; omega
      have hN := Lib.hid (show isLabel s.data.toList = false by unfold isLabel; rw [size_list, decide_eq_false h63]; simp)
      go_enter Tryd.func32, Tryd.ntmps32
      go_wp2_with fail
      go_ret
      exact ⟨ret_bool hN.out.symm, rfl⟩

theorem some_bytes (x : List UInt8) : ∃ P : ByteArray, x = P.data.toList := ⟨⟨x.toArray⟩, rfl⟩
theorem txt_of (P : ByteArray) : txt P.data.toList = .string P := rfl
theorem all_take_no (X : List (List UInt8)) (f : List UInt8 → Bool) (k : Nat) (hk : k < X.length) (h : f X[k] = false) : X.all f = false := by
  rw [Bool.eq_false_iff]
  intro e
  rw [List.all_eq_true] at e
  have := e X[k] (List.getElem_mem hk)
  rw [h] at this; exact Bool.noConfusion this
theorem all_take_step (X : List (List UInt8)) (f : List UInt8 → Bool) (k : Nat) (hk : k < X.length) (h0 : (X.take k).all f = true) (h : f X[k] = true) : (X.take (k + 1)).all f = true := by
  rw [List.take_succ_eq_append_getElem hk, List.all_append, h0]
  simp [h]
set_option maxHeartbeats 1000000 in
set_option maxRecDepth 100000 in
theorem mailAddress_any (s : ByteArray) (hs : s.size ≤ 4000000000) (w : World) (hT : Tables w) :
    Calls Tryd.prog 10 #[.string s] w fun e w' => e = .returned (.bool (isAddr s.data.toList)) ∧ Below w.heap.size w w' := by
  go_enter Tryd.func10, Tryd.ntmps10
  go_wp2_with fail
  refine (cut_any s 64 (by omega) _).mono ?_
  rintro e w1 ⟨rfl, n1, rfl⟩
  rw [cut_aft]
  have hb1 := below_draws w n1
  have hT1 := hT.kept hb1
  generalize w.drewN n1 = w1 at *
  have hI : isAddr s.data.toList = (inB 64 s.data.toList && (!(upTo 64 s.data.toList).isEmpty && (allB userS (upTo 64 s.data.toList) && (spl 46 [] (aft 64 s.data.toList)).all isLabel))) := rfl
  have hu1 : (upTo 64 s.data.toList).length ≤ 4000000000 := by have := upTo_len 64 s.data.toList; rw [size_list] at this; omega
  have hu2 : (aft 64 s.data.toList).length ≤ 4000000000 := by unfold aft; rw [List.length_drop, size_list]; omega
  cases hin : inB 64 s.data.toList
  · have hN := Lib.hid (show isAddr s.data.toList = false by rw [hI, hin]; rfl)
    clear hI hin
    go_wp2_with fail
    go_ret
    exact ⟨ret_bool hN.out.symm, hb1⟩
  · rw [hin, Bool.true_and] at hI
    cases hue : (upTo 64 s.data.toList).isEmpty
    · rw [hue, Bool.not_false, Bool.true_and] at hI
      have HI := Lib.hid hI
      clear hI hin
      go_wp2_with fail
      refine (mailAll_any ⟨(upTo 64 s.data.toList).toArray⟩ ⟨#[46, 33, 35, 36, 37, 38, 39, 42, 43, 47, 61, 63, 94, 95, 123, 124, 125, 126, 45, 96]⟩ (by rw [size_mk]; omega) _).mono ?_
      rintro e w' ⟨rfl, rfl⟩
      cases hA : allB (ByteArray.mk #[46, 33, 35, 36, 37, 38, 39, 42, 43, 47, 61, 63, 94, 95, 123, 124, 125, 126, 45, 96]).data.toList (ByteArray.mk (upTo 64 s.data.toList).toArray).data.toList
      · have hN := Lib.hid (show isAddr s.data.toList = false by rw [HI.out, show allB userS (upTo 64 s.data.toList) = false from hA]; rfl)
        clear hA hue
        go_wp2_with fail
        go_ret
        exact ⟨ret_bool hN.out.symm, hb1⟩
      · have hI2 := Lib.hid (show isAddr s.data.toList = (spl 46 [] (aft 64 s.data.toList)).all isLabel by rw [HI.out, show allB userS (upTo 64 s.data.toList) = true from hA, Bool.true_and])
        clear hA hue
        go_wp2_with fail
        refine (split_any ⟨(aft 64 s.data.toList).toArray⟩ 46 (by rw [size_mk]; omega) _ hT1.shape).mono ?_
        rintro e w2 ⟨⟨v2, rfl, hown2⟩, hb2⟩
        have hX2 : Txts (spl 46 [] (aft 64 s.data.toList)) v2 w2 := hown2.txts
        have hXs : ∀ x ∈ spl 46 [] (aft 64 s.data.toList), x.length ≤ 4000000000 := fun x hx => by
          have := spl_small 46 _ [] x hx
          rw [List.length_nil] at this
          omega
        have hXn := spl_count 46 (aft 64 s.data.toList) []
        generalize hXe : spl 46 [] (aft 64 s.data.toList) = X at *
        clear hown2 hXe
        obtain ⟨a, cap, rfl⟩ := hX2.len
        have hb12 := bs hb1 hb2
        go_wp2_with fail
        go_loop [28] (fun i => ∃ k : Nat, k ≤ X.length ∧ i = .int .i64 k ∧ Hid ((X.take k).all isLabel = true)) (fun i => X.length - (intOf i).toNat)
        case atStart => exact ⟨0, Nat.zero_le _, rfl, Lib.hid rfl⟩
        case round =>
          obtain ⟨k, hk, rfl, hA⟩ := hrel
          by_cases hlt : k < X.length
          · obtain ⟨b, o, cap', hv, hb, hc⟩ := hX2.at hlt
            cases hv
            have hXk := hXs X[k] (List.getElem_mem hlt)
            have hNo := Lib.hid (all_take_no X isLabel k hlt)
            have hYe := Lib.hid (all_take_step X isLabel k hlt hA.out)
            obtain ⟨P, hx⟩ := some_bytes X[k]
            rw [hx] at hc hXk hNo hYe
            rw [txt_of] at hc
            rw [size_list] at hXk
            clear hx
            go_wp2_with fail
            refine (mailLabel_any P (by omega) _).mono ?_
            rintro e w' ⟨rfl, rfl⟩
            cases hL : isLabel P.data.toList
            · have hN := Lib.hid (show isAddr s.data.toList = false by rw [hI2.out]; exact hNo.out hL)
              clear hL
              go_wp2_with fail
              go_ret
              exact ⟨ret_bool hN.out.symm, hb12⟩
            · have hN := Lib.hid (hYe.out hL)
              clear hL
              go_wp2_with fail
              go_round
              case rel => exact ⟨k + 1, by omega, by go_num, hN⟩
              case measure => simp [intOf]; omega
          · obtain rfl : k = X.length := by omega
            have hN := Lib.hid (show isAddr s.data.toList = true by rw [hI2.out]; have := hA.out; rwa [List.take_of_length_le (Nat.le_refl _)] at this)
            go_wp2_with fail
            go_ret
            exact ⟨ret_bool hN.out.symm, hb12⟩
    · have hN := Lib.hid (show isAddr s.data.toList = false by rw [hI, hue]; rfl)
      clear hI hin
      go_wp2_with fail
      go_ret
      exact ⟨ret_bool hN.out.symm, hb1⟩
end Go.Proofs.YtiflaniobnjlpaaDoor
