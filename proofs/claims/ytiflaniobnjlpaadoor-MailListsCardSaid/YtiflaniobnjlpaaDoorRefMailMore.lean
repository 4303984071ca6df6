/-
  ref07.List, Trim, Clean: the walks.
-/
import Derived.Test.YtiflaniobnjlpaaDoorRefMail
namespace Go.Proofs.YtiflaniobnjlpaaDoor
open Go.RowKit PT

set_option maxHeartbeats 1000000 in
set_option maxRecDepth 100000 in
theorem refList_any (s : ByteArray) (hs : s.size ≤ 900000000) (w : World) :
    Calls Tryd.prog 24 #[.string s] w fun e w' => e = .returned (.bool (isList s.data.toList)) ∧ Below w.heap.size w w' := by
  have hI : isList s.data.toList = (s.data.toList.isEmpty || (spl 44 [] s.data.toList).all fun a => isAddr (strip a)) := rfl
  by_cases h0 : s.size = 0
  · have hl : s.data.toList = [] := List.length_eq_zero_iff.1 (by rw [size_list]; exact h0)
    have hN := Lib.hid (show isList s.data.toList = true by rw [hl]; rfl)
    have h0' := intEq (a := (s.size : Int)) (b := 0) (by omega)
    clear hl hI h0
    go_enter Tryd.func24, Tryd.ntmps24
    go_wp2_with fail
    go_ret
    exact ⟨ret_bool hN.out.symm, Below.refl _ _⟩
  · have h0' := intNe (a := (s.size : Int)) (b := 0) (by omega)
    have he : s.data.toList.isEmpty = false := by
      cases hl : s.data.toList with
      | nil => have := congrArg List.length hl; rw [size_list, List.length_nil] at this; omega
      | cons _ _ => rfl
    rw [he, Bool.false_or] at hI
    have HI := Lib.hid hI
    clear he hI
    go_enter Tryd.func24, Tryd.ntmps24
    go_wp2_with fail
    refine (refSplit_any s 44 (by omega) _).mono ?_
    rintro e w2 ⟨⟨v2, rfl, hown2⟩, hb2⟩
    have hX2 := hown2.txts
    have hXs : ∀ x ∈ spl 44 [] s.data.toList, x.length ≤ 900000000 := fun x hx => by
      have := spl_small 44 _ [] x hx
      rw [List.length_nil, size_list] at this
      omega
    have hXn := spl_count 44 s.data.toList []
    rw [size_list] at hXn
    generalize spl 44 [] s.data.toList = X at *
    clear hown2
    obtain ⟨a, cap, rfl⟩ := hX2.len
    go_wp2_with fail
    go_loopw [4] (fun i wr => ∃ k : Nat, k ≤ X.length ∧ i = .int .i64 k ∧ Hid ((X.take k).all (fun a => isAddr (strip a)) = true) ∧ Below w2.heap.size w2 wr) (fun i _ => X.length - (intOf i).toNat)
    case atStart => exact ⟨0, Nat.zero_le _, rfl, Lib.hid rfl, Below.refl _ _⟩
    case round =>
      obtain ⟨k, hk, rfl, hA, hbel⟩ := hrel
      by_cases hlt : k < X.length
      · obtain ⟨b, o, cap', hv, hb, hc⟩ := (hX2.kept hbel).at hlt
        cases hv
        have hXk := hXs X[k] (List.getElem_mem hlt)
        have hNo := Lib.hid (all_take_no X (fun a => isAddr (strip a)) k hlt)
        have hYe := Lib.hid (all_take_step X (fun a => isAddr (strip a)) k hlt hA.out)
        obtain ⟨P, hx⟩ := some_bytes X[k]
        rw [hx] at hc hXk hNo hYe
        rw [txt_of] at hc
        rw [size_list] at hXk
        clear hx
        have hsl := strip_len P.data.toList
        rw [size_list] at hsl
        go_wp2_with fail
        refine (refStrip_any P _ (by omega)).mono ?_
        rintro e w' ⟨rfl, rfl⟩
        go_wp2_with fail
        refine (refAddress_any ⟨(strip P.data.toList).toArray⟩ (by rw [size_mk]; omega) _).mono ?_
        rintro e w4 ⟨rfl, hb4⟩
        cases hL : isAddr (ByteArray.mk (strip P.data.toList).toArray).data.toList
        · have hN := Lib.hid (show isList s.data.toList = false by rw [HI.out]; exact hNo.out hL)
          clear hL
          go_wp2_with fail
          go_ret
          exact ⟨ret_bool hN.out.symm, bs hb2 (hbel.trans (hb4.mono hbel.size))⟩
        · have hN := Lib.hid (hYe.out hL)
          clear hL
          go_wp2_with fail
          go_roundw
          case rel => exact ⟨k + 1, by omega, by go_num, hN, hbel.trans (hb4.mono hbel.size)⟩
          case measure => simp [intOf]; omega
      · obtain rfl : k = X.length := by omega
        have hN := Lib.hid (show isList s.data.toList = true by rw [HI.out]; have := hA.out; rwa [List.take_of_length_le (Nat.le_refl _)] at this)
        go_wp2_with fail
        go_ret
        exact ⟨ret_bool hN.out.symm, bs hb2 hbel⟩

theorem refTrim_any (s : ByteArray) (hs : s.size ≤ 4000000) (w : World) :
    Calls Tryd.prog 28 #[.string s] w fun e w' => e = .returned (.string ⟨(trimM s.data.toList).toArray⟩) ∧ Below w.heap.size w w' := by
  have hl := ends_len [] s.data.toList
  rw [size_list] at hl
  simp only [List.length_nil] at hl
  go_enter Tryd.func28, Tryd.ntmps28
  go_wp2_with fail
  refine (refNoBreaks_any s hs _).mono ?_
  rintro e w1 ⟨rfl, hb1⟩
  go_wp2_with fail
  refine (refStrip_any ⟨(ends [] s.data.toList).toArray⟩ _ (by rw [size_mk]; omega)).mono ?_
  rintro e w2 ⟨rfl, rfl⟩
  go_wp2_with fail
  go_ret
  exact ⟨rfl, hb1⟩

theorem jn_strip_step (X : List (List UInt8)) (k : Nat) (hk : k < X.length) : jn 44 ((X.take (k + 1)).map strip) = (if k = 0 then [] else jn 44 ((X.take k).map strip) ++ [44]) ++ strip X[k] := by
  rw [List.take_succ_eq_append_getElem hk, List.map_append]
  by_cases h : k = 0
  · subst h; simp [jn]
  · rw [if_neg h, List.map_cons, List.map_nil, jn_snoc 44 _ _ (by
      intro e
      have := congrArg List.length e
      rw [List.length_map, List.length_take, List.length_nil] at this
      omega)]
    simp
theorem jn_strip_step2 (X : List (List UInt8)) (k : Nat) (hk : k < X.length) : jn 44 ((X.map strip).take (k + 1)) = (if k = 0 then [] else jn 44 ((X.map strip).take k) ++ [44]) ++ strip X[k] := by
  rw [← List.map_take, ← List.map_take]; exact jn_strip_step X k hk
set_option maxHeartbeats 1000000 in
set_option maxRecDepth 100000 in
theorem refClean07_any (s : ByteArray) (hs : s.size ≤ 100000) (w : World) :
    Calls Tryd.prog 27 #[.string s] w fun e w' => e = .returned (.string ⟨(cleanM s.data.toList).toArray⟩) ∧ Below w.heap.size w w' := by
  have hI : cleanM s.data.toList = jn 44 ((spl 44 [] s.data.toList).map strip) := rfl
  go_enter Tryd.func27, Tryd.ntmps27
  go_wp2_with fail
  refine (refSplit_any s 44 (by omega) _).mono ?_
  rintro e w2 ⟨⟨v2, rfl, hown2⟩, hb2⟩
  have hX2 := hown2.txts
  have hXs : ∀ x ∈ spl 44 [] s.data.toList, x.length ≤ 100000 := fun x hx => by
    have := spl_small 44 _ [] x hx
    rw [List.length_nil, size_list] at this
    omega
  have hXn := spl_count 44 s.data.toList []
  rw [size_list] at hXn
  generalize spl 44 [] s.data.toList = X at *
  have HI := Lib.hid hI
  clear hown2 hI
  obtain ⟨a, cap, rfl⟩ := hX2.len
  have hJ : ∀ k, (jn 44 ((X.map strip).take k)).length ≤ 10000300002 := fun k => by
    have h := jn_len 44 ((X.map strip).take k) 100000 (fun x hx => by
      obtain ⟨y, hy, rfl⟩ := List.mem_map.1 (List.mem_of_mem_take hx)
      have h1 := strip_len y
      have h2 := hXs y hy
      omega)
    rw [List.length_take, List.length_map] at h
    have h3 : min k X.length * (100000 + 1) ≤ 100001 * 100001 := Nat.mul_le_mul (by omega) (by omega)
    omega
  have HJ := Lib.hid hJ
  clear hJ
  go_wp2_with fail
  go_loopw [5, 4] (fun i v wr => ∃ k : Nat, k ≤ X.length ∧ i = .int .i64 k ∧ v = .string ⟨(jn 44 ((X.map strip).take k)).toArray⟩ ∧ Below w2.heap.size w2 wr) (fun i _ _ => X.length - (intOf i).toNat)
  case atStart => exact ⟨0, Nat.zero_le _, rfl, rfl, Below.refl _ _⟩
  case round =>
    obtain ⟨k, hk, rfl, rfl, hbel⟩ := hrel
    by_cases hlt : k < X.length
    · obtain ⟨b, o, cap', hv, hb, hc⟩ := (hX2.kept hbel).at hlt
      cases hv
      have hXk := hXs X[k] (List.getElem_mem hlt)
      have hSt := Lib.hid (jn_strip_step2 X k hlt)
      have hJk := HJ.out k
      obtain ⟨P, hx⟩ := some_bytes X[k]
      rw [hx] at hc hXk hSt
      rw [txt_of] at hc
      rw [size_list] at hXk
      clear hx
      have hsl := strip_len P.data.toList
      rw [size_list] at hsl
      by_cases h0 : k = 0
      · have hz : decide (0 < k) = false := by simp; omega
        have hz2 : ¬ (0 < k) := by omega
        have hN := Lib.hid (show jn 44 ((X.map strip).take (k + 1)) = strip P.data.toList by rw [hSt.out, if_pos h0]; rfl)
        have hE := Lib.hid (show jn 44 ((X.map strip).take k) = [] by rw [h0]; rfl)
        rw [hE.out] at hJk ⊢
        clear h0 hSt
        have hZ : ByteArray.mk #[] ++ ByteArray.mk (strip P.data.toList).toArray = ByteArray.mk (strip P.data.toList).toArray := by
          rw [show ByteArray.mk #[] = ByteArray.mk ([] : List UInt8).toArray from rfl, mk_append, List.nil_append]
        go_wp2_with fail
        refine (refStrip_any P _ (by omega)).mono ?_
        rintro e w' ⟨rfl, rfl⟩
        go_wp2_with fail
        go_roundw
        case rel => exact ⟨k + 1, by omega, by go_num, by rw [hN.out], hbel⟩
        case measure => simp [intOf]; omega
      · have hz : (0 : Int) < (k : Int) := by omega
        have hN := Lib.hid (show jn 44 ((X.map strip).take (k + 1)) = jn 44 ((X.map strip).take k) ++ [44] ++ strip P.data.toList by rw [hSt.out, if_neg h0])
        have hZ : ByteArray.mk (jn 44 ((X.map strip).take k)).toArray ++ ByteArray.mk #[44] ++ ByteArray.mk (strip P.data.toList).toArray = ByteArray.mk (jn 44 ((X.map strip).take k) ++ [44] ++ strip P.data.toList).toArray := by
          rw [show ByteArray.mk #[44] = ByteArray.mk ([44] : List UInt8).toArray from rfl, mk_append, mk_append]
        have HZ := Lib.hid hZ
        clear h0 hSt hZ
        go_wp2_with fail
        refine (refStrip_any P _ (by omega)).mono ?_
        rintro e w' ⟨rfl, rfl⟩
        go_wp2_with fail
        go_roundw
        case rel => exact ⟨k + 1, by omega, by go_num, by rw [hN.out, ← HZ.out], hbel⟩
        case measure => simp [intOf]; omega
    · obtain rfl : k = X.length := by omega
      rw [List.take_of_length_le (by rw [List.length_map]; exact Nat.le_refl _)]
      go_wp2_with fail
      go_ret
      exact ⟨ret_str HI.out.symm, bs hb2 hbel⟩
end Go.Proofs.YtiflaniobnjlpaaDoor
