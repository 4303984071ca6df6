/-
  submit.Query and ref24.Query: the walks.
-/
import Derived.Test.YtiflaniobnjlpaaFirst24
import Derived.Test.YtiflaniobnjlpaaCutOne
import Derived.Test.YtiflaniobnjlpaaDraws
import Derived.StillTactics
namespace Go.Proofs.Ytiflaniobnjlpaa
open Go.RowKit PT

theorem str_of {s : ByteArray} {l : List UInt8} (h : s.data.toList = l) : Ending.returned (.string s) = .returned (.string ⟨l.toArray⟩) := by
  rw [← h]

set_option maxHeartbeats 1000000 in
theorem query_any (a q : ByteArray) (ha : a.size ≤ 400000000000000) (hq : q.size ≤ 400000000000000) (w : World) :
    Calls Try.prog 5 #[.string a, .string q] w fun e w' => e = .returned (.string ⟨(qry a.data.toList q.data.toList).toArray⟩) ∧ Below w.heap.size w w' := by
  have hql : (ByteArray.mk q.data.toList.toArray) = q := by simp
  go_enter Try.func5, Try.ntmps5
  go_wp2_with fail
  refine (cut_any a 35 (by omega) _).mono ?_
  rintro e w1 ⟨rfl, n1, rfl⟩
  have hb1 : Below w.heap.size w (w.drewN n1) := below_draws w n1
  rcases upTo_split 35 a.data.toList with h | ⟨b, h⟩
  · have hc : Lib.cut a.data.toList [35] = (a.data.toList, [], false) := cut_no 35 _ h
    have hR := Lib.hid (qry_no a.data.toList q.data.toList h)
    rw [hc]
    clear hc
    go_wp2_with fail
    refine (cut_any _ 63 (by rw [size_mk, size_list]; omega) _).mono ?_
    rintro e w2 ⟨rfl, n2, rfl⟩
    rw [show (Lib.cut (ByteArray.mk a.data.toList.toArray).data.toList [63]).1 = upTo 63 a.data.toList from cut_fst 63 _]
    have hl := upTo_len 63 a.data.toList
    rw [size_list] at hl
    go_wp2_with fail
    go_ret
    refine ⟨?_, below_draws _ _⟩
    rw [hR.out]
    exact str_of (by simp)
  · have hx := upTo_not 35 a.data.toList
    have hxl := upTo_len 35 a.data.toList
    rw [size_list] at hxl
    have hbl : b.length ≤ a.size := by
      have := congrArg List.length h
      rw [size_list, List.length_append, List.length_cons] at this
      omega
    have hc : Lib.cut a.data.toList [35] = (upTo 35 a.data.toList, b, true) := by
      rw [h]; exact cut_yes 35 _ b hx |>.trans (by rw [upTo_at 35 _ b hx])
    have hR : qry a.data.toList q.data.toList = upTo 63 (upTo 35 a.data.toList) ++ 63 :: q.data.toList ++ 35 :: b := by
      rw [h, qry_yes _ b _ hx, upTo_at 35 _ b hx]
    have hR' := Lib.hid hR
    rw [hc]
    clear hc h hR
    generalize upTo 35 a.data.toList = x at *
    go_wp2_with fail
    refine (cut_any _ 63 (by rw [size_mk]; omega) _).mono ?_
    rintro e w2 ⟨rfl, n2, rfl⟩
    rw [show (Lib.cut (ByteArray.mk x.toArray).data.toList [63]).1 = upTo 63 x from cut_fst 63 _]
    have hl := upTo_len 63 x
    go_wp2_with fail
    go_ret
    refine ⟨?_, below_draws _ _⟩
    rw [hR'.out]
    exact str_of (by simp)

set_option maxHeartbeats 1000000 in
theorem refQuery_any (a q : ByteArray) (ha : a.size ≤ 400000000000000) (hq : q.size ≤ 400000000000000) (w : World) :
    Calls Try.prog 6 #[.string a, .string q] w fun e w' => e = .returned (.string ⟨(qry a.data.toList q.data.toList).toArray⟩) ∧ Below w.heap.size w w' := by
  have hl := upTo_len 35 a.data.toList
  rw [size_list] at hl
  have hle1 : ((upTo 35 a.data.toList).length : Int) ≤ (a.size : Int) := by omega
  go_enter Try.func6, Try.ntmps6
  go_wp2_with fail
  refine (first24_any a 35 (by omega) _).mono ?_
  rintro e w1 ⟨rfl, rfl⟩
  have hQ : qry a.data.toList q.data.toList = upTo 63 (upTo 35 a.data.toList) ++ 63 :: q.data.toList ++ a.data.toList.drop (upTo 35 a.data.toList).length := rfl
  have hQ' := Lib.hid hQ
  have hE := Lib.hid (upTo_take 35 a.data.toList)
  clear hQ
  generalize (upTo 35 a.data.toList).length = z at *
  have hxs : (a.extract 0 z).size = z := by rw [ByteArray.size_extract]; omega
  have hx : (a.extract 0 z).data.toList = upTo 35 a.data.toList := by rw [Lib.extract_data]; simpa using hE.out
  have hy := upTo_len 63 (a.extract 0 z).data.toList
  rw [size_list] at hy
  have hF := Lib.hid (upTo_take 63 (a.extract 0 z).data.toList)
  have hcall := first24_any (a.extract 0 z) 63 (by omega)
  have hX := Lib.hid hx
  generalize (upTo 63 (a.extract 0 z).data.toList).length = y at *
  have hy2 : (y : Int) ≤ ((a.extract 0 z).size : Int) := by omega
  have hy3 : y ≤ z := by omega
  have hc1 : ¬ (9223372036854775807 < y + 1) := by omega
  have hc2 : ¬ (9223372036854775807 < y + 1 + q.size) := by omega
  have hc3 : ¬ (9223372036854775807 < y + 1 + q.size + (a.size - z)) := by omega
  clear hx
  go_wp2_with fail
  refine wp_region_still_lit (by kernel_rfl) (by kernel_rfl) ?_
  repeat still_step
  still_call ((hcall _).mono fun e w' ⟨he, hw⟩ => ⟨he, hw.symm⟩)
  repeat still_step
  refine wpStill_nil ?_
  go_wp2_with fail
  go_ret
  refine ⟨?_, below_draws _ _⟩
  rw [hQ'.out]
  exact str_of (by
    have e1 : ((a.extract 0 z).extract 0 y).data.toList = upTo 63 (upTo 35 a.data.toList) := by
      rw [Lib.extract_data, List.drop_zero, Nat.sub_zero, hF.out, hX.out]
    have e2 : (a.extract z a.size).data.toList = a.data.toList.drop z := by
      rw [Lib.extract_data, List.take_of_length_le (by rw [List.length_drop, size_list]; omega)]
    rw [ByteArray.data_append, ByteArray.data_append, ByteArray.data_append, Array.toList_append, Array.toList_append, Array.toList_append, e1, e2]
    simp)
end Go.Proofs.Ytiflaniobnjlpaa
