/-
  submit.Query and ref24.Query: the walks.
-/
import Derived.Test.YtenicjebccdekaaFirst24
import Derived.Test.YtenicjebccdekaaCutOne
import Derived.Test.YtenicjebccdekaaDraws
import Derived.StillTactics
namespace Go.Proofs.Ytenicjebccdekaa
set_option linter.unusedVariables false
set_option linter.unusedSimpArgs false
open Go.RowKit PT

theorem str_of {s : ByteArray} {l : List UInt8} (h : s.data.toList = l) : Ending.returned (.string s) = .returned (.string ⟨l.toArray⟩) := by
  rw [← h]

set_option maxHeartbeats 1000000 in
theorem query_any (a q : ByteArray) (ha : a.size ≤ 400000000000000) (hq : q.size ≤ 400000000000000) (w : World) :
    Calls Try.prog 89 #[.string a, .string q] w fun e w' => e = .returned (.string ⟨(qry a.data.toList q.data.toList).toArray⟩) ∧ Below w.heap.size w w' := by
  have hql : (ByteArray.mk q.data.toList.toArray) = q := by simp
  go_enter Try.func89, Try.ntmps89
  go_wp2_with fail
  refine (cut_any a 35 (by omega) _).mono ?_
  rintro e w1 ⟨rfl, n1, rfl⟩
  have hb1 : Below w.heap.size w (w.drewN n1) := below_draws w n1
  rcases upTo_split 35 a.data.toList with h | ⟨b, h⟩
  · have hc : Lib.cut a.data.toList [35] = (a.data.toList, [], false) := cut_no 35 _ h
    have hR := Lib.hid (qry_no a.data.toList q.data.toList h)
    rw [hc]
    clear hc
    go_wp2_with fail
    refine (cut_any _ 63 (by rw [size_mk, size_list]; omega) _).mono ?_
    rintro e w2 ⟨rfl, n2, rfl⟩
    rw [show (Lib.cut (ByteArray.mk a.data.toList.toArray).data.toList [63]).1 = upTo 63 a.data.toList from cut_fst 63 _]
    have hl := upTo_len 63 a.data.toList
    rw [size_list] at hl
    go_wp2_with fail
    go_ret
    refine ⟨?_, below_draws _ _⟩
    rw [hR.out]
    exact str_of (by simp)
  · have hx := upTo_not 35 a.data.toList
    have hxl := upTo_len 35 a.data.toList
    rw [size_list] at hxl
    have hbl : b.length ≤ a.size := by
      have := congrArg List.length h
      rw [size_list, List.length_append, List.length_cons] at this
      omega
    have hc : Lib.cut a.data.toList [35] = (upTo 35 a.data.toList, b, true) := by
      rw [h]; exact cut_yes 35 _ b hx |>.trans (by rw [upTo_at 35 _ b hx])
    have hR : qry a.data.toList q.data.toList = upTo 63 (upTo 35 a.data.toList) ++ 63 :: q.data.toList ++ 35 :: b := by
      rw [h, qry_yes _ b _ hx, upTo_at 35 _ b hx]
    have hR' := Lib.hid hR
    rw [hc]
    clear hc h hR
    generalize upTo 35 a.data.toList = x at *
    go_wp2_with fail
    refine (cut_any _ 63 (by rw [size_mk]; omega) _).mono ?_
    rintro e w2 ⟨rfl, n2, rfl⟩
    rw [show (Lib.cut (ByteArray.mk x.toArray).data.toList [63]).1 = upTo 63 x from cut_fst 63 _]
    have hl := upTo_len 63 x
    go_wp2_with fail
    go_ret
    refine ⟨?_, below_draws _ _⟩
    rw [hR'.out]
    exact str_of (by simp)

end Go.Proofs.Ytenicjebccdekaa
