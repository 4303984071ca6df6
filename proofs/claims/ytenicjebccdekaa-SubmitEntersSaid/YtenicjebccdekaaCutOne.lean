/-
  strings.Cut at one byte, at a text of any size.
-/
import Derived.Test.YtenicjebccdekaaDraws
import Derived.Test.YtenicjebccdekaaShelf
import Derived.Test.YtenicjebccdekaaPlainQuery
namespace Go.Proofs.Ytenicjebccdekaa
set_option linter.unusedVariables false
set_option linter.unusedSimpArgs false
open Go.RowKit PT

theorem indexByte_up (c : UInt8) : ∀ l : List UInt8, (c ∉ l → Lib.indexByte l c = -1) ∧ (c ∈ l → Lib.indexByte l c = ((upTo c l).length : Nat))
  | [] => ⟨fun _ => rfl, fun h => by simp at h⟩
  | d :: r => by
    have ih := indexByte_up c r
    by_cases h : d = c
    · subst h
      refine ⟨fun k => by simp at k, fun _ => ?_⟩
      simp [Lib.indexByte, upTo]
    · constructor
      · intro k; exact indexByte_no k
      · intro k
        have k' : c ∈ r := by
          rcases List.mem_cons.1 k with e | e
          · exact absurd e.symm h
          · exact e
        have := ih.2 k'
        rw [upTo, if_neg h, List.length_cons]
        simp [Lib.indexByte, h, this]
        try omega

set_option maxHeartbeats 1000000 in
theorem slCut_any (s : ByteArray) (c : UInt8) (hs : s.size ≤ 4611686018427387904) (w : World) :
    Calls Try.prog 123 #[.string s, .string ⟨#[c]⟩] w fun e w' => e = .returned (.tuple #[.string ⟨(Lib.cut s.data.toList [c]).1.toArray⟩, .string ⟨(Lib.cut s.data.toList [c]).2.1.toArray⟩, .bool (Lib.cut s.data.toList [c]).2.2]) ∧ ∃ n, w' = w.drewN n := by
  go_enter Try.func123, Try.ntmps123
  go_wp2_with fail
  refine (Try.stringslite_Index_one s c _).mono ?_
  rintro e w1 ⟨rfl, rfl⟩
  rcases upTo_split c s.data.toList with h | ⟨b, h⟩
  · have hR := Lib.hid (cut_no c _ h)
    rw [(indexByte_up c _).1 h]
    go_wp2_with fail
    go_ret3
    rw [hR.out]
    exact ⟨by simp, 0, rfl⟩
  · have hx := upTo_not c s.data.toList
    have hmem : c ∈ s.data.toList := by rw [h]; simp
    have hC : Lib.cut s.data.toList [c] = (upTo c s.data.toList, b, true) := by
      rw [h]; exact (cut_yes c _ b hx).trans (by rw [upTo_at c _ b hx])
    have hT := Lib.hid (upTo_take c s.data.toList)
    have hD : s.data.toList.drop ((upTo c s.data.toList).length + 1) = b := by
      conv => lhs; rw [h]
      rw [show (upTo c s.data.toList ++ c :: b) = (upTo c s.data.toList ++ [c]) ++ b by simp]
      rw [show (upTo c ((upTo c s.data.toList ++ [c]) ++ b)) = upTo c s.data.toList by rw [List.append_assoc]; exact upTo_at c _ b hx]
      rw [show (upTo c s.data.toList).length + 1 = (upTo c s.data.toList ++ [c]).length by simp, List.drop_left]
    have hz : (upTo c s.data.toList).length < s.size := by
      have := congrArg List.length h
      rw [size_list, List.length_append, List.length_cons] at this
      omega
    rw [(indexByte_up c _).2 hmem]
    have hC' := Lib.hid hC
    have hD' := Lib.hid hD
    clear h hC hD
    generalize hzz : (upTo c s.data.toList).length = z at *
    have hz0 : (0 : Int) ≤ (z : Int) := by omega
    have hz1 : (z : Int) ≤ (s.size : Int) := by omega
    have hz2 : (z : Int) + 1 ≤ (s.size : Int) := by omega
    have hz3 : IntKind.i64.wrap ((z : Int) + 1) = (z : Int) + 1 := IntWalk.i64_in _ (by omega)
    clear hzz
    go_wp2_with fail
    go_quiet (fail)
    go_wp2_with fail
    go_ret3
    refine ⟨?_, _, rfl⟩
    rw [hC'.out]
    have e1 : s.extract 0 z = ⟨(upTo c s.data.toList).toArray⟩ := by
      apply ByteArray.ext
      apply Array.toList_inj.1
      rw [Lib.extract_data, List.drop_zero, Nat.sub_zero, hT.out]
    have e2 : s.extract (z + 1) s.size = ⟨b.toArray⟩ := by
      apply ByteArray.ext
      apply Array.toList_inj.1
      rw [Lib.extract_data, hD'.out, List.take_of_length_le (by rw [← hD'.out, List.length_drop, size_list]; omega)]
    show Ending.returned (.tuple #[.string (s.extract 0 z), .string (s.extract (z + 1) s.size), .bool true]) = _
    rw [e1, e2]

theorem cut_any (s : ByteArray) (c : UInt8) (hs : s.size ≤ 4611686018427387904) (w : World) :
    Calls Try.prog 117 #[.string s, .string ⟨#[c]⟩] w fun e w' => e = .returned (.tuple #[.string ⟨(Lib.cut s.data.toList [c]).1.toArray⟩, .string ⟨(Lib.cut s.data.toList [c]).2.1.toArray⟩, .bool (Lib.cut s.data.toList [c]).2.2]) ∧ ∃ n, w' = w.drewN n := by
  go_enter Try.func117, Try.ntmps117
  go_wp2_with fail
  refine (slCut_any s c hs _).mono ?_
  rintro e w1 ⟨rfl, n, rfl⟩
  go_wp2_with fail
  go_ret3
  exact ⟨rfl, n, rfl⟩
end Go.Proofs.Ytenicjebccdekaa
