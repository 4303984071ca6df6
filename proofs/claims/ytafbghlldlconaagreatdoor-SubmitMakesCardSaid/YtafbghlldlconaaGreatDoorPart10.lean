import Derived.Test.YtafbghlldlconaaGreatDoorPart9
import Derived.Test.YtafbghlldlconaaGreatDoorPart1
import Derived.Test.YtafbghlldlconaaGreatDoorShelf
import Derived.StillTactics
import Derived.Test.YtafbghlldlconaaGreatDoorRows
import Derived.Test.YtafbghlldlconaaGreatDoorCards
import Derived.Test.YtafbghlldlconaaGreatDoorTie
import Derived.PinnedBridge
import Derived.Lib.LaidU8T
import Derived.Lib.LaidIn
import Derived.Deep.DeepHandedRow
import Derived.Deep.DeepWitnessRowRef
import Derived.WalkKit
import Derived.Lib.Replace
import Derived.Lib.CountLaws
/-
  PLAIN LAWS ON AN ADDRESS's QUERY (chapter 24): no program in sight.
-/
namespace Go.Proofs.YtafbghlldlconaaGreatDoor.PT
set_option linter.unusedVariables false
set_option linter.unusedSimpArgs false

/-- what stands ahead of the first sign -/
def upTo (c : UInt8) : List UInt8 → List UInt8
  | [] => []
  | d :: r => if d = c then [] else d :: upTo c r
theorem upTo_not (c : UInt8) : ∀ l, c ∉ upTo c l
  | [] => by simp [upTo]
  | d :: r => by
    unfold upTo
    split
    · simp
    · rename_i h
      simp only [List.mem_cons, not_or]
      exact ⟨fun e => h e.symm, upTo_not c r⟩
theorem upTo_all (c : UInt8) : ∀ l, c ∉ l → upTo c l = l
  | [], _ => rfl
  | d :: r, h => by
    simp only [List.mem_cons, not_or] at h
    rw [upTo, if_neg (fun e => h.1 e.symm), upTo_all c r h.2]
theorem upTo_at (c : UInt8) : ∀ a b : List UInt8, c ∉ a → upTo c (a ++ c :: b) = a
  | [], b, _ => by simp [upTo]
  | d :: r, b, h => by
    simp only [List.mem_cons, not_or] at h
    rw [List.cons_append, upTo, if_neg (fun e => h.1 e.symm), upTo_at c r b h.2]
theorem upTo_split (c : UInt8) : ∀ l, c ∉ l ∨ ∃ b, l = upTo c l ++ c :: b
  | [] => by simp
  | d :: r => by
    by_cases h : d = c
    · exact Or.inr ⟨r, by rw [upTo, if_pos h, h]; rfl⟩
    · rcases upTo_split c r with k | ⟨b, k⟩
      · left
        simp only [List.mem_cons, not_or]
        exact ⟨fun e => h e.symm, k⟩
      · exact Or.inr ⟨b, by rw [upTo, if_neg h, List.cons_append, ← k]⟩
theorem upTo_mem (c : UInt8) : ∀ (l : List UInt8) (x : UInt8), x ∈ upTo c l → x ∈ l
  | [], _, h => h
  | d :: r, x, h => by
    unfold upTo at h
    split at h
    · simp at h
    · rcases List.mem_cons.1 h with e | e
      · exact List.mem_cons.2 (Or.inl e)
      · exact List.mem_cons.2 (Or.inr (upTo_mem c r x e))
theorem upTo_len (c : UInt8) : ∀ l, (upTo c l).length ≤ l.length
  | [] => Nat.le_refl _
  | d :: r => by
    unfold upTo
    split
    · simp
    · simp only [List.length_cons]; have := upTo_len c r; omega
theorem upTo_take (c : UInt8) : ∀ l, l.take (upTo c l).length = upTo c l
  | [] => rfl
  | d :: r => by
    unfold upTo
    split
    · rfl
    · rw [List.length_cons, List.take_succ_cons, upTo_take c r]
/-- the address with the query put in -/
def qry (a q : List UInt8) : List UInt8 := upTo 63 (upTo 35 a) ++ 63 :: q ++ a.drop (upTo 35 a).length
theorem qry_yes (x b q : List UInt8) (h : (35 : UInt8) ∉ x) : qry (x ++ 35 :: b) q = upTo 63 x ++ 63 :: q ++ 35 :: b := by
  unfold qry
  rw [upTo_at 35 x b h, List.drop_left]
theorem qry_no (a q : List UInt8) (h : (35 : UInt8) ∉ a) : qry a q = upTo 63 a ++ 63 :: q := by
  unfold qry
  rw [upTo_all 35 a h, List.drop_length, List.append_nil]
theorem head_no (x q : List UInt8) (h : (35 : UInt8) ∉ x) (hq : (35 : UInt8) ∉ q) : (35 : UInt8) ∉ upTo 63 x ++ 63 :: q := by
  intro m
  rcases List.mem_append.1 m with e | e
  · exact h (upTo_mem 63 x 35 e)
  · rcases List.mem_cons.1 e with e | e
    · exact absurd e (by decide)
    · exact hq e
theorem qry_again (a q : List UInt8) (hq : (35 : UInt8) ∉ q) : qry (qry a q) q = qry a q := by
  rcases upTo_split 35 a with h | ⟨b, h⟩
  · rw [qry_no a q h, qry_no _ q (head_no a q h hq), upTo_at 63 _ q (upTo_not 63 a)]
  · have hn := upTo_not 35 a
    rw [h]
    rw [qry_yes _ b q hn, qry_yes _ b q (head_no _ q hn hq), upTo_at 63 _ q (upTo_not 63 _)]
theorem cut_yes (c : UInt8) (x b : List UInt8) (h : c ∉ x) : Lib.cut (x ++ c :: b) [c] = (x, b, true) := (cut_at c (x ++ c :: b)).2 x b rfl h
theorem cut_no (c : UInt8) (l : List UInt8) (h : c ∉ l) : Lib.cut l [c] = (l, [], false) := (cut_at c l).1 h
theorem cut_fst (c : UInt8) (l : List UInt8) : (Lib.cut l [c]).1 = upTo c l := by
  rcases upTo_split c l with h | ⟨b, h⟩
  · rw [cut_no c l h, upTo_all c l h]
  · rw [h, cut_yes c _ b (upTo_not c l), upTo_at c _ b (upTo_not c l)]
end Go.Proofs.YtafbghlldlconaaGreatDoor.PT

/-
  ref24.first: where a sign stands first.
-/
namespace Go.Proofs.YtafbghlldlconaaGreatDoor
set_option linter.unusedVariables false
set_option linter.unusedSimpArgs false
open Go.RowKit PT

set_option maxHeartbeats 1000000 in
theorem first24_any (s : ByteArray) (c : UInt8) (hs : s.size ≤ 900000000000000) (w : World) :
    Calls Tryz.prog 72 #[.string s, .int .u8 c.toNat] w fun e w' => e = .returned (.int .i64 ((upTo c s.data.toList).length : Nat)) ∧ w = w' := by
  go_enter Tryz.func72, Tryz.ntmps72
  go_wp2_with fail
  go_loop [5] (fun i => ∃ k : Nat, k ≤ s.size ∧ i = .int .i64 k ∧ Hid (k + (upTo c (s.data.toList.drop k)).length = (upTo c s.data.toList).length)) (fun i => s.size - (intOf i).toNat)
  case atStart => exact ⟨0, Nat.zero_le _, rfl, Lib.hid (by simp)⟩
  case round =>
    obtain ⟨k, hk, rfl, hH⟩ := hrel
    by_cases hlt : k < s.size
    · have hlt' : (k : Int) < (s.size : Int) := by omega
      by_cases hc : s[k] = c
      · have hE : (upTo c s.data.toList).length = k := by
          rw [← hH.out, drop_cons' s k hlt, upTo, if_pos hc]; rfl
        have hE' := Lib.hid hE
        have E : ((s[k].toNat : Int) == (c.toNat : Int)) = true := by rw [hc]; simp
        clear hE
        go_wp2_with fail
        go_ret
        exact ⟨ret_int (by rw [hE'.out]), rfl⟩
      · have hH' := Lib.hid (show k + 1 + (upTo c (s.data.toList.drop (k + 1))).length = (upTo c s.data.toList).length by
          rw [← hH.out, drop_cons' s k hlt, upTo, if_neg hc, List.length_cons]; omega)
        have E : ((s[k].toNat : Int) == (c.toNat : Int)) = false := by
          simp only [beq_eq_false_iff_ne, ne_eq]
          intro e
          exact hc (UInt8.toNat_inj.1 (by omega))
        go_wp2_with fail
        go_round
        case rel => exact ⟨k + 1, by omega, by go_num, hH'⟩
        case measure => simp [intOf]; omega
    · have hz : k = s.size := by omega
      have hE := Lib.hid (show (upTo c s.data.toList).length = s.size by
        rw [← hH.out, List.drop_eq_nil_of_le (by rw [size_list]; omega)]; simp [upTo]; exact hz)
      have hlt' : decide ((k : Int) < (s.size : Int)) = false := by simp; omega
      go_wp2_with fail
      go_ret
      exact ⟨ret_int (by rw [hE.out]), rfl⟩
end Go.Proofs.YtafbghlldlconaaGreatDoor

/-
  strings.Cut at one byte, at a text of any size.
-/
namespace Go.Proofs.YtafbghlldlconaaGreatDoor
set_option linter.unusedVariables false
set_option linter.unusedSimpArgs false
open Go.RowKit PT

theorem indexByte_up (c : UInt8) : ∀ l : List UInt8, (c ∉ l → Lib.indexByte l c = -1) ∧ (c ∈ l → Lib.indexByte l c = ((upTo c l).length : Nat))
  | [] => ⟨fun _ => rfl, fun h => by simp at h⟩
  | d :: r => by
    have ih := indexByte_up c r
    by_cases h : d = c
    · subst h
      refine ⟨fun k => by simp at k, fun _ => ?_⟩
      simp [Lib.indexByte, upTo]
    · constructor
      · intro k; exact indexByte_no k
      · intro k
        have k' : c ∈ r := by
          rcases List.mem_cons.1 k with e | e
          · exact absurd e.symm h
          · exact e
        have := ih.2 k'
        rw [upTo, if_neg h, List.length_cons]
        simp [Lib.indexByte, h, this]
        try omega

set_option maxHeartbeats 1000000 in
theorem slCut_any (s : ByteArray) (c : UInt8) (hs : s.size ≤ 4611686018427387904) (w : World) :
    Calls Tryz.prog 82 #[.string s, .string ⟨#[c]⟩] w fun e w' => e = .returned (.tuple #[.string ⟨(Lib.cut s.data.toList [c]).1.toArray⟩, .string ⟨(Lib.cut s.data.toList [c]).2.1.toArray⟩, .bool (Lib.cut s.data.toList [c]).2.2]) ∧ ∃ n, w' = w.drewN n := by
  go_enter Tryz.func82, Tryz.ntmps82
  go_wp2_with fail
  refine (Tryz.stringslite_Index_one s c _).mono ?_
  rintro e w1 ⟨rfl, rfl⟩
  rcases upTo_split c s.data.toList with h | ⟨b, h⟩
  · have hR := Lib.hid (cut_no c _ h)
    rw [(indexByte_up c _).1 h]
    go_wp2_with fail
    go_ret3
    rw [hR.out]
    exact ⟨by simp, 0, rfl⟩
  · have hx := upTo_not c s.data.toList
    have hmem : c ∈ s.data.toList := by rw [h]; simp
    have hC : Lib.cut s.data.toList [c] = (upTo c s.data.toList, b, true) := by
      rw [h]; exact (cut_yes c _ b hx).trans (by rw [upTo_at c _ b hx])
    have hT := Lib.hid (upTo_take c s.data.toList)
    have hD : s.data.toList.drop ((upTo c s.data.toList).length + 1) = b := by
      conv => lhs; rw [h]
      rw [show (upTo c s.data.toList ++ c :: b) = (upTo c s.data.toList ++ [c]) ++ b by simp]
      rw [show (upTo c ((upTo c s.data.toList ++ [c]) ++ b)) = upTo c s.data.toList by rw [List.append_assoc]; exact upTo_at c _ b hx]
      rw [show (upTo c s.data.toList).length + 1 = (upTo c s.data.toList ++ [c]).length by simp, List.drop_left]
    have hz : (upTo c s.data.toList).length < s.size := by
      have := congrArg List.length h
      rw [size_list, List.length_append, List.length_cons] at this
      omega
    rw [(indexByte_up c _).2 hmem]
    have hC' := Lib.hid hC
    have hD' := Lib.hid hD
    clear h hC hD
    generalize hzz : (upTo c s.data.toList).length = z at *
    have hz0 : (0 : Int) ≤ (z : Int) := by omega
    have hz1 : (z : Int) ≤ (s.size : Int) := by omega
    have hz2 : (z : Int) + 1 ≤ (s.size : Int) := by omega
    have hz3 : IntKind.i64.wrap ((z : Int) + 1) = (z : Int) + 1 := IntWalk.i64_in _ (by omega)
    clear hzz
    go_wp2_with fail
    go_quiet (fail)
    go_wp2_with fail
    go_ret3
    refine ⟨?_, _, rfl⟩
    rw [hC'.out]
    have e1 : s.extract 0 z = ⟨(upTo c s.data.toList).toArray⟩ := by
      apply ByteArray.ext
      apply Array.toList_inj.1
      rw [Lib.extract_data, List.drop_zero, Nat.sub_zero, hT.out]
    have e2 : s.extract (z + 1) s.size = ⟨b.toArray⟩ := by
      apply ByteArray.ext
      apply Array.toList_inj.1
      rw [Lib.extract_data, hD'.out, List.take_of_length_le (by rw [← hD'.out, List.length_drop, size_list]; omega)]
    show Ending.returned (.tuple #[.string (s.extract 0 z), .string (s.extract (z + 1) s.size), .bool true]) = _
    rw [e1, e2]

theorem cut_any (s : ByteArray) (c : UInt8) (hs : s.size ≤ 4611686018427387904) (w : World) :
    Calls Tryz.prog 42 #[.string s, .string ⟨#[c]⟩] w fun e w' => e = .returned (.tuple #[.string ⟨(Lib.cut s.data.toList [c]).1.toArray⟩, .string ⟨(Lib.cut s.data.toList [c]).2.1.toArray⟩, .bool (Lib.cut s.data.toList [c]).2.2]) ∧ ∃ n, w' = w.drewN n := by
  go_enter Tryz.func42, Tryz.ntmps42
  go_wp2_with fail
  refine (slCut_any s c hs _).mono ?_
  rintro e w1 ⟨rfl, n, rfl⟩
  go_wp2_with fail
  go_ret3
  exact ⟨rfl, n, rfl⟩
end Go.Proofs.YtafbghlldlconaaGreatDoor

/-
  submit.Query and ref24.Query: the walks.
-/
namespace Go.Proofs.YtafbghlldlconaaGreatDoor
set_option linter.unusedVariables false
set_option linter.unusedSimpArgs false
open Go.RowKit PT

theorem str_of {s : ByteArray} {l : List UInt8} (h : s.data.toList = l) : Ending.returned (.string s) = .returned (.string ⟨l.toArray⟩) := by
  rw [← h]

set_option maxHeartbeats 1000000 in
set_option maxRecDepth 100000 in
theorem query_any (a q : ByteArray) (ha : a.size ≤ 400000000000000) (hq : q.size ≤ 400000000000000) (w : World) :
    Calls Tryz.prog 15 #[.string a, .string q] w fun e w' => e = .returned (.string ⟨(qry a.data.toList q.data.toList).toArray⟩) ∧ Below w.heap.size w w' := by
  have hql : (ByteArray.mk q.data.toList.toArray) = q := by simp
  go_enter Tryz.func15, Tryz.ntmps15
  go_wp2_with fail
  refine (cut_any a 35 (by omega) _).mono ?_
  rintro e w1 ⟨rfl, n1, rfl⟩
  have hb1 : Below w.heap.size w (w.drewN n1) := below_draws w n1
  rcases upTo_split 35 a.data.toList with h | ⟨b, h⟩
  · have hc : Lib.cut a.data.toList [35] = (a.data.toList, [], false) := cut_no 35 _ h
    have hR := Lib.hid (qry_no a.data.toList q.data.toList h)
    rw [hc]
    clear hc
    go_wp2_with fail
    refine (cut_any _ 63 (by rw [size_mk, size_list]; omega) _).mono ?_
    rintro e w2 ⟨rfl, n2, rfl⟩
    rw [show (Lib.cut (ByteArray.mk a.data.toList.toArray).data.toList [63]).1 = upTo 63 a.data.toList from cut_fst 63 _]
    have hl := upTo_len 63 a.data.toList
    rw [size_list] at hl
    go_wp2_with fail
    go_ret
    refine ⟨?_, below_draws _ _⟩
    rw [hR.out]
    exact str_of (by simp)
  · have hx := upTo_not 35 a.data.toList
    have hxl := upTo_len 35 a.data.toList
    rw [size_list] at hxl
    have hbl : b.length ≤ a.size := by
      have := congrArg List.length h
      rw [size_list, List.length_append, List.length_cons] at this
      omega
    have hc : Lib.cut a.data.toList [35] = (upTo 35 a.data.toList, b, true) := by
      rw [h]; exact cut_yes 35 _ b hx |>.trans (by rw [upTo_at 35 _ b hx])
    have hR : qry a.data.toList q.data.toList = upTo 63 (upTo 35 a.data.toList) ++ 63 :: q.data.toList ++ 35 :: b := by
      rw [h, qry_yes _ b _ hx, upTo_at 35 _ b hx]
    have hR' := Lib.hid hR
    rw [hc]
    clear hc h hR
    generalize upTo 35 a.data.toList = x at *
    go_wp2_with fail
    refine (cut_any _ 63 (by rw [size_mk]; omega) _).mono ?_
    rintro e w2 ⟨rfl, n2, rfl⟩
    rw [show (Lib.cut (ByteArray.mk x.toArray).data.toList [63]).1 = upTo 63 x from cut_fst 63 _]
    have hl := upTo_len 63 x
    go_wp2_with fail
    go_ret
    refine ⟨?_, below_draws _ _⟩
    rw [hR'.out]
    exact str_of (by simp)

set_option maxHeartbeats 1000000 in
set_option maxRecDepth 100000 in
theorem refQuery_any (a q : ByteArray) (ha : a.size ≤ 400000000000000) (hq : q.size ≤ 400000000000000) (w : World) :
    Calls Tryz.prog 34 #[.string a, .string q] w fun e w' => e = .returned (.string ⟨(qry a.data.toList q.data.toList).toArray⟩) ∧ Below w.heap.size w w' := by
  have hl := upTo_len 35 a.data.toList
  rw [size_list] at hl
  have hle1 : ((upTo 35 a.data.toList).length : Int) ≤ (a.size : Int) := by omega
  go_enter Tryz.func34, Tryz.ntmps34
  go_wp2_with fail
  refine (first24_any a 35 (by omega) _).mono ?_
  rintro e w1 ⟨rfl, rfl⟩
  have hQ : qry a.data.toList q.data.toList = upTo 63 (upTo 35 a.data.toList) ++ 63 :: q.data.toList ++ a.data.toList.drop (upTo 35 a.data.toList).length := rfl
  have hQ' := Lib.hid hQ
  have hE := Lib.hid (upTo_take 35 a.data.toList)
  clear hQ
  generalize (upTo 35 a.data.toList).length = z at *
  have hxs : (a.extract 0 z).size = z := by rw [ByteArray.size_extract]; omega
  have hx : (a.extract 0 z).data.toList = upTo 35 a.data.toList := by rw [Lib.extract_data]; simpa using hE.out
  have hy := upTo_len 63 (a.extract 0 z).data.toList
  rw [size_list] at hy
  have hF := Lib.hid (upTo_take 63 (a.extract 0 z).data.toList)
  have hcall := first24_any (a.extract 0 z) 63 (by omega)
  have hX := Lib.hid hx
  generalize (upTo 63 (a.extract 0 z).data.toList).length = y at *
  have hy2 : (y : Int) ≤ ((a.extract 0 z).size : Int) := by omega
  have hy3 : y ≤ z := by omega
  have hc1 : ¬ (9223372036854775807 < y + 1) := by omega
  have hc2 : ¬ (9223372036854775807 < y + 1 + q.size) := by omega
  have hc3 : ¬ (9223372036854775807 < y + 1 + q.size + (a.size - z)) := by omega
  clear hx
  go_wp2_with fail
  refine wp_region_still_lit (by kernel_rfl) (by kernel_rfl) ?_
  repeat still_step
  still_call ((hcall _).mono fun e w' ⟨he, hw⟩ => ⟨he, hw.symm⟩)
  repeat still_step
  refine wpStill_nil ?_
  go_wp2_with fail
  go_ret
  refine ⟨?_, below_draws _ _⟩
  rw [hQ'.out]
  exact str_of (by
    have e1 : ((a.extract 0 z).extract 0 y).data.toList = upTo 63 (upTo 35 a.data.toList) := by
      rw [Lib.extract_data, List.drop_zero, Nat.sub_zero, hF.out, hX.out]
    have e2 : (a.extract z a.size).data.toList = a.data.toList.drop z := by
      rw [Lib.extract_data, List.take_of_length_le (by rw [List.length_drop, size_list]; omega)]
    rw [ByteArray.data_append, ByteArray.data_append, ByteArray.data_append, Array.toList_append, Array.toList_append, Array.toList_append, e1, e2]
    simp)
end Go.Proofs.YtafbghlldlconaaGreatDoor

/-
  Go's two tables of UTF-8, as the rows list them: what a walk reads of them, how they are carried, and a world for the witness.
-/
namespace Go.Proofs.YtafbghlldlconaaGreatDoor
set_option linter.unusedVariables false
set_option linter.unusedSimpArgs false
open Go.Shelf Go.RowKit

def u8ren : Ren := ⟨fun n => n, fun | 5 => 5 | 119 => 170 | 138 => 172 | 139 => 173 | n => n, fun | 3 => 1 | 4 => 2 | n => n⟩
theorem u8types : U8Types Tryz.prog u8ren := ⟨Tryz.underlying5, Tryz.underlying170, Tryz.underlying172, Tryz.underlying173⟩
theorem u8extra : U8Extra Tryz.prog u8ren := ⟨by kernel_rfl, by kernel_rfl, by kernel_rfl, by kernel_rfl, by kernel_rfl, by kernel_rfl, by kernel_rfl⟩

/-- the two tables stand in the world; the package variables have their shapes -/
structure Tables (w : World) : Prop where
  utf : Lib.Utf8Tabs 1 2 w
  shape : w.ShapedOpen Tryz.prog

theorem Tables.kept {w w' : World} (h : Tables w) (hb : Below w.heap.size w w') : Tables w' :=
  ⟨Utf8Tabs_below h.utf hb, h.shape.keptBut (hb.frame (fun _ => False)) (fun _ f => f.elim)⟩

def laidList : List (String × DataW Unit) := [("unicode/utf8.acceptRanges", Rows.laid_unicode_utf8_acceptRanges), ("unicode/utf8.first", Rows.laid_unicode_utf8_first)]
theorem accept_eq : Rows.laid_unicode_utf8_acceptRanges = Lib.acceptData := by kernel_rfl
theorem first_eq : Rows.laid_unicode_utf8_first = Lib.firstData := Pinned.utf8First_eq

theorem tables_of {W : World} (hL : laidMetH Tryz.prog laidList W) (hS : W.ShapedOpen Tryz.prog) : Tables W := by
  refine ⟨utf8Tabs_of_readsT u8types u8extra ?_ ?_, hS⟩
  · have h := Lib.laidMet.reads hL (n := "unicode/utf8.first") (d := Rows.laid_unicode_utf8_first) (.tail _ (.head _))
    rw [first_eq] at h
    exact h
  · have h := Lib.laidMet.reads hL (n := "unicode/utf8.acceptRanges") (d := Rows.laid_unicode_utf8_acceptRanges) (.head _)
    rw [accept_eq] at h
    exact h

/-- THE WITNESS's WORLD -/
noncomputable def laidWorld (os : Os) : World :=
  let w0 := World.holding Tryz.prog os ⟨#[], #[], []⟩
  let put (h : Array Obj) (g : Nat) (cs : Array Value) : Array Obj := h.modify g fun
    | .cells _ t frozen => .cells cs t frozen
    | o => o
  let h1 := put w0.heap 1 (Lib.firstTab.map fun z => Value.int .u8 z).toArray
  let h2 := put h1 2 ((List.range 16).flatMap fun i => [Value.int .u8 (Lib.accLo i), Value.int .u8 (Lib.accHi i)]).toArray
  { w0 with heap := h2 }
theorem laid_met (os : Os) (args : Array Value) : laidMet Tryz.prog laidList ((laidWorld os).forCall (fun _ _ => 0) ⟨#[], args, []⟩).memory := by
  have h : laidMet Tryz.prog [("unicode/utf8.acceptRanges", Lib.acceptData), ("unicode/utf8.first", Lib.firstData)] ((laidWorld os).forCall (fun _ _ => 0) ⟨#[], args, []⟩).memory :=
    (LaidIn.of_run (l := [("unicode/utf8.acceptRanges", Lib.acceptData), ("unicode/utf8.first", Lib.firstData)]) [1, 2] 8 (by kernel_rfl) (by kernel_rfl) (by kernel_rfl) (by kernel_rfl)).met
  unfold laidList
  rw [accept_eq, first_eq]
  exact h
end Go.Proofs.YtafbghlldlconaaGreatDoor

/-
  PLAIN LAWS ON strings.ReplaceAll AND ON ENDS OF LINES: no program in sight.
-/
namespace Go.Proofs.YtafbghlldlconaaGreatDoor.PT
set_option linter.unusedVariables false
set_option linter.unusedSimpArgs false
open Go.Lib (replaceK replaceAll replaceNum replace)

/-- what is left where every instance is replaced -/
def rep (old new s : List UInt8) : List UInt8 := replaceK old new (Lib.count s old) s
theorem replaceAll_rep (s old new : List UInt8) (h : old ≠ new) : replaceAll s old new = rep old new s := by
  unfold replaceAll replace rep replaceNum
  rw [if_neg (by simpa using h), if_pos (Or.inl (by decide))]
theorem rep_nil (old new : List UInt8) (h : old ≠ []) : rep old new [] = [] := by
  unfold rep
  have : Lib.index [] old = -1 := by
    unfold Lib.index
    cases old with
    | nil => exact absurd rfl h
    | cons a l => rfl
  rw [Lib.count_miss this]
  rfl
theorem rep_hit (old new s : List UInt8) (h : old ≠ []) (hp : old.isPrefixOf s = true) : rep old new s = new ++ rep old new (s.drop old.length) := by
  have hi : Lib.index s old = (0 : Nat) := by
    cases s with
    | nil =>
      cases old with
      | nil => exact absurd rfl h
      | cons a l => cases hp
    | cons b l => rw [Lib.index, if_pos hp]; rfl
  unfold rep
  rw [Lib.count_hit h hi, Nat.add_comm 1, Lib.replaceK_hit old new _ s 0 hi]
  simp
theorem rep_miss (old new : List UInt8) (b : UInt8) (l : List UInt8) (h : old ≠ []) (hp : old.isPrefixOf (b :: l) = false) : rep old new (b :: l) = b :: rep old new l := by
  have hx : Lib.index (b :: l) old = if Lib.index l old == -1 then -1 else Lib.index l old + 1 := by
    rw [Lib.index, if_neg (by rw [hp]; simp)]
  unfold rep
  by_cases hm : Lib.index l old = -1
  · rw [hm] at hx
    rw [Lib.count_miss (s := b :: l) hx, Lib.count_miss hm]
    rfl
  · have hge := Lib.index_ge l old
    obtain ⟨i, hi⟩ : ∃ i : Nat, Lib.index l old = i := ⟨(Lib.index l old).toNat, by omega⟩
    have hx' : Lib.index (b :: l) old = (i + 1 : Nat) := by
      rw [hx, hi, if_neg (by simp)]
      rfl
    rw [Lib.count_hit h hx', Lib.count_hit h hi]
    have e : (b :: l).drop (i + 1 + old.length) = l.drop (i + old.length) := by
      rw [show i + 1 + old.length = (i + old.length) + 1 by omega]
      rfl
    rw [e, Nat.add_comm 1, Lib.replaceK_hit old new _ (b :: l) (i + 1) hx', Lib.replaceK_hit old new _ l i hi, e]
    rfl

theorem rep_len (old new : List UInt8) (h : old ≠ []) : ∀ n l, l.length ≤ n → (rep old new l).length ≤ (new.length + 1) * l.length := by
  have ho : 0 < old.length := List.length_pos_iff.2 h
  intro n
  induction n with
  | zero =>
    intro l hl
    obtain rfl : l = [] := List.length_eq_zero_iff.1 (by omega)
    rw [rep_nil _ _ h]; simp
  | succ n ih =>
    intro l hl
    cases l with
    | nil => rw [rep_nil _ _ h]; simp
    | cons b l =>
      simp only [List.length_cons] at hl
      cases hp : old.isPrefixOf (b :: l)
      · rw [rep_miss _ _ _ _ h hp]
        have := ih l (by omega)
        simp only [List.length_cons, Nat.mul_add]
        omega
      · rw [rep_hit _ _ _ h hp]
        have h1 := ih ((b :: l).drop old.length) (by simp only [List.length_drop, List.length_cons]; omega)
        have h2 : (new.length + 1) * ((b :: l).drop old.length).length ≤ (new.length + 1) * l.length := Nat.mul_le_mul_left _ (by simp only [List.length_drop, List.length_cons]; omega)
        simp only [List.length_append, List.length_cons, Nat.mul_add]
        omega
/-- one byte replaced -/
def sub1 (o : UInt8) (new : List UInt8) : List UInt8 → List UInt8
  | [] => []
  | c :: r => if c = o then new ++ sub1 o new r else c :: sub1 o new r
theorem rep_one (o : UInt8) (new l : List UInt8) : rep [o] new l = sub1 o new l := by
  induction l with
  | nil => exact rep_nil _ _ (by simp)
  | cons c r ih =>
    by_cases h : c = o
    · subst h
      rw [rep_hit _ _ _ (by simp) (by simp [List.isPrefixOf]), sub1, if_pos rfl]
      simp [ih]
    · rw [rep_miss _ _ _ _ (by simp) (by simp [List.isPrefixOf]; exact fun e => h e.symm), sub1, if_neg h, ih]
theorem sub1_append (o : UInt8) (new a b : List UInt8) : sub1 o new (a ++ b) = sub1 o new a ++ sub1 o new b := by
  induction a with
  | nil => rfl
  | cons c a ih =>
    simp only [List.cons_append, sub1, ih]
    split <;> simp

def brk (c : UInt8) : Bool := c == 10 || c == 13
/-- a text with each end of a line as another text -/
def ends (w : List UInt8) : List UInt8 → List UInt8
  | c :: d :: r => if c = 13 ∧ d = 10 then w ++ ends w r else (if brk c then w else [c]) ++ ends w (d :: r)
  | c :: r => (if brk c then w else [c]) ++ ends w r
  | [] => []
theorem ends_crlf (w r : List UInt8) : ends w (13 :: 10 :: r) = w ++ ends w r := by rw [ends, if_pos ⟨rfl, rfl⟩]
theorem ends_one (w : List UInt8) (c : UInt8) (r : List UInt8) (h : ¬ (c = 13 ∧ r.head? = some 10)) : ends w (c :: r) = (if brk c then w else [c]) ++ ends w r := by
  cases r with
  | nil => rfl
  | cons d r => rw [ends, if_neg (fun e => h ⟨e.1, by rw [e.2]; rfl⟩)]
/-- every text is told by its lines' ends -/
theorem ends_cases {P : List UInt8 → Prop} (h0 : P []) (h2 : ∀ r, P r → P (13 :: 10 :: r)) (h1 : ∀ c r, ¬ (c = 13 ∧ r.head? = some 10) → P r → P (c :: r)) : ∀ l, P l
  | c :: d :: r => by
    by_cases h : c = 13 ∧ d = 10
    · obtain ⟨rfl, rfl⟩ := h
      exact h2 r (ends_cases h0 h2 h1 r)
    · exact h1 c (d :: r) (fun e => h ⟨e.1, by simpa using e.2⟩) (ends_cases h0 h2 h1 (d :: r))
  | [c] => h1 c [] (by simp) h0
  | [] => h0

theorem pre_crlf (c : UInt8) (r : List UInt8) (h : ¬ (c = 13 ∧ r.head? = some 10)) : [13, 10].isPrefixOf (c :: r) = false := by
  cases r with
  | nil => simp [List.isPrefixOf]
  | cons d r =>
    simp only [List.isPrefixOf]
    simp at h ⊢
    exact fun e e' => h e.symm e'.symm
theorem lines_eq (l : List UInt8) : sub1 13 [10] (rep [13, 10] [10] l) = ends [10] l := by
  induction l using ends_cases with
  | h0 => rw [rep_nil _ _ (by simp)]; rfl
  | h2 r ih =>
    rw [rep_hit _ _ _ (by simp) (by simp [List.isPrefixOf]), sub1_append, ends_crlf]
    exact congrArg _ ih
  | h1 c r h ih =>
    rw [rep_miss _ _ _ _ (by simp) (pre_crlf c r h), ends_one _ _ _ h, sub1, ih]
    by_cases h13 : c = 13
    · subst h13; rfl
    · rw [if_neg h13]
      by_cases h10 : c = 10
      · subst h10; rfl
      · rw [if_neg (by simp [brk, h10, h13])]; rfl
theorem pairs_eq (l : List UInt8) : sub1 10 [13, 10] (ends [10] l) = ends [13, 10] l := by
  induction l using ends_cases with
  | h0 => rfl
  | h2 r ih => rw [ends_crlf, ends_crlf, sub1_append, ih]; rfl
  | h1 c r h ih =>
    rw [ends_one _ _ _ h, ends_one _ _ _ h, sub1_append, ih]
    congr 1
    by_cases hb : brk c = true
    · rw [if_pos hb, if_pos hb]; rfl
    · rw [if_neg hb, if_neg hb]
      have : c ≠ 10 := by rintro rfl; exact hb rfl
      simp [sub1, this]
theorem noBreaks_eq (l : List UInt8) : sub1 10 [] (sub1 13 [] l) = ends [] l := by
  induction l using ends_cases with
  | h0 => rfl
  | h2 r ih => rw [ends_crlf, ← ih]; rfl
  | h1 c r h ih =>
    rw [ends_one _ _ _ h, ← ih, sub1]
    by_cases h13 : c = 13
    · subst h13; rfl
    · rw [if_neg h13, sub1]
      by_cases h10 : c = 10
      · subst h10; rfl
      · rw [if_neg h10, if_neg (by simp [brk, h10, h13])]; rfl

/-- no end of a line stands in it -/
theorem ends_cons_plain (w : List UInt8) (c : UInt8) (r : List UInt8) (h : brk c = false) : ends w (c :: r) = c :: ends w r := by
  rw [ends_one _ _ _ (by rintro ⟨rfl, _⟩; cases h), if_neg (by rw [h]; simp)]
  rfl
theorem ends_cons_lf (w r : List UInt8) : ends w (10 :: r) = w ++ ends w r := by
  rw [ends_one _ _ _ (by simp), if_pos (show brk 10 = true from rfl)]
theorem ends_of_lines (w l : List UInt8) : ends w (ends [10] l) = ends w l := by
  induction l using ends_cases with
  | h0 => rfl
  | h2 r ih => rw [ends_crlf, ends_crlf]; show ends w (10 :: ends [10] r) = _; rw [ends_cons_lf, ih]
  | h1 c r h ih =>
    rw [ends_one _ _ _ h, ends_one _ _ _ h]
    by_cases hb : brk c = true
    · rw [if_pos hb, if_pos hb]; show ends w (10 :: ends [10] r) = _; rw [ends_cons_lf, ih]
    · rw [if_neg hb, if_neg hb]; show ends w (c :: ends [10] r) = _; rw [ends_cons_plain _ _ _ (by simpa using hb), ih]; rfl
theorem ends_of_pairs (w l : List UInt8) : ends w (ends [13, 10] l) = ends w l := by
  induction l using ends_cases with
  | h0 => rfl
  | h2 r ih => rw [ends_crlf, ends_crlf]; show ends w (13 :: 10 :: ends [13, 10] r) = _; rw [ends_crlf, ih]
  | h1 c r h ih =>
    rw [ends_one _ _ _ h, ends_one _ _ _ h]
    by_cases hb : brk c = true
    · rw [if_pos hb, if_pos hb]; show ends w (13 :: 10 :: ends [13, 10] r) = _; rw [ends_crlf, ih]
    · rw [if_neg hb, if_neg hb]; show ends w (c :: ends [13, 10] r) = _; rw [ends_cons_plain _ _ _ (by simpa using hb), ih]; rfl
theorem ends_len (w l : List UInt8) : (ends w l).length ≤ (w.length + 1) * l.length := by
  induction l using ends_cases with
  | h0 => simp [ends]
  | h2 r ih => rw [ends_crlf]; simp only [List.length_append, List.length_cons, Nat.mul_add] at ih ⊢; omega
  | h1 c r h ih =>
    rw [ends_one _ _ _ h]
    simp only [List.length_append, List.length_cons, Nat.mul_add] at ih ⊢
    split <;> simp <;> omega
end Go.Proofs.YtafbghlldlconaaGreatDoor.PT
