/-
  A part read by the document: ref20.begins, quoted, read: the walks.
-/
import Derived.Test.YtapbljaohhcpoaaDoorReader
namespace Go.Proofs.YtapbljaohhcpoaaDoor
set_option linter.unusedVariables false
set_option linter.unusedSimpArgs false
open Go.RowKit PT

set_option maxHeartbeats 1000000 in
set_option maxRecDepth 100000 in
theorem begins_any (s t : ByteArray) (k : Nat) (hs : s.size ≤ 1000000000) (ht : t.size ≤ 1000000000) (hk : k ≤ s.size) (w : World) :
    Calls Tryd.prog 52 #[.string s, .int .i64 k, .string t] w fun e w' => e = .returned (.bool (t.data.toList.isPrefixOf (s.data.toList.drop k))) ∧ w = w' := by
  go_enter Tryd.func52, Tryd.ntmps52
  by_cases hle : k + t.size ≤ s.size
  · have h1 : (t.size : Int) ≤ (s.size : Int) - (k : Int) := by omega
    have hp := Lib.hid (pre_at s t k hle)
    by_cases he : s.extract k (k + t.size) = t
    · have hR := Lib.hid (show t.data.toList.isPrefixOf (s.data.toList.drop k) = true by rw [hp.out]; exact decide_eq_true he)
      have hc := cut_eq s t k (k + t.size) he
      have hc2 : ((s.extract k (k + t.size)).toList == t.toList) = true := by rw [ByteArray.toList_eq t]; exact hc
      clear he hc
      go_wp2_with fail
      go_ret
      exact ⟨ret_bool hR.out.symm, rfl⟩
    · have hR := Lib.hid (show t.data.toList.isPrefixOf (s.data.toList.drop k) = false by rw [hp.out]; exact decide_eq_false he)
      have hc := cut_ne s t k (k + t.size) he
      have hc2 : ((s.extract k (k + t.size)).toList == t.toList) = false := by rw [ByteArray.toList_eq t]; exact hc
      clear he hc
      go_wp2_with fail
      go_ret
      exact ⟨ret_bool hR.out.symm, rfl⟩
  · have h1 : decide ((t.size : Int) ≤ (s.size : Int) - (k : Int)) = false := by simp; omega
    have hR := Lib.hid (show t.data.toList.isPrefixOf (s.data.toList.drop k) = false by
      rw [Bool.eq_false_iff]
      intro h
      have := (List.isPrefixOf_iff_prefix.1 h).length_le
      rw [List.length_drop, size_list, size_list] at this
      omega)
    go_wp2_with fail
    go_ret
    exact ⟨ret_bool hR.out.symm, rfl⟩
/-- what is told of what is in quotes, at a place in a text of n bytes -/
def qtV (n : Nat) : Option (List UInt8 × List UInt8) → Value
  | none => .tuple #[.string ⟨#[]⟩, .int .i64 (-1)]
  | some (p, r) => .tuple #[.string ⟨(unn p).toArray⟩, .int .i64 ((n - r.length : Nat) : Int)]
theorem qtd_lens : ∀ (l p r : List UInt8), qtd l = some (p, r) → l = p ++ 34 :: r
  | [], _, _, h => by simp [qtd] at h
  | c :: l, p, r, h => by
    unfold qtd at h
    split at h
    · cases h
    · split at h
      · rename_i hc; cases h; rw [hc]; rfl
      · cases hq : qtd l with
        | none => rw [hq] at h; cases h
        | some x =>
          obtain ⟨p', r'⟩ := x
          rw [hq] at h
          cases h
          rw [qtd_lens l p' r' hq]
          rfl
set_option maxHeartbeats 2000000 in
set_option maxRecDepth 100000 in
theorem refQuoted_any (s : ByteArray) (k : Nat) (hs : s.size ≤ 9000000) (hk : k ≤ s.size) (w : World) :
    Calls Tryd.prog 72 #[.string s, .int .i64 k] w fun e w' => e = .returned (qtV s.size (qtd (s.data.toList.drop k))) ∧ Below w.heap.size w w' := by
  go_enter Tryd.func72, Tryd.ntmps72
  go_wp2_with fail
  go_loopw [6] (fun i wr => ∃ j : Nat, k ≤ j ∧ j ≤ s.size ∧ i = .int .i64 j ∧ Hid (qtd (s.data.toList.drop k) = (qtd (s.data.toList.drop j)).map (fun p => ((s.data.toList.drop k).take (j - k) ++ p.1, p.2))) ∧ Below w.heap.size w wr) (fun i _ => s.size - (intOf i).toNat)
  case atStart => exact ⟨k, Nat.le_refl _, hk, rfl, Lib.hid (by simp), Below.refl _ _⟩
  case round =>
    obtain ⟨j, hkj, hj, rfl, hQ, hbel⟩ := hrel
    by_cases hlt : j < s.size
    · have hdr := Lib.hid (drop_cons' s j hlt)
      by_cases h10 : s[j] = 10
      · have hR := Lib.hid (show qtd (s.data.toList.drop k) = none by rw [hQ.out, hdr.out, qtd, if_pos (.inl h10)]; rfl)
        have hc : ((s[j].toNat : Int) != 10) = false := byteNe_yes h10
        clear h10
        go_wp2_with fail
        go_ret2
        exact ⟨by rw [hR.out]; rfl, hbel⟩
      · by_cases h13 : s[j] = 13
        · have hR := Lib.hid (show qtd (s.data.toList.drop k) = none by rw [hQ.out, hdr.out, qtd, if_pos (.inr h13)]; rfl)
          have hc : ((s[j].toNat : Int) != 10) = true := byteNe_no h10
          have hc2 : ((s[j].toNat : Int) != 13) = false := byteNe_yes h13
          clear h10 h13
          go_wp2_with fail
          go_ret2
          exact ⟨by rw [hR.out]; rfl, hbel⟩
        · have hn := Lib.hid (show ¬ (s[j] = 10 ∨ s[j] = 13) from fun h => h.elim h10 h13)
          have hc : ((s[j].toNat : Int) != 10) = true := byteNe_no h10
          have hc2 : ((s[j].toNat : Int) != 13) = true := byteNe_no h13
          clear h10 h13
          by_cases h34 : s[j] = 34
          · have hR := Lib.hid (show qtd (s.data.toList.drop k) = some ((s.data.toList.drop k).take (j - k), s.data.toList.drop (j + 1)) by
              rw [hQ.out, hdr.out, qtd, if_neg hn.out, if_pos h34]; simp)
            have hc3 : ((s[j].toNat : Int) == 34) = true := byteEq_yes h34
            have hkj' : (k : Int) ≤ (j : Int) := by omega
            have hjs' : (j : Int) ≤ (s.size : Int) := by omega
            have hx := Lib.hid (Lib.extract_data s k j)
            have hxs : (s.extract k j).size ≤ 9000000 := by rw [ByteArray.size_extract]; omega
            clear h34
            go_wp2_with fail
            refine (refUnname_any (s.extract k j) hxs _).mono ?_
            rintro e w2 ⟨rfl, hb2⟩
            go_wp2_with fail
            go_ret2
            refine ⟨?_, bs hbel hb2⟩
            rw [hR.out]
            simp only [qtV]
            rw [List.length_drop, size_list, show s.size - (s.size - (j + 1)) = j + 1 by omega]
            rfl
          · have hN := Lib.hid (show qtd (s.data.toList.drop k) = (qtd (s.data.toList.drop (j + 1))).map (fun p => ((s.data.toList.drop k).take (j + 1 - k) ++ p.1, p.2)) by
              rw [hQ.out, hdr.out, qtd, if_neg hn.out, if_neg h34, Option.map_map]
              congr 1
              funext p
              simp only [Function.comp]
              rw [← cut_snoc s k j hkj hlt]
              simp)
            have hc3 : ((s[j].toNat : Int) == 34) = false := byteEq_no h34
            clear h34
            go_wp2_with fail
            go_roundw
            case rel => exact ⟨j + 1, by omega, by omega, by go_num, hN, hbel⟩
            case measure => simp [intOf]; omega
    · obtain rfl : j = s.size := by omega
      have hR := Lib.hid (show qtd (s.data.toList.drop k) = none by
        have hd : s.data.toList.drop s.size = [] := List.drop_eq_nil_of_le (by rw [size_list]; exact Nat.le_refl _)
        rw [hQ.out, hd]; rfl)
      go_wp2_with fail
      go_ret2
      exact ⟨by rw [hR.out]; rfl, hbel⟩
end Go.Proofs.YtapbljaohhcpoaaDoor
