/-
  The law SubmitQueries: the walk.
-/
import Derived.Test.YtiflaniobnjlpaaQuery24
namespace Go.Proofs.Ytiflaniobnjlpaa
open Go.RowKit PT

theorem qry_len (a q : List UInt8) : (qry a q).length ≤ a.length + q.length + 1 := by
  have h1 := upTo_len 63 (upTo 35 a)
  have h2 := upTo_len 35 a
  unfold qry
  simp only [List.length_append, List.length_cons, List.length_drop]
  omega
theorem qry_abc : qry [47, 97, 63, 98, 35, 99] [100, 61, 49] = [47, 97, 63, 100, 61, 49, 35, 99] := by decide

theorem wakes24_any (w : World) :
    Calls Try.prog 4 #[] w fun e w' => e = .returned (.bool true) ∧ Below w.heap.size w w' := by
  go_enter Try.func4, Try.ntmps4
  go_wp2_with fail
  refine (query_any _ _ (by decide) (by decide) _).mono ?_
  rintro e w1 ⟨rfl, hb1⟩
  rw [show qry (ByteArray.mk #[47, 97, 63, 98, 35, 99]).data.toList (ByteArray.mk #[100, 61, 49]).data.toList = _ from qry_abc]
  go_wp2_with fail
  go_ret
  exact ⟨rfl, hb1⟩

set_option maxHeartbeats 1000000 in
theorem submitQueries_walk (a q : ByteArray) (_ha : a.size ≤ maxLen) (_hq : q.size ≤ maxLen) (w : World) (_hS : w.ShapedOpen Try.prog) (ra : a.size ≤ 140737488351232) (rq : q.size ≤ 140737488351232) :
    Calls Try.prog 3 #[.string a, .string q] w fun e w' => e = .returned (.bool true) ∧ Below w.heap.size w w' := by
  go_enter Try.func3, Try.ntmps3
  go_wp2_with fail
  refine (wakes24_any _).mono ?_
  rintro e w1 ⟨rfl, hb1⟩
  go_wp2_with fail
  refine (query_any a q (by omega) (by omega) _).mono ?_
  rintro e w2 ⟨rfl, hb2⟩
  go_wp2_with fail
  refine (refQuery_any a q (by omega) (by omega) _).mono ?_
  rintro e w3 ⟨rfl, hb3⟩
  have hbel : Below w.heap.size w w3 := bs (bs hb1 hb2) hb3
  have hlen := qry_len a.data.toList q.data.toList
  rw [size_list, size_list] at hlen
  have hAg := Lib.hid (fun h => qry_again a.data.toList q.data.toList h)
  generalize qry a.data.toList q.data.toList = r at *
  go_wp2_with fail
  go_loop [19] (fun i => ∃ k : Nat, k ≤ q.size ∧ i = .int .i64 k ∧ Hid ((35 : UInt8) ∉ q.data.toList.take k)) (fun i => q.size - (intOf i).toNat)
  case atStart => exact ⟨0, Nat.zero_le _, rfl, Lib.hid (by simp)⟩
  case round =>
    obtain ⟨k, hk, rfl, hN⟩ := hrel
    by_cases hlt : k < q.size
    · have hlt' : (k : Int) < (q.size : Int) := by omega
      by_cases hc : q[k] = 35
      · have E : ((q[k].toNat : Int) == 35) = true := by rw [hc]; rfl
        go_wp2_with fail
        go_ret
        exact ⟨rfl, hbel⟩
      · have hN' := Lib.hid (show (35 : UInt8) ∉ q.data.toList.take (k + 1) by
          rw [take_snoc q k hlt]
          intro m
          rcases List.mem_append.1 m with e | e
          · exact hN.out e
          · exact hc (List.mem_singleton.1 e).symm)
        have E : ((q[k].toNat : Int) == 35) = false := by
          simp only [beq_eq_false_iff_ne, ne_eq]
          intro e
          exact hc (UInt8.toNat_inj.1 (by have : (35 : UInt8).toNat = 35 := rfl; omega))
        go_wp2_with fail
        go_round
        case rel => exact ⟨k + 1, by omega, by go_num, hN'⟩
        case measure => simp [intOf]; omega
    · have hz : k = q.size := by omega
      have hA := Lib.hid (hAg.out (by have := hN.out; rw [List.take_of_length_le (by rw [size_list]; omega)] at this; exact this))
      have hlt' : decide ((k : Int) < (q.size : Int)) = false := by simp; omega
      go_wp2_with fail
      refine (query_any _ q (by rw [size_mk]; omega) (by omega) _).mono ?_
      rintro e w4 ⟨rfl, hb4⟩
      rw [show qry (ByteArray.mk r.toArray).data.toList q.data.toList = r from hA.out]
      go_wp2_with fail
      go_ret
      exact ⟨rfl, bs hbel hb4⟩
end Go.Proofs.Ytiflaniobnjlpaa
