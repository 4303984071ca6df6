/-
  The laws EscapeDecodes, EscapeBack: the walks.
-/
import Derived.Test.YtjhddigcdeakcaaRefDecode
import Derived.Test.YtjhddigcdeakcaaDecode
import Derived.Test.YtjhddigcdeakcaaEncode
import Derived.Test.YtjhddigcdeakcaaLong02
namespace Go.Proofs.Ytjhddigcdeakcaa
open Go.RowKit PT

theorem dec_41 : dec [37, 52, 49] = [65] := by decide

set_option maxHeartbeats 1000000 in
theorem escapeDecodes_walk (s : ByteArray) (_hs : s.size ≤ maxLen) (w : World) :
    Calls Try.prog 5 #[.string s] w fun e w' => e = .returned (.bool true) ∧ Below w.heap.size w w' := by
  go_enter Try.func5, Try.ntmps5
  go_wp2_with fail
  refine (decode_any _ _ (by decide)).mono ?_
  rintro e w1 ⟨rfl, hb1⟩
  rw [show dec (ByteArray.mk #[37, 52, 49]).data.toList = _ from dec_41]
  by_cases hl : s.size ≤ 16384
  · go_wp2_with fail
    refine (long02_no _ _ hl).mono ?_
    rintro e w' ⟨rfl, rfl⟩
    go_wp2_with fail
    refine (decode_any s _ (by omega)).mono ?_
    rintro e w2 ⟨rfl, hb2⟩
    go_wp2_with fail
    refine (refDecode_any s _ (by omega)).mono ?_
    rintro e w3 ⟨rfl, hb3⟩
    go_wp2_with fail
    go_ret
    exact ⟨rfl, bs (bs hb1 hb2) hb3⟩
  · go_wp2_with fail
    refine (long02_yes _ _ (by omega)).mono ?_
    rintro e w' ⟨rfl, rfl⟩
    go_wp2
    go_ret
    exact ⟨rfl, hb1⟩

theorem digN_hexU (n : Nat) (h : n < 16) : digN (hexU n) = n := by
  have : ∀ i : Fin 16, digN (hexU i.val) = i.val := by decide
  exact this ⟨n, h⟩
theorem dec_cons_ne (c : UInt8) (h : c ≠ 37) : ∀ r : List UInt8, dec (c :: r) = c :: dec r
  | [] => rfl
  | [_] => rfl
  | a :: b :: r => dec_no c a b r (fun e => h e.1)
theorem dec_encL (z : Int) (l : List UInt8) (h : escB z 37 = true ∨ 37 ∉ l) : dec (encL z l) = l := by
  induction l with
  | nil => rfl
  | cons c r ih =>
    have ih' := ih (h.imp id (fun h e => h (List.mem_cons_of_mem _ e)))
    have hc : c.toNat < 256 := c.toNat_lt
    unfold encL
    cases he : escB z c
    · have hne : c ≠ 37 := by
        rintro rfl
        rcases h with h | h
        · rw [h] at he; cases he
        · exact h (List.mem_cons_self ..)
      show dec (c :: encL z r) = _
      rw [dec_cons_ne c hne, ih']
    · show dec (37 :: hexU (c.toNat / 16) :: hexU (c.toNat % 16) :: encL z r) = _
      rw [dec_yes _ _ _ (by rw [digN_hexU _ (by omega)]; omega) (by rw [digN_hexU _ (by omega)]; omega), digN_hexU _ (by omega), digN_hexU _ (by omega), ih', show c.toNat / 16 * 16 + c.toNat % 16 = c.toNat by omega]
      simp

set_option maxHeartbeats 1000000 in
theorem escapeBack_walk (s : ByteArray) (z : Int) (_hs : s.size ≤ maxLen) (_hz : (Lit.int .i64 z).wf = true) (w : World) :
    Calls Try.prog 7 #[.string s, .int .i64 z] w fun e w' => e = .returned (.bool true) ∧ Below w.heap.size w w' := by
  go_enter Try.func7, Try.ntmps7
  go_wp2_with fail
  refine (decode_any _ _ (by decide)).mono ?_
  rintro e w1 ⟨rfl, hb1⟩
  rw [show dec (ByteArray.mk #[37, 52, 49]).data.toList = _ from dec_41]
  by_cases hl : s.size ≤ 16384
  · go_wp2_with fail
    refine (long02_no _ _ hl).mono ?_
    rintro e w' ⟨rfl, rfl⟩
    by_cases hz : z < 0 ∨ 7 < z
    · go_wp2_with fail
      refine (encode_out s z _ hz).mono ?_
      rintro e w' ⟨rfl, rfl⟩
      go_wp2_with fail
      go_ret
      exact ⟨rfl, hb1⟩
    · have hlen := encL_len z s.data.toList
      rw [size_list] at hlen
      go_wp2_with fail
      refine (encode_any s z _ (by omega) hz).mono ?_
      rintro e w2 ⟨rfl, hb2⟩
      have e37 : 6 ≤ z → escB z 37 = true := by
        intro h6
        obtain rfl | rfl : z = 6 ∨ z = 7 := by omega
        · decide
        · decide
      by_cases h6 : z < 6
      · go_wp2_with fail
        refine (refIn_any 37 s _ (by omega)).mono ?_
        rintro e w' ⟨rfl, rfl⟩
        by_cases hm : (37 : UInt8) ∈ s.data.toList
        · rw [inB_yes hm]
          go_wp2_with fail
          go_ret
          exact ⟨rfl, bs hb1 hb2⟩
        · rw [inB_no hm]
          go_wp2_with fail
          refine (decode_any _ _ (by rw [size_mk]; omega)).mono ?_
          rintro e w3 ⟨rfl, hb3⟩
          rw [show dec (ByteArray.mk (encL z s.data.toList).toArray).data.toList = s.data.toList from dec_encL z _ (Or.inr hm), mk_list]
          go_wp2_with fail
          go_ret
          exact ⟨rfl, bs (bs hb1 hb2) hb3⟩
      · go_wp2_with fail
        refine (decode_any _ _ (by rw [size_mk]; omega)).mono ?_
        rintro e w3 ⟨rfl, hb3⟩
        rw [show dec (ByteArray.mk (encL z s.data.toList).toArray).data.toList = s.data.toList from dec_encL z _ (Or.inl (e37 (by omega))), mk_list]
        go_wp2_with fail
        go_ret
        exact ⟨rfl, bs (bs hb1 hb2) hb3⟩
  · go_wp2_with fail
    refine (long02_yes _ _ (by omega)).mono ?_
    rintro e w' ⟨rfl, rfl⟩
    go_wp2
    go_ret
    exact ⟨rfl, hb1⟩
end Go.Proofs.Ytjhddigcdeakcaa
