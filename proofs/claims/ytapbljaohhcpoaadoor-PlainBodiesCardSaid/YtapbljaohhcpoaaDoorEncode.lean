/-
  escape.put, escape.Encode: the walks.
-/
import Derived.Test.YtapbljaohhcpoaaDoorBuilder
import Derived.Test.YtapbljaohhcpoaaDoorEscapes
namespace Go.Proofs.YtapbljaohhcpoaaDoor
set_option linter.unusedVariables false
set_option linter.unusedSimpArgs false
open Go.RowKit PT

def digArr : Array Value := #[.int .u8 48, .int .u8 49, .int .u8 50, .int .u8 51, .int .u8 52, .int .u8 53, .int .u8 54, .int .u8 55, .int .u8 56, .int .u8 57, .int .u8 65, .int .u8 66, .int .u8 67, .int .u8 68, .int .u8 69, .int .u8 70]
theorem digArr_at (j : Nat) (h : j < 16) : digArr[j]? = some (.int .u8 (hexU j).toNat) := by
  obtain rfl | rfl | rfl | rfl | rfl | rfl | rfl | rfl | rfl | rfl | rfl | rfl | rfl | rfl | rfl | rfl : j = 0 ∨ j = 1 ∨ j = 2 ∨ j = 3 ∨ j = 4 ∨ j = 5 ∨ j = 6 ∨ j = 7 ∨ j = 8 ∨ j = 9 ∨ j = 10 ∨ j = 11 ∨ j = 12 ∨ j = 13 ∨ j = 14 ∨ j = 15 := by omega
  all_goals rfl
theorem dig_cell {w : World} {d : Nat} (h : w.heap[d]? = some (.cells digArr 108 (0, 0))) (j : Nat) (hj : j < 16) : w.cell? ⟨d, j, none⟩ = some (.int .u8 (hexU j).toNat) := by
  rw [Lib.cell_of_heap h]; exact digArr_at j hj

set_option maxHeartbeats 1000000 in
set_option maxRecDepth 100000 in
theorem put_any (B b : Nat) (l : List UInt8) (c : UInt8) (w : World) (h : SB B b l w) (hlen : l.length < 1000000) (hBw : B ≤ w.heap.size) :
    Calls Tryd.prog 91 #[.pointer (some ⟨b, 0, none⟩), .int .u8 c.toNat] w fun e w' => e = .returned (.tuple #[]) ∧ SB B b (l ++ [37, hexU (c.toNat / 16), hexU (c.toNat % 16)]) w' ∧ SK B b w w' := by
  have hlt := h.lt
  have hcb : c.toNat < 256 := c.toNat_lt
  have hd0 : (w.alloc (.cells digArr 108)).heap[w.heap.size]? = some (.cells digArr 108 (0, 0)) := heap_alloc_new w _
  have hk0 := (SK.refl B b w).alloc hBw (.cells digArr 108)
  have hs0 := h.alloc (.cells digArr 108)
  have hz0 : (w.alloc (.cells digArr 108)).heap.size = w.heap.size + 1 := by simp
  go_enter Tryd.func91, Tryd.ntmps91
  go_wp2_with fail
  refine (writeByte_any B b l 37 rfl (w.alloc (.cells digArr 108)) hs0 (by omega) (by omega)).mono ?_
  rintro e w1 ⟨rfl, hs1, hk1⟩
  have hd1 := hk1.2 _ _ hd0 (by simp; omega) (by simp)
  have hc1 := dig_cell hd1 (c.toNat / 16) (by omega)
  have hq : (0 : Int) ≤ (c.toNat : Int) / 16 ∧ (c.toNat : Int) / 16 < 16 := by omega
  go_wp2_with fail
  refine (writeByte_any B b _ (hexU (c.toNat / 16)) rfl _ hs1 (by simp; omega) (by have := hk1.1.size; omega)).mono ?_
  rintro e w2 ⟨rfl, hs2, hk2⟩
  have hd2 := hk2.2 _ _ hd1 (by simp; omega) (by simp)
  have hc2 := dig_cell hd2 (c.toNat % 16) (by omega)
  have hq2 : (0 : Int) ≤ (c.toNat : Int) % 16 ∧ (c.toNat : Int) % 16 < 16 := by omega
  go_wp2_with fail
  have hz2 := hk1.1.size
  refine (writeByte_any B b _ (hexU (c.toNat % 16)) rfl _ hs2 (by simp; omega) (by have := hk2.1.size; omega)).mono ?_
  rintro e w3 ⟨rfl, hs3, hk3⟩
  go_wp2_with fail
  go_end0
  exact ⟨rfl, by simpa using hs3, ((hk0.trans hk1).trans hk2).trans hk3⟩

theorem encode_out (s : ByteArray) (z : Int) (w : World) (h : z < 0 ∨ 7 < z) :
    Calls Tryd.prog 77 #[.string s, .int .i64 z] w fun e w' => e = .returned (.tuple #[.string ⟨#[]⟩, .int .i64 3]) ∧ w = w' := by
  rcases h with h | h
  · go_enter Tryd.func77, Tryd.ntmps77
    go_wp2_with fail
    go_ret2
    exact ⟨rfl, rfl⟩
  · have h0 : (0 : Int) ≤ z := by omega
    go_enter Tryd.func77, Tryd.ntmps77
    go_wp2_with fail
    go_ret2
    exact ⟨rfl, rfl⟩

set_option maxHeartbeats 1000000 in
set_option maxRecDepth 100000 in
theorem encode_any (s : ByteArray) (z : Int) (w : World) (hs : s.size ≤ 200000) (h : ¬ (z < 0 ∨ 7 < z)) :
    Calls Tryd.prog 77 #[.string s, .int .i64 z] w fun e w' => e = .returned (.tuple #[.string ⟨(encL z s.data.toList).toArray⟩, .int .i64 0]) ∧ Below w.heap.size w w' := by
  have h0 : (0 : Int) ≤ z := by omega
  have h7 : z ≤ (7 : Int) := by omega
  clear h
  go_enter Tryd.func77, Tryd.ntmps77
  go_wp2_with fail
  go_loopw [16] (fun i wr => ∃ k : Nat, k ≤ s.size ∧ i = .int .i64 k ∧ SB w.heap.size w.heap.size (encL z (s.data.toList.take k)) wr ∧ Below w.heap.size w wr) (fun i _ => s.size - (intOf i).toNat)
  case atStart => exact ⟨0, Nat.zero_le _, rfl, SB.fresh w, (Below.refl _ _).alloc (Nat.le_refl _) _⟩
  case round =>
    obtain ⟨k, hk, rfl, hsb, hbel⟩ := hrel
    have hl := encL_len z (s.data.toList.take k)
    have hl2 : (s.data.toList.take k).length ≤ s.size := by simp; omega
    have hsz := hbel.size
    by_cases hlt : k < s.size
    · go_wp2_with fail
      refine (escapes_any z s[k] _).mono ?_
      rintro e w' ⟨rfl, rfl⟩
      cases he : escB z s[k]
      · have hT := Lib.hid (encL_snoc_no z s k hlt he)
        go_wp2_with fail
        refine (writeByte_any w.heap.size w.heap.size _ s[k] rfl _ hsb (by omega) hsz).mono ?_
        rintro e w1 ⟨rfl, hs1, hk1⟩
        go_wp2_with fail
        go_roundw
        case rel => exact ⟨k + 1, by omega, by go_num, by rw [hT.out]; exact hs1, hbel.trans hk1.1⟩
        case measure => simp [intOf]; omega
      · have hT := Lib.hid (encL_snoc_yes z s k hlt he)
        go_wp2_with fail
        refine (put_any w.heap.size w.heap.size _ s[k] _ hsb (by omega) hsz).mono ?_
        rintro e w1 ⟨rfl, hs1, hk1⟩
        go_wp2_with fail
        go_roundw
        case rel => exact ⟨k + 1, by omega, by go_num, by rw [hT.out]; exact hs1, hbel.trans hk1.1⟩
        case measure => simp [intOf]; omega
    · obtain rfl : k = s.size := by omega
      have HT := Lib.hid (List.take_of_length_le (show s.data.toList.length ≤ s.size by simp))
      go_wp2_with fail
      refine (string_any w.heap.size w.heap.size _ _ hsb hsz).mono ?_
      rintro e w1 ⟨rfl, hs1, hk1⟩
      rw [HT.out]
      go_wp2_with fail
      go_ret2
      exact ⟨rfl, hbel.trans hk1.1⟩
end Go.Proofs.YtapbljaohhcpoaaDoor
