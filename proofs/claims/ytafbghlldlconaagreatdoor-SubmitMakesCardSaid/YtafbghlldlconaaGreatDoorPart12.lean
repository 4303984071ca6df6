import Derived.Test.YtafbghlldlconaaGreatDoorPart2
import Derived.Test.YtafbghlldlconaaGreatDoorShelf
import Derived.Test.YtafbghlldlconaaGreatDoorPart1
import Derived.Test.YtafbghlldlconaaGreatDoorPart11
/-
  strings.IndexByte: found, or not.
-/
namespace Go.Proofs.YtafbghlldlconaaGreatDoor
set_option linter.unusedVariables false
set_option linter.unusedSimpArgs false
open Go.RowKit PT

theorem ib_no (s : ByteArray) (c : UInt8) (w : World) (h : c ∉ s.data.toList) :
    Calls Tryz.prog 162 #[.string s, .int .u8 c.toNat] w fun e w' => e = .returned (.int .i64 (-1)) ∧ w = w' :=
  (Tryz.strings_IndexByte s c.toNat w).mono fun e w' ⟨he, hw⟩ => ⟨by rw [he, show ((c.toNat : Int).toNat).toUInt8 = c by simp, indexByte_no h], hw.symm⟩
def SomeNat (n : Nat) (w : World) (e : Ending) (w' : World) : Prop := ∃ z : Nat, z < n ∧ e = .returned (.int .i64 z) ∧ w = w'
theorem ib_yes (s : ByteArray) (c : UInt8) (w : World) (h : c ∈ s.data.toList) :
    Calls Tryz.prog 162 #[.string s, .int .u8 c.toNat] w (SomeNat s.size w) :=
  (Tryz.strings_IndexByte s c.toNat w).mono fun e w' ⟨he, hw⟩ => by
    obtain ⟨z, hz, hl⟩ := indexByte_yes h
    exact ⟨z, by simpa using hl, by rw [he, show ((c.toNat : Int).toNat).toUInt8 = c by simp, hz], hw.symm⟩

end Go.Proofs.YtafbghlldlconaaGreatDoor

/-
  ref02.Plain, ref02.In: the walks.
-/
namespace Go.Proofs.YtafbghlldlconaaGreatDoor
set_option linter.unusedVariables false
set_option linter.unusedSimpArgs false
open Go.RowKit PT

theorem refPlain_any (c : UInt8) (w : World) :
    Calls Tryz.prog 153 #[.int .u8 c.toNat] w fun e w' => e = .returned (.bool (letterB c)) ∧ w = w' := by
  go_enter Tryz.func153, Tryz.ntmps153
  go_wp2
  all_goals
    go_ret
    exact ⟨ret_bool (by rw [Bool.eq_iff_iff]; simp [letterB]; omega), rfl⟩

theorem inText (s : ByteArray) (k : Nat) (h : k < s.size) : s[k] ∈ s.data.toList := by
  have : s[k] = s.data.toList[k]'(by simpa using h) := rfl
  rw [this]
  exact List.getElem_mem _
set_option maxHeartbeats 400000 in
set_option maxRecDepth 100000 in
theorem refIn_any (c : UInt8) (s : ByteArray) (w : World) (hs : s.size ≤ 4294967296) :
    Calls Tryz.prog 173 #[.int .u8 c.toNat, .string s] w fun e w' => e = .returned (.bool (inB c s.data.toList)) ∧ w = w' := by
  go_enter Tryz.func173, Tryz.ntmps173
  go_wp2
  go_loop [5] (fun i => ∃ k : Nat, k ≤ s.size ∧ i = .int .i64 k ∧ c ∉ s.data.toList.take k) (fun i => s.size - (intOf i).toNat)
  case atStart => exact ⟨0, Nat.zero_le _, rfl, by simp⟩
  case round =>
    obtain ⟨k, hk, rfl, hno⟩ := hrel
    have Hno := Lib.hid hno
    clear hno
    by_cases hlt : k < s.size
    · have hT := Lib.hid (take_snoc s k hlt)
      have hin := Lib.hid (inText s k hlt)
      by_cases e : s[k] = c
      · have e' := byteEq_yes e
        have E := Lib.hid e
        clear e
        go_wp2
        go_ret
        exact ⟨ret_bool (by rw [← E.out]; exact (inB_yes hin.out).symm), rfl⟩
      · have e' := byteEq_no e
        have E := Lib.hid e
        clear e
        go_wp2
        go_round
        case rel => exact ⟨k + 1, by omega, by go_num, by rw [hT.out, List.mem_append, List.mem_singleton]; intro h; exact h.elim Hno.out fun h => E.out h.symm⟩
        case measure => simp [intOf]; omega
    · go_wp2
      go_ret
      have := Hno.out
      rw [List.take_of_length_le (by simp; omega)] at this
      exact ⟨ret_bool (inB_no this).symm, rfl⟩

end Go.Proofs.YtafbghlldlconaaGreatDoor

/-
  escape.Escapes and ref02.Escapes, with what they call: pure functions on a set and a byte.
-/
namespace Go.Proofs.YtafbghlldlconaaGreatDoor
set_option linter.unusedVariables false
set_option linter.unusedSimpArgs false
open Go.RowKit PT

def moreArr : Value := .agg #[.string ⟨#[]⟩, .string ⟨#[32, 34, 60, 62, 96]⟩, .string ⟨#[32, 34, 35, 60, 62]⟩, .string ⟨#[39]⟩, .string ⟨#[63, 94, 123, 125, 96]⟩, .string ⟨#[47, 58, 59, 61, 64, 91, 92, 93, 124]⟩, .string ⟨#[36, 37, 38, 43, 44]⟩]
theorem more_idx (k : Nat) (hk : k ≤ 6) (w : World) : (Instr.index 168 moreArr (.int .i64 k)).run Tryz.prog w = .ok (.string ⟨(moreL k).toArray⟩) w := by
  obtain rfl | rfl | rfl | rfl | rfl | rfl | rfl : k = 0 ∨ k = 1 ∨ k = 2 ∨ k = 3 ∨ k = 4 ∨ k = 5 ∨ k = 6 := by omega
  all_goals kernel_rfl
theorem more_any (k : Nat) (hk : k ≤ 6) (w : World) :
    Calls Tryz.prog 164 #[.int .i64 k] w fun e w' => e = .returned (.string ⟨(moreL k).toArray⟩) ∧ w = w' := by
  have hi := more_idx k hk w
  unfold moreArr at hi
  go_enter Tryz.func164, Tryz.ntmps164
  go_wp2
  go_ret
  exact ⟨rfl, rfl⟩
def aheadArr : Value := .agg #[.int .i64 0, .int .i64 0, .int .i64 0, .int .i64 2, .int .i64 2, .int .i64 4, .int .i64 5]
theorem ahead_idx (k : Nat) (hk : k ≤ 6) (w : World) : (Instr.index 167 aheadArr (.int .i64 k)).run Tryz.prog w = .ok (.int .i64 (aheadN k)) w := by
  obtain rfl | rfl | rfl | rfl | rfl | rfl | rfl : k = 0 ∨ k = 1 ∨ k = 2 ∨ k = 3 ∨ k = 4 ∨ k = 5 ∨ k = 6 := by omega
  all_goals kernel_rfl
theorem ahead_any (k : Nat) (hk : k ≤ 6) (w : World) :
    Calls Tryz.prog 163 #[.int .i64 k] w fun e w' => e = .returned (.int .i64 (aheadN k)) ∧ w = w' := by
  have hi := ahead_idx k hk w
  unfold aheadArr at hi
  go_enter Tryz.func163, Tryz.ntmps163
  go_wp2
  go_ret
  exact ⟨rfl, rfl⟩

theorem letter_any (c : UInt8) (w : World) :
    Calls Tryz.prog 161 #[.int .u8 c.toNat] w fun e w' => e = .returned (.bool (letterB c)) ∧ w = w' := by
  go_enter Tryz.func161, Tryz.ntmps161
  go_wp2
  all_goals
    go_ret
    exact ⟨ret_bool (by rw [Bool.eq_iff_iff]; simp [letterB]; omega), rfl⟩
theorem escapes_out (z : Int) (c : UInt8) (w : World) (h : z < 0 ∨ 7 < z) :
    Calls Tryz.prog 131 #[.int .i64 z, .int .u8 c.toNat] w fun e w' => e = .returned (.bool false) ∧ w = w' := by
  rcases h with h | h
  · go_enter Tryz.func131, Tryz.ntmps131
    go_wp2_with fail
    go_ret
    exact ⟨rfl, rfl⟩
  · have h0 : (0 : Int) ≤ z := by omega
    go_enter Tryz.func131, Tryz.ntmps131
    go_wp2_with fail
    go_ret
    exact ⟨rfl, rfl⟩
theorem escapes_7 (c : UInt8) (w : World) :
    Calls Tryz.prog 131 #[.int .i64 7, .int .u8 c.toNat] w fun e w' => e = .returned (.bool (!letterB c && !inB c plain7)) ∧ w = w' := by
  go_enter Tryz.func131, Tryz.ntmps131
  go_wp2_with fail
  refine (letter_any _ _).mono ?_
  rintro e w' ⟨rfl, rfl⟩
  cases hl : letterB c
  · by_cases hp : c ∈ plain7
    · go_wp2_with fail
      refine (ib_yes ⟨plain7.toArray⟩ c _ hp).mono ?_
      rintro e w' ⟨z, _, rfl, rfl⟩
      have hz : decide ((z : Int) < 0) = false := by simp
      go_wp2
      go_ret
      exact ⟨ret_bool (by simp [inB_yes hp]), rfl⟩
    · go_wp2_with fail
      refine (ib_no ⟨plain7.toArray⟩ c _ hp).mono ?_
      rintro e w' ⟨rfl, rfl⟩
      go_wp2
      go_ret
      exact ⟨ret_bool (by simp [inB_no hp, hl]), rfl⟩
  · go_wp2
    go_ret
    exact ⟨ret_bool (by simp [hl]), rfl⟩
theorem escapes_far (k : Nat) (c : UInt8) (w : World) (hk : k ≤ 6) (h : c.toNat < 32 ∨ 126 < c.toNat) :
    Calls Tryz.prog 131 #[.int .i64 k, .int .u8 c.toNat] w fun e w' => e = .returned (.bool true) ∧ w = w' := by
  have h7 : ((k : Int) == 7) = false := by rw [beq_eq_false_iff_ne]; omega
  rcases h with h | h
  · have h1 : (c.toNat : Int) < 32 := by omega
    go_enter Tryz.func131, Tryz.ntmps131
    go_wp2_with fail
    go_ret
    exact ⟨rfl, rfl⟩
  · have h1 : (126 : Int) < (c.toNat : Int) := by omega
    have h2 : (32 : Int) ≤ (c.toNat : Int) := by omega
    go_enter Tryz.func131, Tryz.ntmps131
    go_wp2_with fail
    go_ret
    exact ⟨rfl, rfl⟩
set_option maxHeartbeats 400000 in
set_option maxRecDepth 100000 in
theorem escapes_near (k : Nat) (c : UInt8) (w : World) (hk : k ≤ 6) (h : ¬ (c.toNat < 32 ∨ 126 < c.toNat)) :
    Calls Tryz.prog 131 #[.int .i64 k, .int .u8 c.toNat] w fun e w' => e = .returned (.bool (inB c (escL k))) ∧ w = w' := by
  have h7 : ((k : Int) == 7) = false := by rw [beq_eq_false_iff_ne]; omega
  have h1 : (c.toNat : Int) ≤ 126 := by omega
  have h2 : (32 : Int) ≤ (c.toNat : Int) := by omega
  clear h
  go_enter Tryz.func131, Tryz.ntmps131
  go_wp2_with fail
  go_loop [0] (fun i => ∃ q : Nat, q ≤ 6 ∧ i = .int .i64 q ∧ Hid (inB c (escL k) = inB c (escL q))) (fun i => (intOf i).toNat)
  case atStart => exact ⟨k, hk, rfl, rfl⟩
  case round =>
    obtain ⟨q, hq, rfl, hH⟩ := hrel
    clear h7
    by_cases h0 : 0 < q
    · by_cases hm : c ∈ moreL q
      · go_wp2_with fail
        refine (more_any q hq _).mono ?_
        rintro e w' ⟨rfl, rfl⟩
        go_wp2_with fail
        refine (ib_yes ⟨(moreL q).toArray⟩ c _ hm).mono ?_
        rintro e w' ⟨z, _, rfl, rfl⟩
        go_wp2
        go_ret
        exact ⟨ret_bool (by rw [hH.out, inB_here q h0 hq c hm]), rfl⟩
      · go_wp2_with fail
        refine (more_any q hq _).mono ?_
        rintro e w' ⟨rfl, rfl⟩
        go_wp2_with fail
        refine (ib_no ⟨(moreL q).toArray⟩ c _ hm).mono ?_
        rintro e w' ⟨rfl, rfl⟩
        go_wp2_with fail
        refine (ahead_any q hq _).mono ?_
        rintro e w' ⟨rfl, rfl⟩
        go_wp2
        go_round
        case rel => exact ⟨aheadN q, aheadN_le q, rfl, hH.out.trans (inB_step q h0 hq c hm)⟩
        case measure => have := aheadN_lt q h0; simp [intOf]; omega
    · obtain rfl : q = 0 := by omega
      go_wp2
      go_ret
      exact ⟨ret_bool (by rw [hH.out]; rfl), rfl⟩
theorem escapes_any (z : Int) (c : UInt8) (w : World) :
    Calls Tryz.prog 131 #[.int .i64 z, .int .u8 c.toNat] w fun e w' => e = .returned (.bool (escB z c)) ∧ w = w' := by
  by_cases h : z < 0 ∨ 7 < z
  · rw [escB_out z c h]; exact escapes_out z c w h
  · obtain ⟨k, rfl⟩ : ∃ k : Nat, z = k := ⟨z.toNat, by omega⟩
    by_cases h7 : k = 7
    · subst h7
      rw [show escB ((7 : Nat) : Int) c = _ from escB_7 c]
      exact escapes_7 c w
    · by_cases hc : c.toNat < 32 ∨ 126 < c.toNat
      · rw [escB_far k c (by omega) hc]; exact escapes_far k c w (by omega) hc
      · rw [escB_near k c (by omega) hc]; exact escapes_near k c w (by omega) hc
end Go.Proofs.YtafbghlldlconaaGreatDoor

/-
  escape.put, escape.Encode: the walks.
-/
namespace Go.Proofs.YtafbghlldlconaaGreatDoor
set_option linter.unusedVariables false
set_option linter.unusedSimpArgs false
open Go.RowKit PT

def digArr : Array Value := #[.int .u8 48, .int .u8 49, .int .u8 50, .int .u8 51, .int .u8 52, .int .u8 53, .int .u8 54, .int .u8 55, .int .u8 56, .int .u8 57, .int .u8 65, .int .u8 66, .int .u8 67, .int .u8 68, .int .u8 69, .int .u8 70]
theorem digArr_at (j : Nat) (h : j < 16) : digArr[j]? = some (.int .u8 (hexU j).toNat) := by
  obtain rfl | rfl | rfl | rfl | rfl | rfl | rfl | rfl | rfl | rfl | rfl | rfl | rfl | rfl | rfl | rfl : j = 0 ∨ j = 1 ∨ j = 2 ∨ j = 3 ∨ j = 4 ∨ j = 5 ∨ j = 6 ∨ j = 7 ∨ j = 8 ∨ j = 9 ∨ j = 10 ∨ j = 11 ∨ j = 12 ∨ j = 13 ∨ j = 14 ∨ j = 15 := by omega
  all_goals rfl
theorem dig_cell {w : World} {d : Nat} (h : w.heap[d]? = some (.cells digArr 158 (0, 0))) (j : Nat) (hj : j < 16) : w.cell? ⟨d, j, none⟩ = some (.int .u8 (hexU j).toNat) := by
  rw [Lib.cell_of_heap h]; exact digArr_at j hj

set_option maxHeartbeats 1000000 in
set_option maxRecDepth 100000 in
theorem put_any (B b : Nat) (l : List UInt8) (c : UInt8) (w : World) (h : SB B b l w) (hlen : l.length < 1000000) (hBw : B ≤ w.heap.size) :
    Calls Tryz.prog 132 #[.pointer (some ⟨b, 0, none⟩), .int .u8 c.toNat] w fun e w' => e = .returned (.tuple #[]) ∧ SB B b (l ++ [37, hexU (c.toNat / 16), hexU (c.toNat % 16)]) w' ∧ SK B b w w' := by
  have hlt := h.lt
  have hcb : c.toNat < 256 := c.toNat_lt
  have hd0 : (w.alloc (.cells digArr 158)).heap[w.heap.size]? = some (.cells digArr 158 (0, 0)) := heap_alloc_new w _
  have hk0 := (SK.refl B b w).alloc hBw (.cells digArr 158)
  have hs0 := h.alloc (.cells digArr 158)
  have hz0 : (w.alloc (.cells digArr 158)).heap.size = w.heap.size + 1 := by simp
  go_enter Tryz.func132, Tryz.ntmps132
  go_wp2_with fail
  refine (writeByte_any B b l 37 rfl (w.alloc (.cells digArr 158)) hs0 (by omega) (by omega)).mono ?_
  rintro e w1 ⟨rfl, hs1, hk1⟩
  have hd1 := hk1.2 _ _ hd0 (by simp; omega) (by simp)
  have hc1 := dig_cell hd1 (c.toNat / 16) (by omega)
  have hq : (0 : Int) ≤ (c.toNat : Int) / 16 ∧ (c.toNat : Int) / 16 < 16 := by omega
  go_wp2_with fail
  refine (writeByte_any B b _ (hexU (c.toNat / 16)) rfl _ hs1 (by simp; omega) (by have := hk1.1.size; omega)).mono ?_
  rintro e w2 ⟨rfl, hs2, hk2⟩
  have hd2 := hk2.2 _ _ hd1 (by simp; omega) (by simp)
  have hc2 := dig_cell hd2 (c.toNat % 16) (by omega)
  have hq2 : (0 : Int) ≤ (c.toNat : Int) % 16 ∧ (c.toNat : Int) % 16 < 16 := by omega
  go_wp2_with fail
  have hz2 := hk1.1.size
  refine (writeByte_any B b _ (hexU (c.toNat % 16)) rfl _ hs2 (by simp; omega) (by have := hk2.1.size; omega)).mono ?_
  rintro e w3 ⟨rfl, hs3, hk3⟩
  go_wp2_with fail
  go_end0
  exact ⟨rfl, by simpa using hs3, ((hk0.trans hk1).trans hk2).trans hk3⟩

theorem encode_out (s : ByteArray) (z : Int) (w : World) (h : z < 0 ∨ 7 < z) :
    Calls Tryz.prog 97 #[.string s, .int .i64 z] w fun e w' => e = .returned (.tuple #[.string ⟨#[]⟩, .int .i64 3]) ∧ w = w' := by
  rcases h with h | h
  · go_enter Tryz.func97, Tryz.ntmps97
    go_wp2_with fail
    go_ret2
    exact ⟨rfl, rfl⟩
  · have h0 : (0 : Int) ≤ z := by omega
    go_enter Tryz.func97, Tryz.ntmps97
    go_wp2_with fail
    go_ret2
    exact ⟨rfl, rfl⟩

set_option maxHeartbeats 1000000 in
set_option maxRecDepth 100000 in
theorem encode_any (s : ByteArray) (z : Int) (w : World) (hs : s.size ≤ 200000) (h : ¬ (z < 0 ∨ 7 < z)) :
    Calls Tryz.prog 97 #[.string s, .int .i64 z] w fun e w' => e = .returned (.tuple #[.string ⟨(encL z s.data.toList).toArray⟩, .int .i64 0]) ∧ Below w.heap.size w w' := by
  have h0 : (0 : Int) ≤ z := by omega
  have h7 : z ≤ (7 : Int) := by omega
  clear h
  go_enter Tryz.func97, Tryz.ntmps97
  go_wp2_with fail
  go_loopw [16] (fun i wr => ∃ k : Nat, k ≤ s.size ∧ i = .int .i64 k ∧ SB w.heap.size w.heap.size (encL z (s.data.toList.take k)) wr ∧ Below w.heap.size w wr) (fun i _ => s.size - (intOf i).toNat)
  case atStart => exact ⟨0, Nat.zero_le _, rfl, SB.fresh w, (Below.refl _ _).alloc (Nat.le_refl _) _⟩
  case round =>
    obtain ⟨k, hk, rfl, hsb, hbel⟩ := hrel
    have hl := encL_len z (s.data.toList.take k)
    have hl2 : (s.data.toList.take k).length ≤ s.size := by simp; omega
    have hsz := hbel.size
    by_cases hlt : k < s.size
    · go_wp2_with fail
      refine (escapes_any z s[k] _).mono ?_
      rintro e w' ⟨rfl, rfl⟩
      cases he : escB z s[k]
      · have hT := Lib.hid (encL_snoc_no z s k hlt he)
        go_wp2_with fail
        refine (writeByte_any w.heap.size w.heap.size _ s[k] rfl _ hsb (by omega) hsz).mono ?_
        rintro e w1 ⟨rfl, hs1, hk1⟩
        go_wp2_with fail
        go_roundw
        case rel => exact ⟨k + 1, by omega, by go_num, by rw [hT.out]; exact hs1, hbel.trans hk1.1⟩
        case measure => simp [intOf]; omega
      · have hT := Lib.hid (encL_snoc_yes z s k hlt he)
        go_wp2_with fail
        refine (put_any w.heap.size w.heap.size _ s[k] _ hsb (by omega) hsz).mono ?_
        rintro e w1 ⟨rfl, hs1, hk1⟩
        go_wp2_with fail
        go_roundw
        case rel => exact ⟨k + 1, by omega, by go_num, by rw [hT.out]; exact hs1, hbel.trans hk1.1⟩
        case measure => simp [intOf]; omega
    · obtain rfl : k = s.size := by omega
      have HT := Lib.hid (List.take_of_length_le (show s.data.toList.length ≤ s.size by simp))
      go_wp2_with fail
      refine (string_any w.heap.size w.heap.size _ _ hsb hsz).mono ?_
      rintro e w1 ⟨rfl, hs1, hk1⟩
      rw [HT.out]
      go_wp2_with fail
      go_ret2
      exact ⟨rfl, hbel.trans hk1.1⟩
end Go.Proofs.YtafbghlldlconaaGreatDoor

/-
  ref02.Escapes: what it answers.
-/
namespace Go.Proofs.YtafbghlldlconaaGreatDoor
set_option linter.unusedVariables false
set_option linter.unusedSimpArgs false
open Go.RowKit PT

set_option maxHeartbeats 800000 in
theorem refEscapes_out (z : Int) (c : UInt8) (w : World) (h : z < 0 ∨ 7 < z) :
    Calls Tryz.prog 146 #[.int .i64 z, .int .u8 c.toNat] w fun e w' => e = .returned (.bool false) ∧ w = w' := by
  have e0 := intNe (a := z) (b := 0) (by omega)
  have e1 := intNe (a := z) (b := 1) (by omega)
  have e2 := intNe (a := z) (b := 2) (by omega)
  have e3 := intNe (a := z) (b := 3) (by omega)
  have e4 := intNe (a := z) (b := 4) (by omega)
  have e5 := intNe (a := z) (b := 5) (by omega)
  have e6 := intNe (a := z) (b := 6) (by omega)
  have e7 := intNe (a := z) (b := 7) (by omega)
  clear h
  go_enter Tryz.func146, Tryz.ntmps146
  go_wp2_with fail
  go_ret
  exact ⟨rfl, rfl⟩
set_option maxHeartbeats 800000 in
theorem refEscapes_7 (c : UInt8) (w : World) :
    Calls Tryz.prog 146 #[.int .i64 7, .int .u8 c.toNat] w fun e w' => e = .returned (.bool (!letterB c && !inB c plain7)) ∧ w = w' := by
  go_enter Tryz.func146, Tryz.ntmps146
  go_wp2_with fail
  refine (refPlain_any _ _).mono ?_
  rintro e w' ⟨rfl, rfl⟩
  cases hl : letterB c
  · go_wp2_with fail
    refine (refIn_any c ⟨plain7.toArray⟩ _ (by decide)).mono ?_
    rintro e w' ⟨rfl, rfl⟩
    go_wp2
    go_ret
    exact ⟨ret_bool (by simp [hl]), rfl⟩
  · go_wp2
    go_ret
    exact ⟨ret_bool (by simp [hl]), rfl⟩
set_option maxHeartbeats 2000000 in
theorem refEscapes_far (k : Nat) (c : UInt8) (w : World) (hk : k ≤ 6) (h : c.toNat < 32 ∨ 126 < c.toNat) :
    Calls Tryz.prog 146 #[.int .i64 k, .int .u8 c.toNat] w fun e w' => e = .returned (.bool true) ∧ w = w' := by
  obtain rfl | rfl | rfl | rfl | rfl | rfl | rfl : k = 0 ∨ k = 1 ∨ k = 2 ∨ k = 3 ∨ k = 4 ∨ k = 5 ∨ k = 6 := by omega
  all_goals
    rcases h with h | h
    · have h1 : (c.toNat : Int) < 32 := by omega
      go_enter Tryz.func146, Tryz.ntmps146
      go_wp2_with fail
      go_ret
      exact ⟨rfl, rfl⟩
    · have h1 : (126 : Int) < (c.toNat : Int) := by omega
      have h2 : (32 : Int) ≤ (c.toNat : Int) := by omega
      go_enter Tryz.func146, Tryz.ntmps146
      go_wp2_with fail
      go_ret
      exact ⟨rfl, rfl⟩
set_option maxHeartbeats 2000000 in
theorem refEscapes_near (k : Nat) (c : UInt8) (w : World) (hk : k ≤ 6) (h : ¬ (c.toNat < 32 ∨ 126 < c.toNat)) :
    Calls Tryz.prog 146 #[.int .i64 k, .int .u8 c.toNat] w fun e w' => e = .returned (.bool (inB c (escL k))) ∧ w = w' := by
  have h1 : (c.toNat : Int) ≤ 126 := by omega
  have h2 : (32 : Int) ≤ (c.toNat : Int) := by omega
  have h3 : decide (126 < (c.toNat : Int)) = false := by simp; omega
  have h4 : decide ((c.toNat : Int) < 32) = false := by simp; omega
  clear h
  by_cases k0 : k = 0
  · subst k0
    go_enter Tryz.func146, Tryz.ntmps146
    go_wp2_with fail
    go_ret
    exact ⟨ret_bool rfl, rfl⟩
  · obtain rfl | rfl | rfl | rfl | rfl | rfl : k = 1 ∨ k = 2 ∨ k = 3 ∨ k = 4 ∨ k = 5 ∨ k = 6 := by omega
    all_goals
      go_enter Tryz.func146, Tryz.ntmps146
      go_wp2_with fail
      refine (refIn_any c _ _ (by decide)).mono ?_
      rintro e w' ⟨rfl, rfl⟩
      go_wp2
      go_ret
      exact ⟨ret_bool rfl, rfl⟩
theorem refEscapes_any (z : Int) (c : UInt8) (w : World) :
    Calls Tryz.prog 146 #[.int .i64 z, .int .u8 c.toNat] w fun e w' => e = .returned (.bool (escB z c)) ∧ w = w' := by
  by_cases h : z < 0 ∨ 7 < z
  · rw [escB_out z c h]; exact refEscapes_out z c w h
  · obtain ⟨k, rfl⟩ : ∃ k : Nat, z = k := ⟨z.toNat, by omega⟩
    by_cases h7 : k = 7
    · subst h7
      rw [show escB ((7 : Nat) : Int) c = _ from escB_7 c]
      exact refEscapes_7 c w
    · by_cases hc : c.toNat < 32 ∨ 126 < c.toNat
      · rw [escB_far k c (by omega) hc]; exact refEscapes_far k c w (by omega) hc
      · rw [escB_near k c (by omega) hc]; exact refEscapes_near k c w (by omega) hc
end Go.Proofs.YtafbghlldlconaaGreatDoor

/-
  ref02.Digits: the walk.
-/
namespace Go.Proofs.YtafbghlldlconaaGreatDoor
set_option linter.unusedVariables false
set_option linter.unusedSimpArgs false
open Go.RowKit PT

theorem hex_cut (j : Nat) (h : j < 16) : (ByteArray.mk #[48, 49, 50, 51, 52, 53, 54, 55, 56, 57, 65, 66, 67, 68, 69, 70]).extract j (j + 1) = ⟨[hexU j].toArray⟩ := by
  obtain rfl | rfl | rfl | rfl | rfl | rfl | rfl | rfl | rfl | rfl | rfl | rfl | rfl | rfl | rfl | rfl : j = 0 ∨ j = 1 ∨ j = 2 ∨ j = 3 ∨ j = 4 ∨ j = 5 ∨ j = 6 ∨ j = 7 ∨ j = 8 ∨ j = 9 ∨ j = 10 ∨ j = 11 ∨ j = 12 ∨ j = 13 ∨ j = 14 ∨ j = 15 := by omega
  all_goals rfl
set_option maxHeartbeats 1000000 in
set_option maxRecDepth 100000 in
theorem refDigits_any (c : UInt8) (w : World) :
    Calls Tryz.prog 147 #[.int .u8 c.toNat] w fun e w' => e = .returned (.string ⟨[hexU (c.toNat / 16), hexU (c.toNat % 16)].toArray⟩) ∧ Below w.heap.size w w' := by
  have hcb : c.toNat < 256 := c.toNat_lt
  have hq1 : (0 : Int) ≤ (c.toNat : Int) / 16 := by omega
  have hq2 : (c.toNat : Int) / 16 < 16 := by omega
  have hq3 : (0 : Int) ≤ (c.toNat : Int) % 16 := by omega
  have hq4 : (c.toNat : Int) % 16 < 16 := by omega
  go_enter Tryz.func147, Tryz.ntmps147
  go_wp2_with fail
  go_quiet (fail)
  go_wp2
  go_ret
  exact ⟨ret_text (by rw [hex_cut _ (by omega), hex_cut _ (by omega), mk_append]; rfl), below_draws _ _⟩

end Go.Proofs.YtafbghlldlconaaGreatDoor
