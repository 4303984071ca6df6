/-
  escape.digit, escape.Decode: the walks.
-/
import Derived.Test.YtepggnnikikijaaDoorBuilder
import Derived.Test.YtepggnnikikijaaDoorEscapes
import Derived.StillTailTactics
namespace Go.Proofs.YtepggnnikikijaaDoor
open Go.RowKit PT

set_option maxHeartbeats 400000 in
set_option maxRecDepth 100000 in
theorem digit_any (c : UInt8) (w : World) :
    Calls Tryd.prog 63 #[.int .u8 c.toNat] w fun e w' => e = .returned (.int .u8 (digN c)) ∧ w = w' := by
  have hcb : c.toNat < 256 := c.toNat_lt
  go_enter Tryd.func63, Tryd.ntmps63
  go_wp2
  all_goals
    go_ret
    exact ⟨ret_int (by unfold digN; (repeat' split) <;> omega), rfl⟩

theorem or_hex (a b : Nat) (ha : a < 16) (hb : b < 16) : bits BinOp.or .u8 ((a : Int) * 16) (b : Int) = ((UInt8.ofNat (a * 16 + b)).toNat : Int) := by
  have : ∀ i j : Fin 16, bits BinOp.or .u8 ((i.val : Int) * 16) (j.val : Int) = ((UInt8.ofNat (i.val * 16 + j.val)).toNat : Int) := by decide +kernel
  exact this ⟨a, ha⟩ ⟨b, hb⟩

set_option maxHeartbeats 2000000 in
set_option maxRecDepth 100000 in
theorem decode_any (s : ByteArray) (w : World) (hs : s.size ≤ 1000000) :
    Calls Tryd.prog 48 #[.string s] w fun e w' => e = .returned (.string ⟨(dec s.data.toList).toArray⟩) ∧ Below w.heap.size w w' := by
  go_enter Tryd.func48, Tryd.ntmps48
  go_wp2_with fail
  go_loopw [4] (fun i wr => ∃ k : Nat, ∃ acc : List UInt8, k ≤ s.size ∧ i = .int .i64 k ∧ Hid (acc ++ dec (s.data.toList.drop k) = dec s.data.toList) ∧ acc.length ≤ k ∧ SB w.heap.size w.heap.size acc wr ∧ Below w.heap.size w wr) (fun i _ => s.size - (intOf i).toNat)
  case atStart => exact ⟨0, [], Nat.zero_le _, rfl, rfl, Nat.le_refl _, SB.fresh w, (Below.refl _ _).alloc (Nat.le_refl _) _⟩
  case round =>
    obtain ⟨k, acc, hk, rfl, hacc, hal, hsb, hbel⟩ := hrel
    have hsz := hbel.size
    by_cases hlt : k < s.size
    · by_cases he : EscAt s k
      · obtain ⟨h2, h0, hd1, hd2⟩ := he
        have hT := Lib.hid (dec_at_yes s k h2 h0 hd1 hd2)
        have E : ((s[k].toNat : Int) == 37) = true := by rw [h0]; rfl
        have h1' : ((digN s[k + 1] : Nat) : Int) < 16 := by omega
        have h2' : ((digN s[k + 2] : Nat) : Int) < 16 := by omega
        have h3' : (k : Int) + 2 < (s.size : Int) := by omega
        clear h0
        go_wp2_with fail
        refine (digit_any s[k + 1] _).mono ?_
        rintro e w' ⟨rfl, rfl⟩
        go_wp2_with fail
        refine (digit_any s[k + 2] _).mono ?_
        rintro e w' ⟨rfl, rfl⟩
        go_wp2_with fail
        have s1 : IntKind.i64.wrap ((k : Int) + 1) = (k : Int) + 1 := IntWalk.i64_in _ (by omega)
        have s2 : IntKind.i64.wrap ((k : Int) + 2) = (k : Int) + 2 := IntWalk.i64_in _ (by omega)
        have s3 : (0 : Int) ≤ (k : Int) + 1 := by omega
        have s4 : (0 : Int) ≤ (k : Int) + 2 := by omega
        have s5 : (k : Int) + 1 < (s.size : Int) := by omega
        have s6 : ((k : Int) + 1).toNat = k + 1 := by omega
        have s7 : ((k : Int) + 2).toNat = k + 2 := by omega
        refine wp_region_still_tail 12 (by kernel_rfl) (by kernel_rfl) ?_
        simp only [List.take_succ_cons, List.take_zero, List.drop_succ_cons, List.drop_zero]
        repeat still_step
        still_call ((digit_any s[k + 1] _).mono fun e w' ⟨he, hw⟩ => ⟨he, hw.symm⟩)
        repeat still_step
        still_call ((digit_any s[k + 2] _).mono fun e w' ⟨he, hw⟩ => ⟨he, hw.symm⟩)
        repeat still_step
        refine wpStill_nil ?_
        change wpList _ _ _ _ _ wr.drew
        have hsb2 : SB w.heap.size w.heap.size acc wr.drew := hsb
        have hbel2 : Below w.heap.size w wr.drew := hbel.drew
        have hsz2 : w.heap.size ≤ wr.drew.heap.size := hsz
        generalize wr.drew = w2 at *
        go_wp2_with fail
        refine (writeByte_any w.heap.size w.heap.size acc (UInt8.ofNat (digN s[k + 1] * 16 + digN s[k + 2])) (or_hex _ _ hd1 hd2) w2 hsb2 (by omega) hsz2).mono ?_
        rintro e w3 ⟨rfl, hs3, hk3⟩
        go_wp2_with fail
        go_roundw
        case rel => exact ⟨k + 3, acc ++ [UInt8.ofNat (digN s[k + 1] * 16 + digN s[k + 2])], by omega, by go_num, by unfold Hid; rw [List.append_assoc, ← hacc.out, hT.out]; rfl, by simp; omega, hs3, hbel2.trans hk3.1⟩
        case measure => simp [intOf]; omega
      · have hT := Lib.hid (dec_at_no s k hlt he)
        have fin : ∀ w3 : World, SB w.heap.size w.heap.size (acc ++ [s[k]]) w3 → SK w.heap.size w.heap.size wr w3 →
            ∃ q : Nat, ∃ acc' : List UInt8, q ≤ s.size ∧ Value.int .i64 ((k : Int) + 1) = .int .i64 q ∧ Hid (acc' ++ dec (s.data.toList.drop q) = dec s.data.toList) ∧ acc'.length ≤ q ∧ SB w.heap.size w.heap.size acc' w3 ∧ Below w.heap.size w w3 := fun w3 hs3 hk3 =>
          ⟨k + 1, acc ++ [s[k]], by omega, by go_num, by unfold Hid; rw [List.append_assoc, ← hacc.out, hT.out]; rfl, by simp; omega, hs3, hbel.trans hk3.1⟩
        have Fin := Lib.hid fin
        clear fin
        by_cases h0 : s[k] = 37
        · have E : ((s[k].toNat : Int) == 37) = true := by rw [h0]; rfl
          by_cases h2 : k + 2 < s.size
          · have h3' : (k : Int) + 2 < (s.size : Int) := by omega
            by_cases hd1 : digN s[k + 1] < 16
            · have h1' : ((digN s[k + 1] : Nat) : Int) < 16 := by omega
              have hd2 : ¬ digN s[k + 2] < 16 := fun h => he ⟨h2, h0, hd1, h⟩
              have h2' : decide (((digN s[k + 2] : Nat) : Int) < 16) = false := by simp; omega
              clear h0 hd2
              go_wp2_with fail
              refine (digit_any s[k + 1] _).mono ?_
              rintro e w' ⟨rfl, rfl⟩
              go_wp2_with fail
              refine (digit_any s[k + 2] _).mono ?_
              rintro e w' ⟨rfl, rfl⟩
              go_wp2_with fail
              refine (writeByte_any w.heap.size w.heap.size acc s[k] rfl wr hsb (by omega) hsz).mono ?_
              rintro e w3 ⟨rfl, hs3, hk3⟩
              go_wp2_with fail
              go_roundw
              case rel => exact Fin.out _ hs3 hk3
              case measure => simp [intOf]; omega
            · have h1' : decide (((digN s[k + 1] : Nat) : Int) < 16) = false := by simp; omega
              clear h0 hd1
              go_wp2_with fail
              refine (digit_any s[k + 1] _).mono ?_
              rintro e w' ⟨rfl, rfl⟩
              go_wp2_with fail
              refine (writeByte_any w.heap.size w.heap.size acc s[k] rfl wr hsb (by omega) hsz).mono ?_
              rintro e w3 ⟨rfl, hs3, hk3⟩
              go_wp2_with fail
              go_roundw
              case rel => exact Fin.out _ hs3 hk3
              case measure => simp [intOf]; omega
          · have h3' : decide ((k : Int) + 2 < (s.size : Int)) = false := by simp; omega
            clear h0 h2
            go_wp2_with fail
            refine (writeByte_any w.heap.size w.heap.size acc s[k] rfl wr hsb (by omega) hsz).mono ?_
            rintro e w3 ⟨rfl, hs3, hk3⟩
            go_wp2_with fail
            go_roundw
            case rel => exact Fin.out _ hs3 hk3
            case measure => simp [intOf]; omega
        · have E : ((s[k].toNat : Int) == 37) = false := by
            have := byteEq_no h0
            exact this
          clear h0
          go_wp2_with fail
          refine (writeByte_any w.heap.size w.heap.size acc s[k] rfl wr hsb (by omega) hsz).mono ?_
          rintro e w3 ⟨rfl, hs3, hk3⟩
          go_wp2_with fail
          go_roundw
          case rel => exact Fin.out _ hs3 hk3
          case measure => simp [intOf]; omega
    · obtain rfl : k = s.size := by omega
      have ha : acc = dec s.data.toList := by
        have := hacc.out
        rw [List.drop_eq_nil_of_le (by simp)] at this
        simpa [dec] using this
      have HA := Lib.hid ha
      clear ha
      go_wp2_with fail
      refine (string_any w.heap.size w.heap.size _ _ hsb hsz).mono ?_
      rintro e w1 ⟨rfl, hs1, hk1⟩
      go_wp2_with fail
      go_ret
      exact ⟨ret_str HA.out, hbel.trans hk1.1⟩
end Go.Proofs.YtepggnnikikijaaDoor
