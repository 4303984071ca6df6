/-
  ref02.Digit, ref02.Decode: the walks.
-/
import Derived.Test.YtepggnnikikijaaDoorBytes
import Derived.Test.YtepggnnikikijaaDoorEscapes
import Derived.Test.YtepggnnikikijaaDoorRefDigit
import Derived.StillTailTactics
import Derived.Deep.RegionHeld3
namespace Go.Proofs.YtepggnnikikijaaDoor
open Go.RowKit PT

theorem hex_plain (a b : Nat) (ha : a < 16) (hb : b < 16) : (a : Int) * 16 + (b : Int) = ((UInt8.ofNat (a * 16 + b)).toNat : Int) := by
  simp
  omega

set_option maxHeartbeats 2000000 in
set_option maxRecDepth 100000 in
theorem refDecode_any (s : ByteArray) (w : World) (hs : s.size ≤ 1000000) :
    Calls Tryd.prog 49 #[.string s] w fun e w' => e = .returned (.string ⟨(dec s.data.toList).toArray⟩) ∧ Below w.heap.size w w' := by
  go_enter Tryd.func49, Tryd.ntmps49
  go_wp2_with fail
  go_loopw [4, 3] (fun i v wr => ∃ k : Nat, ∃ acc : List UInt8, k ≤ s.size ∧ i = .int .i64 k ∧ Hid (acc ++ dec (s.data.toList.drop k) = dec s.data.toList) ∧ acc.length ≤ k ∧ OB w.heap.size acc v wr ∧ Below w.heap.size w wr) (fun i _ _ => s.size - (intOf i).toNat)
  case atStart => exact ⟨0, [], Nat.zero_le _, rfl, rfl, Nat.le_refl _, OB.nil _ _, Below.refl _ _⟩
  case round =>
    obtain ⟨k, acc, hk, rfl, hacc, hal, hown, hbel⟩ := hrel
    have hsz := hbel.size
    by_cases hlt : k < s.size
    · by_cases he : EscAt s k
      · obtain ⟨h2, h0, hd1, hd2⟩ := he
        have hT := Lib.hid (dec_at_yes s k h2 h0 hd1 hd2)
        have E : ((s[k].toNat : Int) == 37) = true := by rw [h0]; rfl
        have h3' : (2 : Int) < (s.size : Int) - (k : Int) := by omega
        have hg1 : decide ((0 : Int) ≤ ((digN s[k + 1] : Nat) : Int)) = true := by simp
        have hg2 : decide ((0 : Int) ≤ ((digN s[k + 2] : Nat) : Int)) = true := by simp
        clear h0
        go_wp2_with fail
        refine (refDigit_yes s[k + 1] _ hd1).mono ?_
        rintro e w' ⟨rfl, rfl⟩
        go_wp2_with fail
        refine (refDigit_yes s[k + 2] _ hd2).mono ?_
        rintro e w' ⟨rfl, rfl⟩
        go_wp2_with fail
        have s1 : IntKind.i64.wrap ((k : Int) + 1) = (k : Int) + 1 := IntWalk.i64_in _ (by omega)
        have s2 : IntKind.i64.wrap ((k : Int) + 2) = (k : Int) + 2 := IntWalk.i64_in _ (by omega)
        have s3 : (0 : Int) ≤ (k : Int) + 1 := by omega
        have s4 : (0 : Int) ≤ (k : Int) + 2 := by omega
        have s5 : (k : Int) + 1 < (s.size : Int) := by omega
        have s5' : (k : Int) + 2 < (s.size : Int) := by omega
        have s6 : ((k : Int) + 1).toNat = k + 1 := by omega
        have s7 : ((k : Int) + 2).toNat = k + 2 := by omega
        have d1 : digI s[k + 1] = digN s[k + 1] := if_pos hd1
        have d2 : digI s[k + 2] = digN s[k + 2] := if_pos hd2
        have d3 : (0 : Int) ≤ digI s[k + 1] ∧ digI s[k + 1] < 16 ∧ 0 ≤ digI s[k + 2] ∧ digI s[k + 2] < 16 := by omega
        have s8 : IntKind.i64.wrap (digI s[k + 1] * 16) = digI s[k + 1] * 16 := IntWalk.i64_in _ (by omega)
        have s9 : IntKind.i64.wrap (digI s[k + 1] * 16 + digI s[k + 2]) = digI s[k + 1] * 16 + digI s[k + 2] := IntWalk.i64_in _ (by omega)
        have s10 : IntKind.u8.wrap (digI s[k + 1] * 16 + digI s[k + 2]) = digI s[k + 1] * 16 + digI s[k + 2] := IntWalk.u8_in _ (by omega)
        have hx := Lib.hid (show digI s[k + 1] * 16 + digI s[k + 2] = ((UInt8.ofNat (digN s[k + 1] * 16 + digN s[k + 2])).toNat : Int) by rw [d1, d2]; exact hex_plain _ _ hd1 hd2)
        clear d1 d2
        have hc2 : (wr.alloc (.cells #[.int .u8 (digI s[k + 1] * 16 + digI s[k + 2])] 5)).drew.cell? ⟨wr.heap.size, 0, none⟩ = some (.int .u8 (UInt8.ofNat (digN s[k + 1] * 16 + digN s[k + 2])).toNat) := by
          rw [← hx.out]; show (wr.alloc _).cell? _ = _; rw [World.cell?_alloc_at _ _ _ _ rfl]; rfl
        have Hc2 := Lib.hid hc2
        clear hc2
        have hown2 : OB w.heap.size acc u3 (wr.alloc (.cells #[.int .u8 (digI s[k + 1] * 16 + digI s[k + 2])] 5)).drew := hown.alloc _
        have hsz2 : w.heap.size ≤ (wr.alloc (.cells #[.int .u8 (digI s[k + 1] * 16 + digI s[k + 2])] 5)).drew.heap.size := by show _ ≤ (wr.alloc _).heap.size; simp; omega
        have hbel2 : Below w.heap.size w (wr.alloc (.cells #[.int .u8 (digI s[k + 1] * 16 + digI s[k + 2])] 5)).drew := (hbel.alloc hsz _).drew
        go_region_held3 (fun _ => True) (exact True.intro) ((first
          | (go_at_call 64; refine (refDigit_any _ _).mono ?_; rintro e w' ⟨rfl, rfl⟩)
          | (refine step_append_byte rfl _ _ rfl rfl wr.heap.size rfl _ Hc2.out hown2 (by omega) hsz2 ?_; intro v' w3 hown3 hb3)))
        all_goals (try go_wp2_with fail)
        all_goals
         go_roundw
         case rel => exact ⟨k + 3, acc ++ [UInt8.ofNat (digN s[k + 1] * 16 + digN s[k + 2])], by omega, by go_num, by unfold Hid; rw [List.append_assoc, ← hacc.out, hT.out]; rfl, by simp; omega, hown3, hbel2.trans hb3⟩
         case measure => simp [intOf]; omega
      · have hT := Lib.hid (dec_at_no s k hlt he)
        have fin : ∀ v w3, OB w.heap.size (acc ++ [s[k]]) v w3 → Below w.heap.size wr w3 →
            ∃ q : Nat, ∃ acc' : List UInt8, q ≤ s.size ∧ Value.int .i64 ((k : Int) + 1) = .int .i64 q ∧ Hid (acc' ++ dec (s.data.toList.drop q) = dec s.data.toList) ∧ acc'.length ≤ q ∧ OB w.heap.size acc' v w3 ∧ Below w.heap.size w w3 := fun v w3 hs3 hk3 =>
          ⟨k + 1, acc ++ [s[k]], by omega, by go_num, by unfold Hid; rw [List.append_assoc, ← hacc.out, hT.out]; rfl, by simp; omega, hs3, hbel.trans hk3⟩
        have Fin := Lib.hid fin
        clear fin
        by_cases h0 : s[k] = 37
        · have E : ((s[k].toNat : Int) == 37) = true := by rw [h0]; rfl
          by_cases h2 : k + 2 < s.size
          · have h3' : (2 : Int) < (s.size : Int) - (k : Int) := by omega
            by_cases hd1 : digN s[k + 1] < 16
            · have hd2 : ¬ digN s[k + 2] < 16 := fun h => he ⟨h2, h0, hd1, h⟩
              have hg1 : decide ((0 : Int) ≤ ((digN s[k + 1] : Nat) : Int)) = true := by simp
              clear h0
              go_wp2_with fail
              refine (refDigit_yes s[k + 1] _ hd1).mono ?_
              rintro e w' ⟨rfl, rfl⟩
              go_wp2_with fail
              refine (refDigit_no s[k + 2] _ hd2).mono ?_
              rintro e w' ⟨rfl, rfl⟩
              clear hd2
              go_wp2_with (at_builtin; refine wpList_append_byte rfl _ _ rfl rfl rfl s[k] rfl hown (by omega) hsz ?_; intro v' w3 hown3 hb3)
              go_roundw
              case rel => exact Fin.out _ _ hown3 hb3
              case measure => simp [intOf]; omega
            · clear h0
              go_wp2_with fail
              refine (refDigit_no s[k + 1] _ hd1).mono ?_
              rintro e w' ⟨rfl, rfl⟩
              clear hd1
              go_wp2_with (at_builtin; refine wpList_append_byte rfl _ _ rfl rfl rfl s[k] rfl hown (by omega) hsz ?_; intro v' w3 hown3 hb3)
              go_roundw
              case rel => exact Fin.out _ _ hown3 hb3
              case measure => simp [intOf]; omega
          · have h3' : decide ((2 : Int) < (s.size : Int) - (k : Int)) = false := by simp; omega
            clear h0 h2
            go_wp2_with (at_builtin; refine wpList_append_byte rfl _ _ rfl rfl rfl s[k] rfl hown (by omega) hsz ?_; intro v' w3 hown3 hb3)
            go_roundw
            case rel => exact Fin.out _ _ hown3 hb3
            case measure => simp [intOf]; omega
        · have E : ((s[k].toNat : Int) == 37) = false := by
            have := byteEq_no h0
            exact this
          clear h0
          go_wp2_with (at_builtin; refine wpList_append_byte rfl _ _ rfl rfl rfl s[k] rfl hown (by omega) hsz ?_; intro v' w3 hown3 hb3)
          go_roundw
          case rel => exact Fin.out _ _ hown3 hb3
          case measure => simp [intOf]; omega
    · obtain rfl : k = s.size := by omega
      have ha : acc = dec s.data.toList := by
        have := hacc.out
        rw [List.drop_eq_nil_of_le (by simp)] at this
        simpa [dec] using this
      have HA := Lib.hid ha
      clear ha
      have hcb := hown.conv
      go_wp2_with fail
      go_ret
      exact ⟨ret_str HA.out, hbel⟩
end Go.Proofs.YtepggnnikikijaaDoor
