import Derived.Test.YtafbghlldlconaaGreatDoorPart12
import Derived.Test.YtafbghlldlconaaGreatDoorPart2
import Derived.Test.YtafbghlldlconaaGreatDoorPart11
import Derived.StillTailTactics
import Derived.Deep.RegionHeld3
import Derived.Test.YtafbghlldlconaaGreatDoorPart10
/-
  ref02.Digits, ref02.Encode: the walks.
-/
namespace Go.Proofs.YtafbghlldlconaaGreatDoor
set_option linter.unusedVariables false
set_option linter.unusedSimpArgs false
open Go.RowKit PT

theorem refEncode_out (s : ByteArray) (z : Int) (w : World) (h : z < 0 ∨ 7 < z) :
    Calls Tryz.prog 110 #[.string s, .int .i64 z] w fun e w' => e = .returned (.tuple #[.string ⟨#[]⟩, .int .i64 3]) ∧ w = w' := by
  rcases h with h | h
  · go_enter Tryz.func110, Tryz.ntmps110
    go_wp2_with fail
    go_ret2
    exact ⟨rfl, rfl⟩
  · have h0 : (0 : Int) ≤ z := by omega
    go_enter Tryz.func110, Tryz.ntmps110
    go_wp2_with fail
    go_ret2
    exact ⟨rfl, rfl⟩

set_option maxHeartbeats 1000000 in
set_option maxRecDepth 100000 in
theorem refEncode_any (s : ByteArray) (z : Int) (w : World) (hs : s.size ≤ 200000) (h : ¬ (z < 0 ∨ 7 < z)) :
    Calls Tryz.prog 110 #[.string s, .int .i64 z] w fun e w' => e = .returned (.tuple #[.string ⟨(encL z s.data.toList).toArray⟩, .int .i64 0]) ∧ Below w.heap.size w w' := by
  have h0 : (0 : Int) ≤ z := by omega
  have h7 : z ≤ (7 : Int) := by omega
  clear h
  go_enter Tryz.func110, Tryz.ntmps110
  go_wp2_with fail
  go_loopw [7, 6] (fun i v wr => ∃ k : Nat, k ≤ s.size ∧ i = .int .i64 k ∧ OB w.heap.size (encL z (s.data.toList.take k)) v wr ∧ Below w.heap.size w wr) (fun i _ _ => s.size - (intOf i).toNat)
  case atStart => exact ⟨0, Nat.zero_le _, rfl, OB.nil _ _, Below.refl _ _⟩
  case round =>
    obtain ⟨k, hk, rfl, hown, hbel⟩ := hrel
    have hl := encL_len z (s.data.toList.take k)
    have hl2 : (s.data.toList.take k).length ≤ s.size := by simp; omega
    have hsz := hbel.size
    by_cases hlt : k < s.size
    · go_wp2_with fail
      refine (refEscapes_any z s[k] _).mono ?_
      rintro e w' ⟨rfl, rfl⟩
      cases he : escB z s[k]
      · have hT := Lib.hid (encL_snoc_no z s k hlt he)
        go_wp2_with (at_builtin; refine wpList_append_byte rfl _ _ rfl rfl rfl s[k] rfl hown (by omega) hsz ?_; intro v' w1 hown' hb')
        go_roundw
        case rel => exact ⟨k + 1, by omega, by go_num, by rw [hT.out]; exact hown', hbel.trans hb'⟩
        case measure => simp [intOf]; omega
      · have hT := Lib.hid (encL_snoc_yes z s k hlt he)
        go_wp2_with (at_builtin; refine wpList_append_byte rfl _ _ rfl rfl rfl 37 rfl hown (by omega) hsz ?_; intro v' w1 hown' hb')
        refine (refDigits_any s[k] _).mono ?_
        rintro e w2 ⟨rfl, hb2⟩
        have hown2 := hown'.kept hb2
        have hsz1 := hb'.size
        have hsz2 := hb2.size
        have hl3 : (encL z (s.data.toList.take k) ++ [37]).length + (ByteArray.mk [hexU (s[k].toNat / 16), hexU (s[k].toNat % 16)].toArray).size < 70368744177664 := by
          rw [size_mk, List.length_append]
          simp only [List.length_cons, List.length_nil]
          omega
        go_wp2_with (at_builtin; refine wpList_append_text rfl _ _ rfl rfl rfl hown2 hl3 (by omega) ?_; intro v2 w3 hown3 hb3)
        go_roundw
        case rel => exact ⟨k + 1, by omega, by go_num, by rw [hT.out]; rw [List.append_assoc] at hown3; exact hown3, ((hbel.trans hb').trans (hb2.mono (by omega))).trans hb3⟩
        case measure => simp [intOf]; omega
    · obtain rfl : k = s.size := by omega
      have hcb := hown.conv
      rw [List.take_of_length_le (show s.data.toList.length ≤ s.size by simp)] at hcb
      go_wp2_with fail
      go_ret2
      exact ⟨rfl, hbel⟩
end Go.Proofs.YtafbghlldlconaaGreatDoor

/-
  ref02.Digit: the walk.
-/
namespace Go.Proofs.YtafbghlldlconaaGreatDoor
set_option linter.unusedVariables false
set_option linter.unusedSimpArgs false
open Go.RowKit PT
end Go.Proofs.YtafbghlldlconaaGreatDoor

/-
  ref02.Digit, ref02.Decode: the walks.
-/
namespace Go.Proofs.YtafbghlldlconaaGreatDoor
set_option linter.unusedVariables false
set_option linter.unusedSimpArgs false
open Go.RowKit PT
end Go.Proofs.YtafbghlldlconaaGreatDoor

/-
  escape.digit, escape.Decode: the walks.
-/
namespace Go.Proofs.YtafbghlldlconaaGreatDoor
set_option linter.unusedVariables false
set_option linter.unusedSimpArgs false
open Go.RowKit PT

set_option maxHeartbeats 400000 in
set_option maxRecDepth 100000 in
theorem digit_any (c : UInt8) (w : World) :
    Calls Tryz.prog 122 #[.int .u8 c.toNat] w fun e w' => e = .returned (.int .u8 (digN c)) ∧ w = w' := by
  have hcb : c.toNat < 256 := c.toNat_lt
  go_enter Tryz.func122, Tryz.ntmps122
  go_wp2
  all_goals
    go_ret
    exact ⟨ret_int (by unfold digN; (repeat' split) <;> omega), rfl⟩

theorem or_hex (a b : Nat) (ha : a < 16) (hb : b < 16) : bits BinOp.or .u8 ((a : Int) * 16) (b : Int) = ((UInt8.ofNat (a * 16 + b)).toNat : Int) := by
  have : ∀ i j : Fin 16, bits BinOp.or .u8 ((i.val : Int) * 16) (j.val : Int) = ((UInt8.ofNat (i.val * 16 + j.val)).toNat : Int) := by decide +kernel
  exact this ⟨a, ha⟩ ⟨b, hb⟩

set_option maxHeartbeats 2000000 in
set_option maxRecDepth 100000 in
theorem decode_any (s : ByteArray) (w : World) (hs : s.size ≤ 1000000) :
    Calls Tryz.prog 83 #[.string s] w fun e w' => e = .returned (.string ⟨(dec s.data.toList).toArray⟩) ∧ Below w.heap.size w w' := by
  go_enter Tryz.func83, Tryz.ntmps83
  go_wp2_with fail
  go_loopw [4] (fun i wr => ∃ k : Nat, ∃ acc : List UInt8, k ≤ s.size ∧ i = .int .i64 k ∧ Hid (acc ++ dec (s.data.toList.drop k) = dec s.data.toList) ∧ acc.length ≤ k ∧ SB w.heap.size w.heap.size acc wr ∧ Below w.heap.size w wr) (fun i _ => s.size - (intOf i).toNat)
  case atStart => exact ⟨0, [], Nat.zero_le _, rfl, rfl, Nat.le_refl _, SB.fresh w, (Below.refl _ _).alloc (Nat.le_refl _) _⟩
  case round =>
    obtain ⟨k, acc, hk, rfl, hacc, hal, hsb, hbel⟩ := hrel
    have hsz := hbel.size
    by_cases hlt : k < s.size
    · by_cases he : EscAt s k
      · obtain ⟨h2, h0, hd1, hd2⟩ := he
        have hT := Lib.hid (dec_at_yes s k h2 h0 hd1 hd2)
        have E : ((s[k].toNat : Int) == 37) = true := by rw [h0]; rfl
        have h1' : ((digN s[k + 1] : Nat) : Int) < 16 := by omega
        have h2' : ((digN s[k + 2] : Nat) : Int) < 16 := by omega
        have h3' : (k : Int) + 2 < (s.size : Int) := by omega
        clear h0
        go_wp2_with fail
        refine (digit_any s[k + 1] _).mono ?_
        rintro e w' ⟨rfl, rfl⟩
        go_wp2_with fail
        refine (digit_any s[k + 2] _).mono ?_
        rintro e w' ⟨rfl, rfl⟩
        go_wp2_with fail
        have s1 : IntKind.i64.wrap ((k : Int) + 1) = (k : Int) + 1 := IntWalk.i64_in _ (by omega)
        have s2 : IntKind.i64.wrap ((k : Int) + 2) = (k : Int) + 2 := IntWalk.i64_in _ (by omega)
        have s3 : (0 : Int) ≤ (k : Int) + 1 := by omega
        have s4 : (0 : Int) ≤ (k : Int) + 2 := by omega
        have s5 : (k : Int) + 1 < (s.size : Int) := by omega
        have s6 : ((k : Int) + 1).toNat = k + 1 := by omega
        have s7 : ((k : Int) + 2).toNat = k + 2 := by omega
        refine wp_region_still_tail 12 (by kernel_rfl) (by kernel_rfl) ?_
        simp only [List.take_succ_cons, List.take_zero, List.drop_succ_cons, List.drop_zero]
        repeat still_step
        still_call ((digit_any s[k + 1] _).mono fun e w' ⟨he, hw⟩ => ⟨he, hw.symm⟩)
        repeat still_step
        still_call ((digit_any s[k + 2] _).mono fun e w' ⟨he, hw⟩ => ⟨he, hw.symm⟩)
        repeat still_step
        refine wpStill_nil ?_
        change wpList _ _ _ _ _ wr.drew
        have hsb2 : SB w.heap.size w.heap.size acc wr.drew := hsb
        have hbel2 : Below w.heap.size w wr.drew := hbel.drew
        have hsz2 : w.heap.size ≤ wr.drew.heap.size := hsz
        generalize wr.drew = w2 at *
        go_wp2_with fail
        refine (writeByte_any w.heap.size w.heap.size acc (UInt8.ofNat (digN s[k + 1] * 16 + digN s[k + 2])) (or_hex _ _ hd1 hd2) w2 hsb2 (by omega) hsz2).mono ?_
        rintro e w3 ⟨rfl, hs3, hk3⟩
        go_wp2_with fail
        go_roundw
        case rel => exact ⟨k + 3, acc ++ [UInt8.ofNat (digN s[k + 1] * 16 + digN s[k + 2])], by omega, by go_num, by unfold Hid; rw [List.append_assoc, ← hacc.out, hT.out]; rfl, by simp; omega, hs3, hbel2.trans hk3.1⟩
        case measure => simp [intOf]; omega
      · have hT := Lib.hid (dec_at_no s k hlt he)
        have fin : ∀ w3 : World, SB w.heap.size w.heap.size (acc ++ [s[k]]) w3 → SK w.heap.size w.heap.size wr w3 →
            ∃ q : Nat, ∃ acc' : List UInt8, q ≤ s.size ∧ Value.int .i64 ((k : Int) + 1) = .int .i64 q ∧ Hid (acc' ++ dec (s.data.toList.drop q) = dec s.data.toList) ∧ acc'.length ≤ q ∧ SB w.heap.size w.heap.size acc' w3 ∧ Below w.heap.size w w3 := fun w3 hs3 hk3 =>
          ⟨k + 1, acc ++ [s[k]], by omega, by go_num, by unfold Hid; rw [List.append_assoc, ← hacc.out, hT.out]; rfl, by simp; omega, hs3, hbel.trans hk3.1⟩
        have Fin := Lib.hid fin
        clear fin
        by_cases h0 : s[k] = 37
        · have E : ((s[k].toNat : Int) == 37) = true := by rw [h0]; rfl
          by_cases h2 : k + 2 < s.size
          · have h3' : (k : Int) + 2 < (s.size : Int) := by omega
            by_cases hd1 : digN s[k + 1] < 16
            · have h1' : ((digN s[k + 1] : Nat) : Int) < 16 := by omega
              have hd2 : ¬ digN s[k + 2] < 16 := fun h => he ⟨h2, h0, hd1, h⟩
              have h2' : decide (((digN s[k + 2] : Nat) : Int) < 16) = false := by simp; omega
              clear h0 hd2
              go_wp2_with fail
              refine (digit_any s[k + 1] _).mono ?_
              rintro e w' ⟨rfl, rfl⟩
              go_wp2_with fail
              refine (digit_any s[k + 2] _).mono ?_
              rintro e w' ⟨rfl, rfl⟩
              go_wp2_with fail
              refine (writeByte_any w.heap.size w.heap.size acc s[k] rfl wr hsb (by omega) hsz).mono ?_
              rintro e w3 ⟨rfl, hs3, hk3⟩
              go_wp2_with fail
              go_roundw
              case rel => exact Fin.out _ hs3 hk3
              case measure => simp [intOf]; omega
            · have h1' : decide (((digN s[k + 1] : Nat) : Int) < 16) = false := by simp; omega
              clear h0 hd1
              go_wp2_with fail
              refine (digit_any s[k + 1] _).mono ?_
              rintro e w' ⟨rfl, rfl⟩
              go_wp2_with fail
              refine (writeByte_any w.heap.size w.heap.size acc s[k] rfl wr hsb (by omega) hsz).mono ?_
              rintro e w3 ⟨rfl, hs3, hk3⟩
              go_wp2_with fail
              go_roundw
              case rel => exact Fin.out _ hs3 hk3
              case measure => simp [intOf]; omega
          · have h3' : decide ((k : Int) + 2 < (s.size : Int)) = false := by simp; omega
            clear h0 h2
            go_wp2_with fail
            refine (writeByte_any w.heap.size w.heap.size acc s[k] rfl wr hsb (by omega) hsz).mono ?_
            rintro e w3 ⟨rfl, hs3, hk3⟩
            go_wp2_with fail
            go_roundw
            case rel => exact Fin.out _ hs3 hk3
            case measure => simp [intOf]; omega
        · have E : ((s[k].toNat : Int) == 37) = false := by
            have := byteEq_no h0
            exact this
          clear h0
          go_wp2_with fail
          refine (writeByte_any w.heap.size w.heap.size acc s[k] rfl wr hsb (by omega) hsz).mono ?_
          rintro e w3 ⟨rfl, hs3, hk3⟩
          go_wp2_with fail
          go_roundw
          case rel => exact Fin.out _ hs3 hk3
          case measure => simp [intOf]; omega
    · obtain rfl : k = s.size := by omega
      have ha : acc = dec s.data.toList := by
        have := hacc.out
        rw [List.drop_eq_nil_of_le (by simp)] at this
        simpa [dec] using this
      have HA := Lib.hid ha
      clear ha
      go_wp2_with fail
      refine (string_any w.heap.size w.heap.size _ _ hsb hsz).mono ?_
      rintro e w1 ⟨rfl, hs1, hk1⟩
      go_wp2_with fail
      go_ret
      exact ⟨ret_str HA.out, hbel.trans hk1.1⟩
end Go.Proofs.YtafbghlldlconaaGreatDoor

/-
  PLAIN LAWS ON ESCAPES AS FORMS HAVE THEM: no program in sight.
-/
namespace Go.Proofs.YtafbghlldlconaaGreatDoor.PT
set_option linter.unusedVariables false
set_option linter.unusedSimpArgs false

/-- a text escaped as forms do -/
def form : List UInt8 → List UInt8
  | [] => []
  | c :: r => (if c = 32 then [43] else encL 7 [c]) ++ form r
theorem form_append (a b : List UInt8) : form (a ++ b) = form a ++ form b := by
  induction a with
  | nil => rfl
  | cons c a ih => simp [form, ih]
theorem encL_one (z : Int) (c : UInt8) : encL z [c] = if escB z c then [37, hexU (c.toNat / 16), hexU (c.toNat % 16)] else [c] := by simp [encL]
theorem form_len (l : List UInt8) : (form l).length ≤ 3 * l.length := by
  induction l with
  | nil => simp [form]
  | cons c l ih =>
    simp only [form, List.length_append, List.length_cons]
    split
    · simp; omega
    · rw [encL_one]; split <;> simp <;> omega
theorem byte_all {P : UInt8 → Prop} (h : ∀ n : Fin 256, P (UInt8.ofNat n.val)) (c : UInt8) : P c := by
  have := h ⟨c.toNat, c.toNat_lt⟩
  simpa using this
theorem hexU_ne (n : Nat) (h : n < 16) : hexU n ≠ 37 ∧ hexU n ≠ 43 := by
  have : ∀ i : Fin 16, hexU i.val ≠ 37 ∧ hexU i.val ≠ 43 := by decide
  exact this ⟨n, h⟩
theorem hex_20 (c : UInt8) (h1 : hexU (c.toNat / 16) = 50) (h2 : hexU (c.toNat % 16) = 48) : c = 32 := by
  revert h1 h2
  refine byte_all (P := fun c => hexU (c.toNat / 16) = 50 → hexU (c.toNat % 16) = 48 → c = 32) ?_ c
  decide +kernel
theorem esc7 (c : UInt8) : escB 7 c = false → c ≠ 37 ∧ c ≠ 43 ∧ c ≠ 32 := by
  refine byte_all (P := fun c => escB 7 c = false → c ≠ 37 ∧ c ≠ 43 ∧ c ≠ 32) ?_ c
  decide +kernel
theorem pre_37 (c : UInt8) (r : List UInt8) (h : c ≠ 37) : [37, 50, 48].isPrefixOf (c :: r) = false := by
  simp only [List.isPrefixOf, Bool.and_eq_false_imp]
  intro e
  exact absurd (beq_iff_eq.1 e).symm h
theorem form_rep (l : List UInt8) : rep [37, 50, 48] [43] (encL 7 l) = form l := by
  induction l with
  | nil => exact rep_nil _ _ (by simp)
  | cons c r ih =>
    have hc : c.toNat < 256 := c.toNat_lt
    unfold encL form
    rw [encL_one]
    cases he : escB 7 c
    · have h3 := esc7 c he
      rw [if_neg h3.2.2, if_neg (by simp)]
      show rep _ _ (c :: encL 7 r) = c :: form r
      rw [rep_miss _ _ _ _ (by simp) (pre_37 _ _ h3.1), ih]
    · rw [if_pos rfl]
      by_cases h32 : c = 32
      · subst h32
        rw [if_pos rfl]
        show rep [37, 50, 48] [43] (37 :: 50 :: 48 :: encL 7 r) = 43 :: form r
        rw [rep_hit _ _ _ (by simp) (by simp [List.isPrefixOf])]
        simp [ih]
      · rw [if_neg h32]
        show rep [37, 50, 48] [43] (37 :: hexU (c.toNat / 16) :: hexU (c.toNat % 16) :: encL 7 r) = 37 :: hexU (c.toNat / 16) :: hexU (c.toNat % 16) :: form r
        have h1 := (hexU_ne (c.toNat / 16) (by omega)).1
        have h2 := (hexU_ne (c.toNat % 16) (by omega)).1
        have hp : [37, 50, 48].isPrefixOf (37 :: hexU (c.toNat / 16) :: hexU (c.toNat % 16) :: encL 7 r) = false := by
          cases hh : [37, 50, 48].isPrefixOf (37 :: hexU (c.toNat / 16) :: hexU (c.toNat % 16) :: encL 7 r)
          · rfl
          · exfalso
            simp only [List.isPrefixOf, Bool.and_eq_true, beq_iff_eq] at hh
            exact h32 (hex_20 c hh.2.1.symm hh.2.2.1.symm)
        rw [rep_miss _ _ _ _ (by simp) hp, rep_miss _ _ _ _ (by simp) (pre_37 _ _ h1), rep_miss _ _ _ _ (by simp) (pre_37 _ _ h2), ih]

/-- one byte in the place of another -/
def turn (o n : UInt8) (l : List UInt8) : List UInt8 := l.map fun c => if c = o then n else c
theorem sub1_turn (o n : UInt8) (l : List UInt8) : sub1 o [n] l = turn o n l := by
  induction l with
  | nil => rfl
  | cons c l ih =>
    rw [sub1, turn, List.map_cons]
    split
    · rw [ih]; rfl
    · rw [ih]; rfl
def unform (l : List UInt8) : List UInt8 := dec (turn 43 32 l)
theorem turn_append (o n : UInt8) (a b : List UInt8) : turn o n (a ++ b) = turn o n a ++ turn o n b := by simp [turn]
theorem unform_form (l : List UInt8) : unform (form l) = l := by
  unfold unform
  induction l with
  | nil => rfl
  | cons c r ih =>
    have hc : c.toNat < 256 := c.toNat_lt
    unfold form
    rw [encL_one, turn_append]
    by_cases h32 : c = 32
    · subst h32
      rw [if_pos rfl]
      show dec (32 :: turn 43 32 (form r)) = _
      rw [dec_cons_ne _ (by decide), ih]
    · rw [if_neg h32]
      cases he : escB 7 c
      · have h3 := esc7 c he
        rw [if_neg (by simp)]
        show dec ((if c = 43 then 32 else c) :: turn 43 32 (form r)) = _
        rw [if_neg h3.2.1, dec_cons_ne _ h3.1, ih]
      · rw [if_pos rfl]
        show dec ((if (37 : UInt8) = 43 then 32 else 37) :: (if hexU (c.toNat / 16) = 43 then 32 else hexU (c.toNat / 16)) :: (if hexU (c.toNat % 16) = 43 then 32 else hexU (c.toNat % 16)) :: turn 43 32 (form r)) = _
        rw [if_neg (by decide), if_neg (hexU_ne _ (by omega)).2, if_neg (hexU_ne _ (by omega)).2, dec_yes _ _ _ (by rw [digN_hexU _ (by omega)]; omega) (by rw [digN_hexU _ (by omega)]; omega), digN_hexU _ (by omega), digN_hexU _ (by omega), ih, show c.toNat / 16 * 16 + c.toNat % 16 = c.toNat by omega]
        simp
theorem turn_len (o n : UInt8) (l : List UInt8) : (turn o n l).length = l.length := by simp [turn]
end Go.Proofs.YtafbghlldlconaaGreatDoor.PT

/-
  escape.Form, escape.Unform and ref02.Form, ref02.turned, ref02.Unform: the walks.
-/
namespace Go.Proofs.YtafbghlldlconaaGreatDoor
set_option linter.unusedVariables false
set_option linter.unusedSimpArgs false
open Go.RowKit PT

theorem form_any (s : ByteArray) (hs : s.size ≤ 200000) (w : World) (hT : Tables w) :
    Calls Tryz.prog 60 #[.string s] w fun e w' => e = .returned (.string ⟨(form s.data.toList).toArray⟩) ∧ Below w.heap.size w w' := by
  have hl := encL_len 7 s.data.toList
  rw [size_list] at hl
  go_enter Tryz.func60, Tryz.ntmps60
  go_wp2_with fail
  refine (encode_any s 7 _ hs (by omega)).mono ?_
  rintro e w1 ⟨rfl, hb1⟩
  go_wp2_with fail
  refine (replaceAll_any _ [37, 50, 48] [43] (by rw [size_mk]; omega) (by decide) (by decide) (by decide) _ (hT.kept hb1)).mono ?_
  rintro e w2 ⟨rfl, hb2⟩
  go_wp2_with fail
  go_ret
  exact ⟨ret_str (form_rep _), bs hb1 hb2⟩

theorem unform_any (s : ByteArray) (hs : s.size ≤ 900000) (w : World) (hT : Tables w) :
    Calls Tryz.prog 43 #[.string s] w fun e w' => e = .returned (.string ⟨(unform s.data.toList).toArray⟩) ∧ Below w.heap.size w w' := by
  go_enter Tryz.func43, Tryz.ntmps43
  go_wp2_with fail
  refine (replaceAll_any s [43] [32] (by omega) (by decide) (by decide) (by decide) _ hT).mono ?_
  rintro e w1 ⟨rfl, hb1⟩
  rw [rep_one, sub1_turn]
  go_wp2_with fail
  refine (decode_any _ _ (by rw [size_mk, turn_len, size_list]; omega)).mono ?_
  rintro e w2 ⟨rfl, hb2⟩
  go_wp2_with fail
  go_ret
  exact ⟨rfl, bs hb1 hb2⟩

theorem form_snoc_32 (s : ByteArray) (k : Nat) (h : k < s.size) (h32 : s[k] = 32) : form (s.data.toList.take (k + 1)) = form (s.data.toList.take k) ++ [43] := by
  rw [take_snoc s k h, form_append, h32]; rfl
theorem form_snoc (s : ByteArray) (k : Nat) (h : k < s.size) (h32 : s[k] ≠ 32) : form (s.data.toList.take (k + 1)) = form (s.data.toList.take k) ++ encL 7 [s[k]] := by
  rw [take_snoc s k h, form_append]
  simp [form, h32]
theorem one_cut (s : ByteArray) (k : Nat) (h : k < s.size) : s.extract k (k + 1) = ⟨[s[k]].toArray⟩ := by
  apply ByteArray.ext
  apply Array.toList_inj.1
  rw [Lib.extract_data, show k + 1 - k = 1 by omega, drop_cons' s k h]
  rfl

set_option maxHeartbeats 1000000 in
set_option maxRecDepth 100000 in
theorem refForm02_any (s : ByteArray) (hs : s.size ≤ 200000) (w : World) :
    Calls Tryz.prog 73 #[.string s] w fun e w' => e = .returned (.string ⟨(form s.data.toList).toArray⟩) ∧ Below w.heap.size w w' := by
  go_enter Tryz.func73, Tryz.ntmps73
  go_wp2_with fail
  go_loopw [4, 3] (fun i v wr => ∃ k : Nat, k ≤ s.size ∧ i = .int .i64 k ∧ OB w.heap.size (form (s.data.toList.take k)) v wr ∧ Below w.heap.size w wr) (fun i _ _ => s.size - (intOf i).toNat)
  case atStart => exact ⟨0, Nat.zero_le _, rfl, OB.nil _ _, Below.refl _ _⟩
  case round =>
    obtain ⟨k, hk, rfl, hown, hbel⟩ := hrel
    have hsz := hbel.size
    have hl := form_len (s.data.toList.take k)
    have hl2 : (s.data.toList.take k).length ≤ s.size := by simp; omega
    by_cases hlt : k < s.size
    · have hle1 : (k : Int) ≤ (k : Int) + 1 := by omega
      have hle2 : (k : Int) + 1 ≤ (s.size : Int) := by omega
      have hE := Lib.hid (one_cut s k hlt)
      go_wp2_with fail
      rw [hE.out]
      refine (refEncode_any _ 7 _ (by rw [size_mk]; simp) (by omega)).mono ?_
      rintro e w2 ⟨rfl, hb2⟩
      have hown2 := hown.kept hb2
      have hz2 := hb2.size
      have hbel2 : Below w.heap.size w w2 := hbel.trans (hb2.mono hsz)
      have hel := encL_len 7 [s[k]]
      simp only [List.length_cons, List.length_nil] at hel
      by_cases h32 : s[k] = 32
      · have hT := Lib.hid (form_snoc_32 s k hlt h32)
        have E : ((s[k].toNat : Int) == 32) = true := byteEq_yes h32
        clear h32 hel
        go_wp2_with (at_builtin; refine wpList_append_text rfl _ _ rfl rfl rfl hown2 (t := ⟨#[43]⟩) (by rw [show (ByteArray.mk #[43]).size = 1 from rfl]; omega) (by omega) ?_; intro v3 w3 hown3 hb3)
        go_roundw
        case rel => exact ⟨k + 1, by omega, by go_num, by rw [hT.out]; exact hown3, hbel2.trans hb3⟩
        case measure => simp [intOf]; omega
      · have hT := Lib.hid (form_snoc s k hlt h32)
        have E : ((s[k].toNat : Int) == 32) = false := byteEq_no h32
        have hL : (form (s.data.toList.take k)).length + (ByteArray.mk (encL 7 [s[k]]).toArray).size < 70368744177664 := by rw [size_mk]; omega
        clear h32 hel
        go_wp2_with (at_builtin; refine wpList_append_text rfl _ _ rfl rfl rfl hown2 hL (by omega) ?_; intro v3 w3 hown3 hb3)
        go_roundw
        case rel => exact ⟨k + 1, by omega, by go_num, by rw [hT.out]; exact hown3, hbel2.trans hb3⟩
        case measure => simp [intOf]; omega
    · obtain rfl : k = s.size := by omega
      have hcb := hown.conv
      rw [List.take_of_length_le (show s.data.toList.length ≤ s.size by simp)] at hcb
      go_wp2_with fail
      go_ret
      exact ⟨rfl, hbel⟩

end Go.Proofs.YtafbghlldlconaaGreatDoor
