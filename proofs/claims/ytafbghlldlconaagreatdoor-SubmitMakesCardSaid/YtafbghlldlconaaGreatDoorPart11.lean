import Derived.Test.YtafbghlldlconaaGreatDoorPart2
import Derived.Test.YtafbghlldlconaaGreatDoorShelf
import Derived.Test.YtafbghlldlconaaGreatDoorPart10
import Derived.Lib.Join
import Derived.Test.YtafbghlldlconaaGreatDoorPart9
import Derived.Test.YtafbghlldlconaaGreatDoorPart3
import Derived.Test.YtafbghlldlconaaGreatDoorPart1
import Derived.Lib.SplitLaws
import Derived.Lib.FrozenHead2
import Derived.Lib.OthersKept
import Derived.Laws.Externs
import Derived.Lib.Bytealg
/-
  text.Lines, text.Pairs, text.NoBreaks and ref01.ends, Lines, Pairs, NoBreaks: the walks.
-/
namespace Go.Proofs.YtafbghlldlconaaGreatDoor
set_option linter.unusedVariables false
set_option linter.unusedSimpArgs false
open Go.RowKit PT

theorem replaceAll_any (s : ByteArray) (o n : List UInt8) (hs : s.size ≤ 10000000) (hn : n.length ≤ 10) (ho : 1 ≤ o.length) (hne : o ≠ n) (w : World) (hT : Tables w) :
    Calls Tryz.prog 84 #[.string s, .string ⟨o.toArray⟩, .string ⟨n.toArray⟩] w fun e w' => e = .returned (.string ⟨(rep o n s.data.toList).toArray⟩) ∧ Below w.heap.size w w' := by
  have hc : Lib.countB s ⟨o.toArray⟩ ≤ s.size + 1 := by
    have := Lib.count_le s.data.toList o
    rw [size_list] at this
    exact this
  have hm : Lib.countB s ⟨o.toArray⟩ * (ByteArray.mk n.toArray).size ≤ (s.size + 1) * 10 := Nat.mul_le_mul hc (by rw [size_mk]; exact hn)
  refine (Tryz.strings_ReplaceAll_shaped s ⟨o.toArray⟩ ⟨n.toArray⟩ w hT.shape (by omega) (by rw [size_mk]; exact ho) (by omega)).mono ?_
  rintro e w' ⟨rfl, hb⟩
  refine ⟨?_, hb⟩
  rw [show (ByteArray.mk o.toArray).data.toList = o from rfl, show (ByteArray.mk n.toArray).data.toList = n from rfl, replaceAll_rep _ _ _ hne]

theorem lines_any (s : ByteArray) (hs : s.size ≤ 4000000) (w : World) (hT : Tables w) :
    Calls Tryz.prog 130 #[.string s] w fun e w' => e = .returned (.string ⟨(ends [10] s.data.toList).toArray⟩) ∧ Below w.heap.size w w' := by
  go_enter Tryz.func130, Tryz.ntmps130
  go_wp2_with fail
  refine (replaceAll_any s [13, 10] [10] (by omega) (by decide) (by decide) (by decide) _ hT).mono ?_
  rintro e w1 ⟨rfl, hb1⟩
  have hl : (rep [13, 10] [10] s.data.toList).length ≤ 10000000 := by
    have := rep_len [13, 10] [10] (by simp) _ _ (Nat.le_refl s.data.toList.length)
    rw [size_list] at this
    simp only [List.length_cons, List.length_nil] at this
    omega
  go_wp2_with fail
  refine (replaceAll_any _ [13] [10] (by rw [size_mk]; exact hl) (by decide) (by decide) (by decide) _ (hT.kept hb1)).mono ?_
  rintro e w2 ⟨rfl, hb2⟩
  go_wp2_with fail
  go_ret
  exact ⟨ret_str (by rw [rep_one]; exact lines_eq _), bs hb1 hb2⟩

theorem ends_A (w : List UInt8) (s : ByteArray) (k : Nat) (h : k < s.size) (h0 : s[k] ≠ 10) (h1 : s[k] ≠ 13) : ends w (s.data.toList.drop k) = s[k] :: ends w (s.data.toList.drop (k + 1)) := by
  rw [drop_cons' s k h, ends_cons_plain]
  simp [brk, h0, h1]
theorem ends_B (w : List UInt8) (s : ByteArray) (k : Nat) (h : k < s.size) (h0 : s[k] = 10) : ends w (s.data.toList.drop k) = w ++ ends w (s.data.toList.drop (k + 1)) := by
  rw [drop_cons' s k h, h0, ends_cons_lf]
theorem ends_C (w : List UInt8) (s : ByteArray) (k : Nat) (h : k + 1 < s.size) (h0 : s[k] = 13) (h1 : s[k + 1] = 10) : ends w (s.data.toList.drop k) = w ++ ends w (s.data.toList.drop (k + 2)) := by
  rw [drop_cons' s k (by omega), drop_cons' s (k + 1) h, h0, h1, ends_crlf]
theorem ends_D (w : List UInt8) (s : ByteArray) (k : Nat) (h : k < s.size) (h0 : s[k] = 13) (h1 : ∀ h' : k + 1 < s.size, s[k + 1] ≠ 10) : ends w (s.data.toList.drop k) = w ++ ends w (s.data.toList.drop (k + 1)) := by
  rw [drop_cons' s k h, ends_one, h0]
  · rfl
  · rintro ⟨_, h2⟩
    by_cases h' : k + 1 < s.size
    · rw [drop_cons' s (k + 1) h'] at h2
      exact h1 h' (by simpa using h2)
    · rw [List.drop_eq_nil_of_le (by simp; omega)] at h2
      cases h2

set_option maxHeartbeats 1000000 in
set_option maxRecDepth 100000 in
theorem refEnds_any (s : ByteArray) (v : List UInt8) (hs : s.size ≤ 4000000) (hv : v.length ≤ 10) (w : World) :
    Calls Tryz.prog 85 #[.string s, .string ⟨v.toArray⟩] w fun e w' => e = .returned (.string ⟨(ends v s.data.toList).toArray⟩) ∧ Below w.heap.size w w' := by
  have hvs : (ByteArray.mk v.toArray).size = v.length := size_mk v
  obtain ⟨V, hV, hV2⟩ : ∃ V : ByteArray, V = ⟨v.toArray⟩ ∧ V.data.toList = v := ⟨_, rfl, rfl⟩
  rw [← hV] at hvs ⊢
  have HV := Lib.hid hV2
  have HZ := Lib.hid hvs
  clear hV hV2 hvs
  go_enter Tryz.func85, Tryz.ntmps85
  go_wp2_with fail
  go_loopw [6, 5] (fun i x wr => ∃ k : Nat, ∃ acc : List UInt8, k ≤ s.size ∧ i = .int .i64 k ∧ Hid (acc ++ ends v (s.data.toList.drop k) = ends v s.data.toList) ∧ acc.length ≤ 10 * k ∧ OB w.heap.size acc x wr ∧ Below w.heap.size w wr) (fun i _ _ => s.size - (intOf i).toNat)
  case atStart => exact ⟨0, [], Nat.zero_le _, rfl, rfl, Nat.le_refl _, OB.nil _ _, Below.refl _ _⟩
  case round =>
    obtain ⟨k, acc, hk, rfl, hacc, hal, hown, hbel⟩ := hrel
    have hsz := hbel.size
    have hlen : acc.length + V.size < 70368744177664 := by rw [HZ.out]; omega
    by_cases hlt : k < s.size
    · by_cases h10 : s[k] = 10
      · have hT := Lib.hid (ends_B v s k hlt h10)
        have E1 : ((s[k].toNat : Int) != 10) = false := byteNe_yes h10
        have E2 : ((s[k].toNat : Int) == 13) = false := by rw [h10]; rfl
        clear h10
        go_wp2_with (at_builtin; refine wpList_append_text rfl _ _ rfl rfl rfl hown hlen hsz ?_; intro v' w3 hown3 hb3)
        go_roundw
        case rel => exact ⟨k + 1, acc ++ v, by omega, by go_num, by unfold Hid; rw [List.append_assoc, ← hacc.out, hT.out], by rw [List.length_append]; omega, by rw [HV.out] at hown3; exact hown3, hbel.trans hb3⟩
        case measure => simp [intOf]; omega
      · by_cases h13 : s[k] = 13
        · have E1 : ((s[k].toNat : Int) != 10) = true := byteNe_no h10
          have E2 : ((s[k].toNat : Int) != 13) = false := byteNe_yes h13
          have E3 : ((s[k].toNat : Int) == 13) = true := byteEq_yes h13
          by_cases h1 : k + 1 < s.size
          · by_cases h2 : s[k + 1] = 10
            · have hT := Lib.hid (ends_C v s k h1 h13 h2)
              have E4 : ((s[k + 1].toNat : Int) == 10) = true := byteEq_yes h2
              have h1' : (k : Int) + 1 < (s.size : Int) := by omega
              clear h10 h13 h2
              go_wp2_with (at_builtin; refine wpList_append_text rfl _ _ rfl rfl rfl hown hlen hsz ?_; intro v' w3 hown3 hb3)
              go_roundw
              case rel => exact ⟨k + 2, acc ++ v, by omega, by go_num, by unfold Hid; rw [List.append_assoc, ← hacc.out, hT.out], by rw [List.length_append]; omega, by rw [HV.out] at hown3; exact hown3, hbel.trans hb3⟩
              case measure => simp [intOf]; omega
            · have hT := Lib.hid (ends_D v s k hlt h13 (fun _ => h2))
              have E4 : ((s[k + 1].toNat : Int) == 10) = false := byteEq_no h2
              have h1' : (k : Int) + 1 < (s.size : Int) := by omega
              clear h10 h13 h2
              go_wp2_with (at_builtin; refine wpList_append_text rfl _ _ rfl rfl rfl hown hlen hsz ?_; intro v' w3 hown3 hb3)
              go_roundw
              case rel => exact ⟨k + 1, acc ++ v, by omega, by go_num, by unfold Hid; rw [List.append_assoc, ← hacc.out, hT.out], by rw [List.length_append]; omega, by rw [HV.out] at hown3; exact hown3, hbel.trans hb3⟩
              case measure => simp [intOf]; omega
          · have hT := Lib.hid (ends_D v s k hlt h13 (fun h => absurd h h1))
            have h1' : decide ((k : Int) + 1 < (s.size : Int)) = false := by simp; omega
            clear h10 h13 h1
            go_wp2_with (at_builtin; refine wpList_append_text rfl _ _ rfl rfl rfl hown hlen hsz ?_; intro v' w3 hown3 hb3)
            go_roundw
            case rel => exact ⟨k + 1, acc ++ v, by omega, by go_num, by unfold Hid; rw [List.append_assoc, ← hacc.out, hT.out], by rw [List.length_append]; omega, by rw [HV.out] at hown3; exact hown3, hbel.trans hb3⟩
            case measure => simp [intOf]; omega
        · have hT := Lib.hid (ends_A v s k hlt h10 h13)
          have E1 : ((s[k].toNat : Int) != 10) = true := byteNe_no h10
          have E2 : ((s[k].toNat : Int) != 13) = true := byteNe_no h13
          clear h10 h13
          go_wp2_with (at_builtin; refine wpList_append_byte rfl _ _ rfl rfl rfl s[k] rfl hown (by omega) hsz ?_; intro v' w3 hown3 hb3)
          go_roundw
          case rel => exact ⟨k + 1, acc ++ [s[k]], by omega, by go_num, by unfold Hid; rw [List.append_assoc, ← hacc.out, hT.out]; rfl, by simp; omega, hown3, hbel.trans hb3⟩
          case measure => simp [intOf]; omega
    · obtain rfl : k = s.size := by omega
      have ha : acc = ends v s.data.toList := by
        have := hacc.out
        rw [List.drop_eq_nil_of_le (by simp)] at this
        simpa [ends] using this
      have HA := Lib.hid ha
      clear ha
      have hcb := hown.conv
      go_wp2_with fail
      go_ret
      exact ⟨ret_str HA.out, hbel⟩

theorem sub1_len (o : UInt8) (new l : List UInt8) : (sub1 o new l).length ≤ (new.length + 1) * l.length := by
  have := rep_len [o] new (by simp) _ _ (Nat.le_refl l.length)
  rwa [rep_one] at this

theorem pairs_any (s : ByteArray) (hs : s.size ≤ 4000000) (w : World) (hT : Tables w) :
    Calls Tryz.prog 96 #[.string s] w fun e w' => e = .returned (.string ⟨(ends [13, 10] s.data.toList).toArray⟩) ∧ Below w.heap.size w w' := by
  have hl : (ends [10] s.data.toList).length ≤ 10000000 := by
    have := ends_len [10] s.data.toList
    rw [size_list] at this
    simp only [List.length_cons, List.length_nil] at this
    omega
  go_enter Tryz.func96, Tryz.ntmps96
  go_wp2_with fail
  refine (lines_any s hs _ hT).mono ?_
  rintro e w1 ⟨rfl, hb1⟩
  go_wp2_with fail
  refine (replaceAll_any _ [10] [13, 10] (by rw [size_mk]; exact hl) (by decide) (by decide) (by decide) _ (hT.kept hb1)).mono ?_
  rintro e w2 ⟨rfl, hb2⟩
  go_wp2_with fail
  go_ret
  exact ⟨ret_str (by rw [rep_one]; exact pairs_eq _), bs hb1 hb2⟩

theorem refPairs_any (s : ByteArray) (hs : s.size ≤ 4000000) (w : World) :
    Calls Tryz.prog 44 #[.string s] w fun e w' => e = .returned (.string ⟨(ends [13, 10] s.data.toList).toArray⟩) ∧ Below w.heap.size w w' := by
  go_enter Tryz.func44, Tryz.ntmps44
  go_wp2_with fail
  refine (refEnds_any s [13, 10] hs (by decide) _).mono ?_
  rintro e w1 ⟨rfl, hb1⟩
  go_wp2_with fail
  go_ret
  exact ⟨rfl, hb1⟩
end Go.Proofs.YtafbghlldlconaaGreatDoor

/-
  urlenc.tells, urlenc.Plain: the walks.
-/
namespace Go.Proofs.YtafbghlldlconaaGreatDoor
set_option linter.unusedVariables false
set_option linter.unusedSimpArgs false
open Go.RowKit PT

/-- what an entry tells: its name and its value, ends of lines told by two bytes -/
def telN (x : Ent) : List UInt8 := ends [13, 10] x.n.data.toList
def telV (x : Ent) : List UInt8 := ends [13, 10] (if x.f then x.fn else x.v).data.toList
def tel (x : Ent) : Ent := ⟨⟨(telN x).toArray⟩, ⟨(telV x).toArray⟩, false, ⟨#[]⟩, ⟨#[]⟩⟩
/-- no text of an entry is long -/
def Short (x : Ent) : Prop := x.n.size ≤ 2000 ∧ x.v.size ≤ 2000 ∧ x.fn.size ≤ 2000 ∧ x.t.size ≤ 2000

set_option maxHeartbeats 1000000 in
set_option maxRecDepth 100000 in
theorem tells_any (x : Ent) (w : World) (hT : Tables w) (h1 : x.n.size ≤ 4000000) (h2 : x.v.size ≤ 4000000) (h3 : x.fn.size ≤ 4000000) :
    Calls Tryz.prog 59 #[entV x] w fun e w' => e = .returned (.tuple #[.string ⟨(telN x).toArray⟩, .string ⟨(telV x).toArray⟩]) ∧ Below w.heap.size w w' := by
  obtain ⟨n, v, f, fn, t⟩ := x
  unfold entV
  simp only at h1 h2 h3 ⊢
  have hb0 := (Below.refl w.heap.size w).alloc (Nat.le_refl _) (.cells #[.string n, .string v, .bool f, .string fn, .string t] 73)
  cases f
  all_goals
    have hT0 := hT.kept hb0
    go_enter Tryz.func59, Tryz.ntmps59
    go_wp2_with fail
    refine (pairs_any _ h1 _ hT0).mono ?_
    rintro e w1 ⟨rfl, hb1⟩
    have hT1 := hT0.kept hb1
    go_wp2_with fail
    refine (pairs_any _ (by assumption) _ hT1).mono ?_
    rintro e w2 ⟨rfl, hb2⟩
    go_wp2_with fail
    go_ret2
    exact ⟨rfl, bs (bs hb0 hb1) hb2⟩
set_option maxHeartbeats 1000000 in
set_option maxRecDepth 100000 in
theorem plain_any (es : List Ent) (v : Value) (w : World) (hE : Ents es v w) (hT : Tables w) (hl : es.length ≤ 1000) (hS : ∀ x ∈ es, Short x) :
    Calls Tryz.prog 106 #[v] w fun e w' => (∃ v', e = .returned v' ∧ OE w.heap.size (es.map tel) v' w') ∧ Below w.heap.size w w' := by
  obtain ⟨a, cap, rfl⟩ := hE.len
  go_enter Tryz.func106, Tryz.ntmps106
  go_wp2_with fail
  go_loopw [10, 3] (fun i v wr => ∃ k : Nat, k ≤ es.length ∧ i = .int .i64 k ∧ OE w.heap.size ((es.take k).map tel) v wr ∧ Below w.heap.size w wr) (fun i _ _ => es.length - (intOf i).toNat)
  case atStart => exact ⟨0, Nat.zero_le _, rfl, OE.nil _ _, Below.refl _ _⟩
  case round =>
    obtain ⟨k, hk, rfl, hown, hbel⟩ := hrel
    have hsz := hbel.size
    by_cases hlt : k < es.length
    · obtain ⟨b, o, cap', hv, hb, hc0, hc1, hc2, hc3, hc4⟩ := (hE.kept hbel).five hlt
      have hSk := hS es[k] (List.getElem_mem hlt)
      have hTk := Lib.hid (List.take_succ_eq_append_getElem hlt)
      cases hv
      generalize es[k] = x at *
      have hb0 := (Below.refl wr.heap.size wr).alloc (Nat.le_refl _) (.cells #[.string x.n, .string x.v, .bool x.f, .string x.fn, .string x.t] 73)
      have hT0 := hT.kept (hbel.trans (hb0.mono hsz))
      go_wp2_with fail
      refine (tells_any x _ hT0 (by have := hSk.1; omega) (by have := hSk.2.1; omega) (by have := hSk.2.2.1; omega)).mono ?_
      rintro e w1 ⟨rfl, hb1⟩
      have hb01 := bs hb0 hb1
      have hown1 := hown.kept hb01
      have hsz1 := hb01.size
      have hll : ((es.take k).map tel).length ≤ 1000 := by rw [List.length_map, List.length_take]; omega
      go_wp2_with (at_builtin; refine wpList_append_ent rfl _ _ rfl rfl rfl (tel x) hown1 (by omega) (by omega) ?_; intro v' w2 hown2 hb2)
      go_roundw
      case rel => exact ⟨k + 1, by omega, by go_num, by rw [hTk.out, List.map_append]; exact hown2, (hbel.trans (hb01.mono hsz)).trans hb2⟩
      case measure => simp [intOf]; omega
    · obtain rfl : k = es.length := by omega
      rw [List.take_of_length_le (Nat.le_refl _)] at hown
      go_wp2_with fail
      go_ret
      exact ⟨⟨_, rfl, hown⟩, hbel⟩
set_option maxHeartbeats 1000000 in
set_option maxRecDepth 100000 in
theorem refPlain19_any (es : List Ent) (v : Value) (w : World) (hE : Ents es v w) (hl : es.length ≤ 1000) (hS : ∀ x ∈ es, Short x) :
    Calls Tryz.prog 12 #[v] w fun e w' => (∃ v', e = .returned v' ∧ OE w.heap.size (es.map tel) v' w') ∧ Below w.heap.size w w' := by
  obtain ⟨a, cap, rfl⟩ := hE.len
  go_enter Tryz.func12, Tryz.ntmps12
  go_wp2_with fail
  go_loopw [4, 3] (fun i v wr => ∃ k : Nat, k ≤ es.length ∧ i = .int .i64 k ∧ OE w.heap.size ((es.take k).map tel) v wr ∧ Below w.heap.size w wr) (fun i _ _ => es.length - (intOf i).toNat)
  case atStart => exact ⟨0, Nat.zero_le _, rfl, OE.nil _ _, Below.refl _ _⟩
  case round =>
    obtain ⟨k, hk, rfl, hown, hbel⟩ := hrel
    have hsz := hbel.size
    by_cases hlt : k < es.length
    · obtain ⟨b, o, cap', hv, hb, hc0, hc1, hc2, hc3, hc4⟩ := (hE.kept hbel).five hlt
      have hSk := hS es[k] (List.getElem_mem hlt)
      have hTk := Lib.hid (List.take_succ_eq_append_getElem hlt)
      cases hv
      generalize es[k] = x at *
      obtain ⟨n, v, f, fn, t⟩ := x
      simp only at hc0 hc1 hc2 hc3 hc4
      have hll : ((es.take k).map tel).length ≤ 1000 := by rw [List.length_map, List.length_take]; omega
      cases f
      · go_wp2_with fail
        refine (refPairs_any _ (by have := hSk.1; simp only at this; omega) _).mono ?_
        rintro e w1 ⟨rfl, hb1⟩
        go_wp2_with fail
        refine (refPairs_any _ (by have := hSk.2.1; simp only at this; omega) _).mono ?_
        rintro e w2 ⟨rfl, hb2⟩
        have hb01 := bs hb1 hb2
        have hown1 := hown.kept hb01
        have hsz1 := hb01.size
        go_wp2_with (at_builtin; refine wpList_append_ent rfl _ _ rfl rfl rfl (tel ⟨n, v, false, fn, t⟩) hown1 (by omega) (by omega) ?_; intro v' w3 hown3 hb3)
        go_roundw
        case rel => exact ⟨k + 1, by omega, by go_num, by rw [hTk.out, List.map_append]; exact hown3, (hbel.trans (hb01.mono hsz)).trans hb3⟩
        case measure => simp [intOf]; omega
      · go_wp2_with fail
        refine (refPairs_any _ (by have := hSk.1; simp only at this; omega) _).mono ?_
        rintro e w1 ⟨rfl, hb1⟩
        go_wp2_with fail
        refine (refPairs_any _ (by have := hSk.2.2.1; simp only at this; omega) _).mono ?_
        rintro e w2 ⟨rfl, hb2⟩
        have hb01 := bs hb1 hb2
        have hown1 := hown.kept hb01
        have hsz1 := hb01.size
        go_wp2_with (at_builtin; refine wpList_append_ent rfl _ _ rfl rfl rfl (tel ⟨n, v, true, fn, t⟩) hown1 (by omega) (by omega) ?_; intro v' w3 hown3 hb3)
        go_roundw
        case rel => exact ⟨k + 1, by omega, by go_num, by rw [hTk.out, List.map_append]; exact hown3, (hbel.trans (hb01.mono hsz)).trans hb3⟩
        case measure => simp [intOf]; omega
    · obtain rfl : k = es.length := by omega
      rw [List.take_of_length_le (Nat.le_refl _)] at hown
      go_wp2_with fail
      go_ret
      exact ⟨⟨_, rfl, hown⟩, hbel⟩
end Go.Proofs.YtafbghlldlconaaGreatDoor

/-
  PLAIN LAWS: texts joined by one byte, and parted again: no program in sight.
-/
namespace Go.Proofs.YtafbghlldlconaaGreatDoor.PT
set_option linter.unusedVariables false
set_option linter.unusedSimpArgs false

def jn (c : UInt8) : List (List UInt8) → List UInt8
  | [] => []
  | x :: r => x ++ r.flatMap fun y => c :: y
theorem jn_lib (c : UInt8) (xs : List (List UInt8)) : Lib.join xs [c] = jn c xs := by
  cases xs with
  | nil => rfl
  | cons x r =>
    rw [Lib.join_cons, jn]
    congr 1
theorem jn_snoc (c : UInt8) (xs : List (List UInt8)) (y : List UInt8) (h : xs ≠ []) : jn c (xs ++ [y]) = jn c xs ++ c :: y := by
  cases xs with
  | nil => exact absurd rfl h
  | cons x r => simp [jn]
theorem jn_append (c : UInt8) (xs ys : List (List UInt8)) (h : xs ≠ []) (k : ys ≠ []) : jn c (xs ++ ys) = jn c xs ++ c :: jn c ys := by
  cases xs with
  | nil => exact absurd rfl h
  | cons x r =>
    cases ys with
    | nil => exact absurd rfl k
    | cons y s => simp [jn]
theorem spl_word (c : UInt8) (x : List UInt8) (hx : c ∉ x) : ∀ cur r, spl c cur (x ++ r) = spl c (cur ++ x) r := by
  induction x with
  | nil => intro cur r; simp
  | cons d x ih =>
    intro cur r
    simp only [List.mem_cons, not_or] at hx
    rw [List.cons_append, spl, if_neg (fun e => hx.1 e.symm), ih hx.2]
    simp
theorem spl_jn (c : UInt8) (xs : List (List UInt8)) (h : ∀ x ∈ xs, c ∉ x) (hn : xs ≠ []) : spl c [] (jn c xs) = xs := by
  have tail : ∀ r : List (List UInt8), (∀ x ∈ r, c ∉ x) → ∀ cur, spl c cur (r.flatMap fun y => c :: y) = cur :: r := by
    intro r
    induction r with
    | nil => intro _ cur; rfl
    | cons y r ih =>
      intro h cur
      rw [List.flatMap_cons, List.cons_append, spl, if_pos rfl, spl_word c y (h y (by simp)), ih (fun x hx => h x (by simp [hx]))]
      simp
  cases xs with
  | nil => exact absurd rfl hn
  | cons x r =>
    rw [jn, spl_word c x (h x (by simp)), tail r (fun y hy => h y (by simp [hy]))]
    simp
theorem spl_no (c : UInt8) : ∀ (l cur : List UInt8), c ∉ cur → ∀ x ∈ spl c cur l, c ∉ x
  | [], cur, h, x, hx => by
    simp [spl] at hx; rw [hx]; exact h
  | d :: r, cur, h, x, hx => by
    unfold spl at hx
    split at hx
    · rcases List.mem_cons.1 hx with e | e
      · rw [e]; exact h
      · exact spl_no c r [] (by simp) x e
    · rename_i hd
      refine spl_no c r (cur ++ [d]) ?_ x hx
      rw [List.mem_append, List.mem_singleton]
      exact fun e => e.elim h (fun e => hd e.symm)
theorem jn_spl (c : UInt8) : ∀ (l cur : List UInt8), jn c (spl c cur l) = cur ++ l
  | [], cur => by simp [spl, jn]
  | d :: r, cur => by
    unfold spl
    split
    · rename_i hd
      have ih := jn_spl c r []
      cases hs : spl c [] r with
      | nil => exact absurd hs (spl_ne c r [])
      | cons x s =>
        rw [hs] at ih
        simp only [jn, List.flatMap_cons] at ih ⊢
        rw [hd]
        simp at ih ⊢
        exact ih
    · rw [jn_spl c r]; simp
theorem spl_small (c : UInt8) : ∀ (l cur : List UInt8), ∀ x ∈ spl c cur l, x.length ≤ cur.length + l.length
  | [], cur, x, hx => by simp [spl] at hx; rw [hx]; simp
  | d :: r, cur, x, hx => by
    unfold spl at hx
    split at hx
    · rcases List.mem_cons.1 hx with e | e
      · rw [e]; simp
      · have := spl_small c r [] x e
        simp only [List.length_nil, List.length_cons] at this ⊢
        omega
    · have := spl_small c r (cur ++ [d]) x hx
      simp only [List.length_append, List.length_cons, List.length_nil] at this ⊢
      omega
theorem spl_count (c : UInt8) : ∀ (l cur : List UInt8), (spl c cur l).length ≤ l.length + 1
  | [], cur => by simp [spl]
  | d :: r, cur => by
    unfold spl
    split
    · have := spl_count c r []; simp only [List.length_cons]; omega
    · have := spl_count c r (cur ++ [d]); simp only [List.length_cons]; omega
theorem jn_len (c : UInt8) (xs : List (List UInt8)) (B : Nat) (h : ∀ x ∈ xs, x.length ≤ B) : (jn c xs).length ≤ xs.length * (B + 1) := by
  have tail : ∀ r : List (List UInt8), (∀ x ∈ r, x.length ≤ B) → (r.flatMap fun y => c :: y).length ≤ r.length * (B + 1) := by
    intro r
    induction r with
    | nil => intro _; simp
    | cons y r ih =>
      intro h
      have h1 := h y (by simp)
      have h2 := ih (fun x hx => h x (by simp [hx]))
      rw [List.flatMap_cons, List.length_append, List.length_cons, List.length_cons, Nat.add_mul]
      omega
  cases xs with
  | nil => simp [jn]
  | cons x r =>
    have h1 := h x (by simp)
    have h2 := tail r (fun y hy => h y (by simp [hy]))
    rw [jn, List.length_append, List.length_cons, Nat.add_mul]
    omega
end Go.Proofs.YtafbghlldlconaaGreatDoor.PT

/-
  ROWS OF TEXTS: strings.Split at one byte and ref07.Split; strings.Join at one byte.
-/
namespace Go.Proofs.YtafbghlldlconaaGreatDoor
set_option linter.unusedVariables false
set_option linter.unusedSimpArgs false
open Go.RowKit PT

def txt (x : List UInt8) : Value := .string ⟨x.toArray⟩
/-- the value v is a slice of texts that reads X in the world w -/
def Txts (X : List (List UInt8)) (v : Value) (w : World) : Prop :=
  (X = [] ∧ ∃ a cap, v = .slice a 0 cap ∧ (a = none → cap = 0)) ∨ ∃ b o cap, v = .slice (some ⟨b, o, none⟩) X.length cap ∧ b < w.heap.size ∧ X.length ≤ cap ∧ ∀ j x, X[j]? = some x → w.cell? ⟨b, o + j, none⟩ = some (txt x)
/-- one that the call itself has built since 'base' blocks lay -/
def OT (base : Nat) (X : List (List UInt8)) (v : Value) (w : World) : Prop := OV base 9 (X.map txt) v w
theorem Txts.kept {X : List (List UInt8)} {v : Value} {w w' : World} (h : Txts X v w) (hb : Below w.heap.size w w') : Txts X v w' := by
  rcases h with h | ⟨b, o, cap, rfl, h1, h2, h4⟩
  · exact .inl h
  · refine .inr ⟨b, o, cap, rfl, by have := hb.size; omega, h2, fun j e he => ?_⟩
    rw [← h4 j e he]
    simp only [World.cell?, hb.block b h1]
theorem Txts.len {X : List (List UInt8)} {v : Value} {w : World} (h : Txts X v w) : ∃ a cap, v = .slice a X.length cap := by
  rcases h with ⟨rfl, a, cap, rfl, _⟩ | ⟨b, o, cap, rfl, _⟩
  · exact ⟨_, _, rfl⟩
  · exact ⟨_, _, rfl⟩
theorem Txts.at {X : List (List UInt8)} {v : Value} {w : World} (h : Txts X v w) {k : Nat} (hk : k < X.length) : ∃ b o cap, v = .slice (some ⟨b, o, none⟩) X.length cap ∧ b < w.heap.size ∧ w.cell? ⟨b, o + k, none⟩ = some (txt X[k]) := by
  rcases h with ⟨rfl, _⟩ | ⟨b, o, cap, rfl, h1, h2, h4⟩
  · simp at hk
  · exact ⟨b, o, cap, rfl, h1, h4 k X[k] (List.getElem?_eq_getElem hk)⟩
theorem OT.txts {base : Nat} {X : List (List UInt8)} {v : Value} {w : World} (h : OT base X v w) : Txts X v w := by
  obtain ⟨_, ⟨rfl, hn⟩ | ⟨g, cap, cur, rfl, h2, h3, h4, h5, h6, h7⟩⟩ := h
  · exact .inl ⟨by simpa using hn, none, 0, rfl, fun _ => rfl⟩
  · refine .inr ⟨g, 0, cap, by rw [List.length_map], (Array.getElem?_eq_some_iff.1 h3).1, by simpa using h4, fun j x hx => ?_⟩
    have hj : j < X.length := (List.getElem?_eq_some_iff.1 hx).1
    have hf : (X.map txt)[j]? = some (txt x) := by rw [List.getElem?_map, hx]; rfl
    rw [← h7, List.getElem?_take_of_lt (by rw [List.length_map]; omega)] at hf
    rw [Nat.zero_add]
    simp only [World.cell?, h3]
    simpa using hf
theorem OT.ov {base : Nat} {X : List (List UInt8)} {v : Value} {w : World} (h : OT base X v w) : OV base 9 (X.map txt) v w := h
theorem OT.nil (base : Nat) (w : World) : OT base [] (.slice none 0 0) w := OV.nil _ _ _
theorem OT.kept {base : Nat} {X : List (List UInt8)} {v : Value} {w w' : World} (h : OT base X v w) (hb : Below w.heap.size w w') : OT base X v w' := OV.kept h hb
theorem OT.alloc {base : Nat} {X : List (List UInt8)} {v : Value} {w : World} (h : OT base X v w) (o : Obj) : OT base X v (w.alloc o) := OV.alloc h o
theorem OT.lower {base b2 : Nat} {X : List (List UInt8)} {v : Value} {w : World} (h : OT base X v w) (hb : b2 ≤ base) : OT b2 X v w := by
  obtain ⟨h1, ⟨rfl, hn⟩ | ⟨g, cap, cur, rfl, h2, h3⟩⟩ := h
  · exact ⟨h1, .inl ⟨rfl, hn⟩⟩
  · exact ⟨h1, .inr ⟨g, cap, cur, rfl, by omega, h3⟩⟩
theorem info_str : (Tryz.prog.info? 9).map (fun i => (i.zero, i.size, i.bytes)) = some (some (.string ⟨#[]⟩), 1, 16) := by kernel_rfl

theorem split_any (s : ByteArray) (c : UInt8) (hs : s.size < 4294967281) (w : World) (hS : w.ShapedOpen Tryz.prog) :
    Calls Tryz.prog 41 #[.string s, .string ⟨#[c]⟩] w fun e w' => (∃ v', e = .returned v' ∧ OT w.heap.size (spl c [] s.data.toList) v' w') ∧ Below w.heap.size w w' := by
  refine (Tryz.strings_Split_shaped s ⟨#[c]⟩ w hS hs (Nat.le_refl _)).mono fun e w' ⟨he, hw⟩ => ?_
  have hlen := Lib.splitB_all ⟨#[c]⟩ (Nat.le_refl _) 0 _ s rfl
  have hdat := Lib.splitB_data ⟨#[c]⟩ 0 (Lib.countB s ⟨#[c]⟩) s
  rw [show Lib.splitK (ByteArray.mk #[c]).data.toList 0 (Lib.countB s ⟨#[c]⟩) s.data.toList = spl c [] s.data.toList from split_spl c _] at hdat
  generalize Lib.splitB ⟨#[c]⟩ 0 (Lib.countB s ⟨#[c]⟩) s = B at *
  have hcells : B.map Value.string = (spl c [] s.data.toList).map txt := by
    rw [← hdat, List.map_map]
    exact List.map_congr_left fun x _ => rfl
  have hl2 : (spl c [] s.data.toList).length = Lib.countB s ⟨#[c]⟩ + 1 := by rw [← hdat, List.length_map, hlen]
  have hle := spl_count c s.data.toList []
  rw [size_list] at hle
  subst hw
  rw [hcells]
  rw [← hl2] at he
  have hsz : (spl c [] s.data.toList).length ≤ 4294967291 := by omega
  clear hl2 hlen hdat hcells
  generalize spl c [] s.data.toList = X at *
  refine ⟨⟨_, he, ?_⟩, (Below.refl _ w).alloc (Nat.le_refl _) _⟩
  refine ⟨by simp, .inr ⟨w.heap.size, X.length, (X.map txt).toArray, by rw [List.length_map], Nat.le_refl _, Go.heap_alloc_new w _, by simp, by unfold maxLen; omega, by simp, ?_⟩⟩
  exact List.take_of_length_le (by simp)
theorem join_any (X : List (List UInt8)) (c : UInt8) (v : Value) (w : World) (hX : Txts X v w) (hN : X.length ≤ 1000000000) (hlen : (jn c X).length ≤ 140737488355328) :
    Calls Tryz.prog 61 #[v, .string ⟨#[c]⟩] w fun e w' => e = .returned (.string ⟨(jn c X).toArray⟩) ∧ Below w.heap.size w w' := by
  rcases hX with ⟨rfl, a, cap, rfl, _⟩ | ⟨b, o, cap, rfl, h1, h2, h4⟩
  · exact (Tryz.strings_Join_none a cap ⟨#[c]⟩ w).mono fun e w' ⟨he, hw⟩ => ⟨he, hw ▸ Below.refl _ _⟩
  · have hm : (X.map fun x => ByteArray.mk x.toArray).map (·.data.toList) = X := by
      rw [List.map_map]
      conv => rhs; rw [← List.map_id X]
      exact List.map_congr_left fun x _ => rfl
    have h := Tryz.strings_Join b o cap (X.map fun x => ByteArray.mk x.toArray) ⟨#[c]⟩ w (fun j x hj => by
      rw [List.getElem?_map] at hj
      cases hx : X[j]? with
      | none => rw [hx] at hj; cases hj
      | some y => rw [hx] at hj; cases hj; exact h4 j y hx) h1 (by rw [List.length_map]; omega) (by rw [List.length_map]; exact h2) (by rw [hm]; exact (jn_lib c X) ▸ hlen)
    rw [hm, List.length_map, show Lib.join X (ByteArray.mk #[c]).data.toList = jn c X from jn_lib c X] at h
    exact h

theorem cut_list (s : ByteArray) (f k : Nat) : Value.string (s.extract f k) = txt ((s.data.toList.drop f).take (k - f)) := by
  unfold txt
  congr 1
  apply ByteArray.ext
  apply Array.toList_inj.1
  rw [Lib.extract_data]
theorem cut_snoc (s : ByteArray) (f k : Nat) (hf : f ≤ k) (hk : k < s.size) : (s.data.toList.drop f).take (k - f) ++ [s[k]] = (s.data.toList.drop f).take (k + 1 - f) := by
  rw [show k + 1 - f = (k - f) + 1 by omega, List.take_succ_eq_append_getElem (by rw [List.length_drop, size_list]; omega)]
  congr 2
  rw [List.getElem_drop]
  have : s[k] = s.data.toList[k]'(by simpa using hk) := rfl
  rw [this]
  congr 1
  omega
end Go.Proofs.YtafbghlldlconaaGreatDoor

/-
  strings.Builder, a builder of the call's own: copyCheck, WriteByte, String. (The kit's contracts on copyCheck and the writers are not laid at this program: they are walked here.)
-/
namespace Go.Proofs.YtafbghlldlconaaGreatDoor
set_option linter.unusedVariables false
set_option linter.unusedSimpArgs false
open Go.RowKit Go.Lib

/-- block b is a builder (made since B blocks lay) that holds the bytes l -/
def SB (B b : Nat) (l : List UInt8) (w : World) : Prop := IsBuilderF 123 5 B b (Lib.byteCells l) w
/-- what a call on the builder b leaves as it was -/
def SK (B b : Nat) (w w' : World) : Prop := Below B w w' ∧ OthersKept 5 (some b) w w'
theorem SK.refl (B b : Nat) (w : World) : SK B b w w := ⟨Below.refl _ _, OthersKept.refl _ _ _⟩
theorem SK.trans {B b : Nat} {a c d : World} (h : SK B b a c) (k : SK B b c d) : SK B b a d := ⟨h.1.trans k.1, h.2.trans k.2⟩

theorem sizeBuilder : (Tryz.prog.info? 123).map (·.size) = some 2 := by kernel_rfl
theorem liesBuilder : liesAt Tryz.prog Tryz.prog.depth 123 (2 / Tryz.prog.cellsOf 123) 0 123 1 = true := by kernel_rfl

theorem SB.fresh (w : World) : SB w.heap.size w.heap.size [] (w.alloc (.cells #[.pointer none, .slice none 0 0] 123)) := IsBuilderF.of (fresh_isBuilder _ _ w)

theorem SB.lt {B b : Nat} {l : List UInt8} {w : World} (h : SB B b l w) : b < w.heap.size := h.elim (fun h => h.lt) (fun h => h.lt)
theorem rowF_kept {B n m : Nat} {e : TypeId} {v : Value} {xs : List Value} {w w' : World} (h : w.ownsRowF B e n v m xs) (hb : Below w.heap.size w w') : w'.ownsRowF B e n v m xs := by
  obtain ⟨z1, ⟨rfl, z2⟩ | ⟨g, cap, cur, fz, rfl, z2, z3, z4⟩⟩ := h
  · exact ⟨z1, .inl ⟨rfl, z2⟩⟩
  · exact ⟨z1, .inr ⟨g, cap, cur, fz, rfl, z2, by rw [hb.block g (Array.getElem?_eq_some_iff.1 z3).1]; exact z3, z4⟩⟩
theorem SB.kept {B b : Nat} {l : List UInt8} {w w' : World} (h : SB B b l w) (hb : Below w.heap.size w w') : SB B b l w' := by
  rcases h with ⟨q1, u, q2, q3, q4⟩ | ⟨q1, u, q2, q3, q4⟩
  · exact .inl ⟨q1, u, by rw [hb.block b (Array.getElem?_eq_some_iff.1 q2).1]; exact q2, rowF_kept q3 hb, q4⟩
  · exact .inr ⟨q1, u, by rw [hb.block b (Array.getElem?_eq_some_iff.1 q2).1]; exact q2, rowF_kept q3 hb, q4⟩
theorem SB.alloc {B b : Nat} {l : List UInt8} {w : World} (h : SB B b l w) (o : Obj) : SB B b l (w.alloc o) := IsBuilderF.alloc h o
theorem SK.alloc {B b : Nat} {a w : World} (h : SK B b a w) (hB : B ≤ w.heap.size) (o : Obj) : SK B b a (w.alloc o) := ⟨h.1.alloc hB o, h.2.alloc o⟩
theorem run_eql_same_ptr {P : Program} (w : World) (t : TypeId) {u : TypeId} {j : TypeInfo} (ht : P.underlying t = some (.pointer u)) (hj : P.info? u = some j) (a : Addr) : (binOp .neq t (.pointer (some a)) (.pointer (some a))).run P w = .ok (.bool false) w := by
  exact run_neq_ptr_same w a ht hj

set_option maxRecDepth 100000 in
theorem copyCheck_used (b : Nat) (w : World) (h0 : w.cell? ⟨b, 0, none⟩ = some (.pointer (some ⟨b, 0, none⟩))) :
    Calls Tryz.prog 133 #[.pointer (some ⟨b, 0, none⟩)] w fun e w' => e = .returned (.tuple #[]) ∧ w = w' := by
  obtain ⟨j, hj, _⟩ := Option.map_eq_some_iff.1 sizeBuilder
  have hn := run_neq_ptr_same w ⟨b, 0, none⟩ Tryz.underlying121 hj
  go_enter Tryz.func133, Tryz.ntmps133
  go_wp2
  go_end0
  exact ⟨rfl, rfl⟩

set_option maxRecDepth 100000 in
theorem copyCheck_fresh (b : Nat) (w : World) (h0 : w.cell? ⟨b, 0, none⟩ = some (.pointer none)) (hsh : w.shape? b = some (123, 2)) (hfz : w.frozen? ⟨b, 0, none⟩ = false) :
    Calls Tryz.prog 133 #[.pointer (some ⟨b, 0, none⟩)] w fun e w' => e = .returned (.tuple #[]) ∧ w' = w.setCell ⟨b, 0, none⟩ (.pointer (some ⟨b, 0, none⟩)) := by
  obtain ⟨j, hj, hjs⟩ := Option.map_eq_some_iff.1 sizeBuilder
  have hn := fun (W : World) => run_neq_ptr_same W ⟨b, 0, none⟩ Tryz.underlying121 hj
  go_enter Tryz.func133, Tryz.ntmps133
  go_wp2
  rw [run_to_unsafe w ⟨b, 0, none⟩ Tryz.underlying121 Tryz.underlying159 hj (by rw [hjs]; decide) hsh (Nat.zero_lt_succ 1)]
  simp only [Result.andThen]
  rw [Oper.upon_value]
  go_wp2
  rw [run_callFunc_extern Tryz.func165 (by kernel_rfl) (by kernel_rfl) (by kernel_rfl) (e := Extern.AbiNoEscape.same) (by kernel_rfl)]
  rw [run_noEscape]
  simp only [Result.andThen]
  rw [Oper.upon_value]
  go_wp2
  rw [run_from_unsafe w ⟨b, 0, none⟩ Tryz.underlying159 Tryz.underlying121 hj hsh liesBuilder]
  simp only [Result.andThen]
  rw [Oper.upon_value]
  go_wp2
  go_end0
  exact ⟨rfl, rfl⟩

theorem copyCheck_any (B b : Nat) (bs : List Value) (w : World) (h : IsBuilderF 123 5 B b bs w) :
    Calls Tryz.prog 133 #[.pointer (some ⟨b, 0, none⟩)] w fun e w' => e = .returned (.tuple #[]) ∧ BuilderAtF 123 5 B b (.pointer (some ⟨b, 0, none⟩)) bs w' ∧ SK B b w w' := by
  rcases h with h | h
  · refine (copyCheck_fresh b w h.cell0 h.shape h.frozen0).mono ?_
    rintro e w' ⟨rfl, rfl⟩
    exact ⟨rfl, h.used _, (Below.refl B w).setCell (p := ⟨b, 0, none⟩) h.1 _, (OthersKept.refl _ _ w).setCell ⟨b, 0, none⟩ rfl _⟩
  · refine (copyCheck_used b w h.cell0).mono ?_
    rintro e w' ⟨rfl, rfl⟩
    exact ⟨rfl, h, SK.refl _ _ _⟩

set_option maxHeartbeats 1000000 in
set_option maxRecDepth 100000 in
theorem writeByte_any (B b : Nat) (l : List UInt8) (c : UInt8) {n : Int} (hn : n = (c.toNat : Int)) (w : World) (h : SB B b l w) (hlen : l.length < 70368744177664) (hBw : B ≤ w.heap.size) :
    Calls Tryz.prog 123 #[.pointer (some ⟨b, 0, none⟩), .int .u8 n] w fun e w' => e = .returned .nilIface ∧ SB B b (l ++ [c]) w' ∧ SK B b w w' := by
  subst hn
  obtain ⟨i0, hi, hz0, hz1, hz2⟩ := info_parts info_u8
  have hl : (Lib.byteCells l).length = l.length := Lib.byteCells_length l
  go_enter Tryz.func123, Tryz.ntmps123
  go_wp2_with fail
  refine (copyCheck_any B b _ _ h).mono ?_
  rintro e w1 ⟨rfl, h1, hb1, hk1⟩
  obtain ⟨hB, v, hbk, hown, hne⟩ := h1
  have c0 : w1.cell? ⟨b, 0, none⟩ = some (.pointer (some ⟨b, 0, none⟩)) := by rw [cell_of_heap hbk]; rfl
  have c1 : w1.cell? ⟨b, 1, none⟩ = some v := by rw [cell_of_heap hbk]; rfl
  go_wp2_with (at_builtin; refine wpList_append_ownF _ rfl _ _ 100 rfl B 5 i0 (.int .u8 0) 1 1 Tryz.underlying100 hi hz0 hz1 hz2 rfl (by decide) _ _ _ rfl (hown.alloc _) ⟨w1.heap.size, 0, none⟩ 1 1 [.int .u8 c.toNat] rfl rfl ?c1 ?c2 ?c3 ?c4 ?c5 ?_)
  case c1 =>
    intro j u hj
    match j, hj with
    | 0, hj => simp at hj; subst hj; simp [addr_add]
  case c2 => intro u hu; simp at hu; subst hu; rfl
  case c3 => unfold maxLen; omega
  case c4 => omega
  case c5 => have := hb1.size; simp; omega
  intro v' w2 hown' hgrow _
  have hlt : b < w1.heap.size := by
    rcases Nat.lt_or_ge b w1.heap.size with h' | h'
    · exact h'
    · simp [Array.getElem?_eq_none h'] at hbk
  have hb2 : w2.heap[b]? = some (.cells #[.pointer (some ⟨b, 0, none⟩), v] 123 (0, 0)) := by
    rw [hgrow.block b (by simp; omega) (fun e => hne e.symm), alloc_old w1 _ b hlt]
    exact hbk
  have d0 : w2.cell? ⟨b, 0, none⟩ = some (.pointer (some ⟨b, 0, none⟩)) := by rw [cell_of_heap hb2]; rfl
  have d1 : w2.cell? ⟨b, 1, none⟩ = some v := by rw [cell_of_heap hb2]; rfl
  have f1 : w2.frozen? ⟨b, 1, none⟩ = false := frozen_of_heap hb2 1
  obtain ⟨g, cap, rfl⟩ : ∃ g cap, v' = .slice (some ⟨g, 0, none⟩) (l.length + 1) cap := by
    rcases hown'.2 with ⟨_, h0⟩ | ⟨g, cap, cur, fz, hv, _⟩
    · omega
    · exact ⟨g, cap, hv⟩
  go_wp2
  go_ret
  refine ⟨rfl, Or.inr ?_, ?_, ((hk1.alloc _).grown hgrow (ownsRowF_kind (hown.alloc _))).setCell ⟨b, 1, none⟩ rfl _⟩
  · rw [byteCells_append, byteCells_one]
    exact BuilderAtF.put hB hb2 (bs' := Lib.byteCells l ++ [.int .u8 c.toNat]) (by rw [List.length_append, hl]; exact hown') (by decide)
  · exact ((hb1.alloc (by have := hb1.size; omega) _).grown hgrow (by have := hb1.size; simp; omega) (fun k hk => (hown.lt k hk).1)).setCell (p := ⟨b, 1, none⟩) hB _
set_option maxHeartbeats 1000000 in
set_option maxRecDepth 100000 in
theorem writeString_any (B b : Nat) (l : List UInt8) (s : ByteArray) (w : World) (h : SB B b l w) (hlen : l.length + s.size < 70368744177664) (h1s : 1 ≤ s.size) (hBw : B ≤ w.heap.size) :
    Calls Tryz.prog 99 #[.pointer (some ⟨b, 0, none⟩), .string s] w fun e w' => e = .returned (.tuple #[.int .i64 s.size, .nilIface]) ∧ SB B b (l ++ s.data.toList) w' ∧ SK B b w w' := by
  obtain ⟨i0, hi, hz0, hz1, hz2⟩ := info_parts info_u8
  have hl : (Lib.byteCells l).length = l.length := Lib.byteCells_length l
  go_enter Tryz.func99, Tryz.ntmps99
  go_wp2_with fail
  refine (copyCheck_any B b _ _ h).mono ?_
  rintro e w1 ⟨rfl, h1, hb1, hk1⟩
  obtain ⟨hB, v, hbk, hown, hne⟩ := h1
  have c0 : w1.cell? ⟨b, 0, none⟩ = some (.pointer (some ⟨b, 0, none⟩)) := by rw [cell_of_heap hbk]; rfl
  have c1 : w1.cell? ⟨b, 1, none⟩ = some v := by rw [cell_of_heap hbk]; rfl
  go_wp2_with (at_builtin; refine wpList_append_own_stringF _ rfl _ _ 100 9 rfl B 5 i0 Tryz.underlying100 Tryz.underlying9 hi hz0 hz1 hz2 _ _ _ rfl hown s rfl ?c3 ?c4 ?c5 ?_)
  case c3 => unfold maxLen; omega
  case c4 => omega
  case c5 => have := hb1.size; omega
  intro v' w2 hown' hgrow _
  have hlt : b < w1.heap.size := by
    rcases Nat.lt_or_ge b w1.heap.size with h' | h'
    · exact h'
    · simp [Array.getElem?_eq_none h'] at hbk
  have hb2 : w2.heap[b]? = some (.cells #[.pointer (some ⟨b, 0, none⟩), v] 123 (0, 0)) := by
    rw [hgrow.block b hlt (fun e => hne e.symm)]
    exact hbk
  have d0 : w2.cell? ⟨b, 0, none⟩ = some (.pointer (some ⟨b, 0, none⟩)) := by rw [cell_of_heap hb2]; rfl
  have d1 : w2.cell? ⟨b, 1, none⟩ = some v := by rw [cell_of_heap hb2]; rfl
  have f1 : w2.frozen? ⟨b, 1, none⟩ = false := frozen_of_heap hb2 1
  obtain ⟨g, cap, rfl⟩ : ∃ g cap, v' = .slice (some ⟨g, 0, none⟩) (l.length + s.size) cap := by
    rcases hown'.2 with ⟨_, h0⟩ | ⟨g, cap, cur, fz, hv, _⟩
    · omega
    · exact ⟨g, cap, hv⟩
  go_wp2
  go_ret2
  refine ⟨rfl, Or.inr ?_, ?_, (hk1.grown hgrow (ownsRowF_kind hown)).setCell ⟨b, 1, none⟩ rfl _⟩
  · rw [byteCells_append, ← strCells_eq]
    have hsl : (strCells s).length = s.size := by rw [strCells_eq, Lib.byteCells_length]; exact size_list s
    exact BuilderAtF.put hB hb2 (bs' := Lib.byteCells l ++ strCells s) (by rw [List.length_append, hl, hsl]; exact hown') (by decide)
  · exact (hb1.grown hgrow (by have := hb1.size; omega) (fun k hk => (hown.lt k hk).1)).setCell (p := ⟨b, 1, none⟩) hB _
theorem string_any (B b : Nat) (l : List UInt8) (w : World) (h : SB B b l w) (hBw : B ≤ w.heap.size) :
    Calls Tryz.prog 100 #[.pointer (some ⟨b, 0, none⟩)] w fun e w' => e = .returned (.string ⟨l.toArray⟩) ∧ SB B b l w' ∧ SK B b w w' :=
  (Tryz.Builder_String_any_k B b l w h hBw).mono fun _ _ ⟨he, h1, h2, h3⟩ => ⟨he, h1, h2, h3⟩
end Go.Proofs.YtafbghlldlconaaGreatDoor

/-
  PLAIN LAWS ON ESCAPES: no program in sight.
-/
namespace Go.Proofs.YtafbghlldlconaaGreatDoor.PT
set_option linter.unusedVariables false
set_option linter.unusedSimpArgs false

/-- does a byte stand in a text? -/
def inB (c : UInt8) (l : List UInt8) : Bool := decide (c ∈ l)
theorem inB_yes {c : UInt8} {l : List UInt8} (h : c ∈ l) : inB c l = true := decide_eq_true h
theorem inB_no {c : UInt8} {l : List UInt8} (h : c ∉ l) : inB c l = false := decide_eq_false h
theorem inB_iff {c : UInt8} {l : List UInt8} : inB c l = true ↔ c ∈ l := decide_eq_true_iff
def letterB (c : UInt8) : Bool := (97 ≤ c.toNat && c.toNat ≤ 122) || (65 ≤ c.toNat && c.toNat ≤ 90) || (48 ≤ c.toNat && c.toNat ≤ 57)
def moreL : Nat → List UInt8
  | 1 => [32, 34, 60, 62, 96]
  | 2 => [32, 34, 35, 60, 62]
  | 3 => [39]
  | 4 => [63, 94, 123, 125, 96]
  | 5 => [47, 58, 59, 61, 64, 91, 92, 93, 124]
  | 6 => [36, 37, 38, 43, 44]
  | _ => []
def aheadN : Nat → Nat
  | 3 => 2
  | 4 => 2
  | 5 => 4
  | 6 => 5
  | _ => 0
/-- what a set escapes among the bytes from 32 to 126 -/
def escL : Nat → List UInt8
  | 1 => moreL 1
  | 2 => moreL 2
  | 3 => moreL 2 ++ moreL 3
  | 4 => moreL 2 ++ moreL 4
  | 5 => moreL 2 ++ moreL 4 ++ moreL 5
  | 6 => moreL 2 ++ moreL 4 ++ moreL 5 ++ moreL 6
  | _ => []
theorem aheadN_lt (k : Nat) (h : 0 < k) : aheadN k < k := by
  unfold aheadN
  split <;> omega
theorem aheadN_le (k : Nat) : aheadN k ≤ 6 := by
  unfold aheadN
  split <;> omega
theorem escL_step (k : Nat) (h0 : 0 < k) (h : k ≤ 6) (c : UInt8) : c ∈ escL k ↔ c ∈ moreL k ∨ c ∈ escL (aheadN k) := by
  obtain rfl | rfl | rfl | rfl | rfl | rfl : k = 1 ∨ k = 2 ∨ k = 3 ∨ k = 4 ∨ k = 5 ∨ k = 6 := by omega
  all_goals simp only [escL, aheadN, List.mem_append, List.not_mem_nil, or_false]
  all_goals first | exact Iff.rfl | exact Or.comm
def plain7 : List UInt8 := [42, 45, 46, 95]
/-- a digit's letter -/
def hexU (n : Nat) : UInt8 := if n < 10 then UInt8.ofNat (48 + n) else UInt8.ofNat (55 + n)
/-- does a set escape a byte? -/
def escB (set : Int) (c : UInt8) : Bool :=
  if set < 0 ∨ 7 < set then false
  else if set = 7 then !letterB c && !inB c plain7
  else if c.toNat < 32 ∨ 126 < c.toNat then true
  else inB c (escL set.toNat)
theorem escB_out (set : Int) (c : UInt8) (h : set < 0 ∨ 7 < set) : escB set c = false := if_pos h
theorem escB_7 (c : UInt8) : escB 7 c = (!letterB c && !inB c plain7) := by
  unfold escB
  rw [if_neg (by omega), if_pos rfl]
theorem escB_far (k : Nat) (c : UInt8) (hk : k ≤ 6) (h : c.toNat < 32 ∨ 126 < c.toNat) : escB k c = true := by
  unfold escB
  rw [if_neg (by omega), if_neg (by omega), if_pos h]
theorem escB_near (k : Nat) (c : UInt8) (hk : k ≤ 6) (h : ¬ (c.toNat < 32 ∨ 126 < c.toNat)) : escB k c = inB c (escL k) := by
  unfold escB
  rw [if_neg (by omega), if_neg (by omega), if_neg h, Int.toNat_natCast]
theorem inB_step (k : Nat) (h0 : 0 < k) (h : k ≤ 6) (c : UInt8) (hn : c ∉ moreL k) : inB c (escL k) = inB c (escL (aheadN k)) := by
  rw [Bool.eq_iff_iff, inB_iff, inB_iff, escL_step k h0 h]
  exact ⟨fun e => e.elim (fun e => absurd e hn) id, Or.inr⟩
theorem inB_here (k : Nat) (h0 : 0 < k) (h : k ≤ 6) (c : UInt8) (hn : c ∈ moreL k) : inB c (escL k) = true := by
  rw [inB_iff, escL_step k h0 h]
  exact Or.inl hn

/-- a hexadecimal digit's number; 255: it is none -/
def digN (c : UInt8) : Nat := if 48 ≤ c.toNat ∧ c.toNat ≤ 57 then c.toNat - 48 else if 97 ≤ c.toNat ∧ c.toNat ≤ 102 then c.toNat - 87 else if 65 ≤ c.toNat ∧ c.toNat ≤ 70 then c.toNat - 55 else 255
theorem digN_le (c : UInt8) : digN c ≤ 255 := by
  have := c.toNat_lt
  unfold digN
  split
  · omega
  · split
    · omega
    · split <;> omega
def digI (c : UInt8) : Int := if digN c < 16 then digN c else -1
def hexAll : List UInt8 := [48, 49, 50, 51, 52, 53, 54, 55, 56, 57, 65, 66, 67, 68, 69, 70, 97, 98, 99, 100, 101, 102]
theorem digI_at (k : Nat) (h : k < hexAll.length) : digI hexAll[k] = if 15 < k then (k : Int) - 6 else k := by
  have : ∀ j : Fin 22, digI (hexAll[j.val]'(by simp [hexAll])) = if 15 < j.val then (j.val : Int) - 6 else j.val := by decide
  exact this ⟨k, by simpa [hexAll] using h⟩
theorem hex_mem_all : ∀ n : Fin 256, digN (UInt8.ofNat n.val) < 16 → UInt8.ofNat n.val ∈ hexAll := by decide +kernel
theorem digI_none (c : UInt8) (h : c ∉ hexAll) : digI c = -1 := by
  unfold digI
  rw [if_neg]
  intro h'
  apply h
  have := hex_mem_all ⟨c.toNat, c.toNat_lt⟩
  simp at this
  exact this h'
/-- a text read by its escapes -/
def dec : List UInt8 → List UInt8
  | c :: a :: b :: r => if c = 37 ∧ digN a < 16 ∧ digN b < 16 then UInt8.ofNat (digN a * 16 + digN b) :: dec r else c :: dec (a :: b :: r)
  | c :: r => c :: dec r
  | [] => []
theorem dec_yes (a b : UInt8) (r : List UInt8) (ha : digN a < 16) (hb : digN b < 16) : dec (37 :: a :: b :: r) = UInt8.ofNat (digN a * 16 + digN b) :: dec r := by
  rw [dec, if_pos ⟨rfl, ha, hb⟩]
theorem dec_no (c a b : UInt8) (r : List UInt8) (h : ¬ (c = 37 ∧ digN a < 16 ∧ digN b < 16)) : dec (c :: a :: b :: r) = c :: dec (a :: b :: r) := by
  rw [dec, if_neg h]
theorem dec_short1 (c : UInt8) : dec [c] = [c] := rfl
theorem dec_short2 (c a : UInt8) : dec [c, a] = [c, a] := rfl
theorem dec_len : ∀ l : List UInt8, (dec l).length ≤ l.length
  | c :: a :: b :: r => by
    rw [dec]
    have h1 := dec_len r
    have h2 := dec_len (a :: b :: r)
    split
    · simp only [List.length_cons]; omega
    · simp only [List.length_cons] at h2 ⊢; omega
  | [_, _] => by simp [dec]
  | [_] => by simp [dec]
  | [] => by simp [dec]

/-- an escape begins at place k -/
def EscAt (s : ByteArray) (k : Nat) : Prop := ∃ h : k + 2 < s.size, s[k] = 37 ∧ digN s[k + 1] < 16 ∧ digN s[k + 2] < 16
theorem dec_at_yes (s : ByteArray) (k : Nat) (h : k + 2 < s.size) (h0 : s[k] = 37) (h1 : digN s[k + 1] < 16) (h2 : digN s[k + 2] < 16) :
    dec (s.data.toList.drop k) = UInt8.ofNat (digN s[k + 1] * 16 + digN s[k + 2]) :: dec (s.data.toList.drop (k + 3)) := by
  rw [drop_cons' s k (by omega), drop_cons' s (k + 1) (by omega), drop_cons' s (k + 2) (by omega), h0, dec_yes _ _ _ h1 h2]
theorem dec_at_no (s : ByteArray) (k : Nat) (h : k < s.size) (hn : ¬ EscAt s k) : dec (s.data.toList.drop k) = s[k] :: dec (s.data.toList.drop (k + 1)) := by
  by_cases h2 : k + 2 < s.size
  · rw [drop_cons' s k (by omega), drop_cons' s (k + 1) (by omega), drop_cons' s (k + 2) (by omega), dec_no]
    exact fun ⟨e1, e2, e3⟩ => hn ⟨h2, e1, e2, e3⟩
  · by_cases h1 : k + 1 < s.size
    · rw [drop_cons' s k (by omega), drop_cons' s (k + 1) (by omega), List.drop_eq_nil_of_le (by simp; omega)]
      rfl
    · rw [drop_cons' s k (by omega), List.drop_eq_nil_of_le (by simp; omega)]
      rfl
/-- what a set makes of a text -/
def encL (z : Int) : List UInt8 → List UInt8
  | [] => []
  | c :: r => (if escB z c then [37, hexU (c.toNat / 16), hexU (c.toNat % 16)] else [c]) ++ encL z r
theorem encL_append (z : Int) (a b : List UInt8) : encL z (a ++ b) = encL z a ++ encL z b := by
  induction a with
  | nil => rfl
  | cons c a ih => simp [encL, ih]
theorem encL_len (z : Int) (l : List UInt8) : (encL z l).length ≤ 3 * l.length := by
  induction l with
  | nil => simp [encL]
  | cons c l ih =>
    simp only [encL, List.length_append, List.length_cons]
    split <;> simp <;> omega
theorem encL_snoc_yes (z : Int) (s : ByteArray) (k : Nat) (h : k < s.size) (he : escB z s[k] = true) : encL z (s.data.toList.take (k + 1)) = encL z (s.data.toList.take k) ++ [37, hexU (s[k].toNat / 16), hexU (s[k].toNat % 16)] := by
  rw [take_snoc s k h, encL_append]
  simp [encL, he]
theorem encL_snoc_no (z : Int) (s : ByteArray) (k : Nat) (h : k < s.size) (he : escB z s[k] = false) : encL z (s.data.toList.take (k + 1)) = encL z (s.data.toList.take k) ++ [s[k]] := by
  rw [take_snoc s k h, encL_append]
  simp [encL, he]

theorem digN_hexU (n : Nat) (h : n < 16) : digN (hexU n) = n := by
  have : ∀ i : Fin 16, digN (hexU i.val) = i.val := by decide
  exact this ⟨n, h⟩
theorem dec_cons_ne (c : UInt8) (h : c ≠ 37) : ∀ r : List UInt8, dec (c :: r) = c :: dec r
  | [] => rfl
  | [_] => rfl
  | a :: b :: r => dec_no c a b r (fun e => h e.1)
theorem dec_encL (z : Int) (l : List UInt8) (h : escB z 37 = true ∨ 37 ∉ l) : dec (encL z l) = l := by
  induction l with
  | nil => rfl
  | cons c r ih =>
    have ih' := ih (h.imp id (fun h e => h (List.mem_cons_of_mem _ e)))
    have hc : c.toNat < 256 := c.toNat_lt
    unfold encL
    cases he : escB z c
    · have hne : c ≠ 37 := by
        rintro rfl
        rcases h with h | h
        · rw [h] at he; cases he
        · exact h (List.mem_cons_self ..)
      show dec (c :: encL z r) = _
      rw [dec_cons_ne c hne, ih']
    · show dec (37 :: hexU (c.toNat / 16) :: hexU (c.toNat % 16) :: encL z r) = _
      rw [dec_yes _ _ _ (by rw [digN_hexU _ (by omega)]; omega) (by rw [digN_hexU _ (by omega)]; omega), digN_hexU _ (by omega), digN_hexU _ (by omega), ih', show c.toNat / 16 * 16 + c.toNat % 16 = c.toNat by omega]
      simp

end Go.Proofs.YtafbghlldlconaaGreatDoor.PT
