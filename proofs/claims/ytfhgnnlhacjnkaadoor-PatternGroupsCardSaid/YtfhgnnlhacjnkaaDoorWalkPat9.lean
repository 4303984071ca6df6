/-
  The laws PatternBars, PatternGroups, PatternPlain: the walks.
-/
import Derived.Test.YtfhgnnlhacjnkaaDoorPart12
namespace Go.Proofs.YtfhgnnlhacjnkaaDoor
set_option linter.unusedVariables false
set_option linter.unusedSimpArgs false
open Go.RowKit PT

theorem cat_list (a b : ByteArray) : (a ++ b).data.toList = a.data.toList ++ b.data.toList := by simp
theorem cat_size (a b : ByteArray) : (a ++ b).size = a.size + b.size := by simp
theorem neq0_yes {x : Int} (h : x ≠ 0) : (x != 0) = true := by rw [bne, intNe h]; rfl
set_option maxHeartbeats 2000000 in
set_option maxRecDepth 100000 in
theorem patternBars_walk (p q s : ByteArray) (hp : p.size ≤ maxLen) (hq : q.size ≤ maxLen) (hs : s.size ≤ maxLen) (w : World) (hT : Tables w) (rp : p.size ≤ 140737488351232) (rq : q.size ≤ 140737488351232) (_rs : s.size ≤ 140737488351232) : Calls Tryd.prog 5 #[.string p, .string q, .string s] w fun e w' => e = .returned (.bool true) ∧ Below w.heap.size w w' := by
  have hs' := hs
  go_enter Tryd.func5, Tryd.ntmps5
  go_wp2_with fail
  refine (wakes9_any _ hT).mono ?_
  rintro e w1 ⟨rfl, hb1⟩
  have hT1 := hT.kept hb1
  go_wp2_with fail
  by_cases hl : 120 < s.size ∧ s.size ≤ 4000
  · refine (long09_yes s _ hl.1 hl.2).mono ?_
    rintro e w' ⟨rfl, rfl⟩
    go_wp2_with fail
    go_ret
    exact ⟨rfl, hb1⟩
  refine (long09_no s _ hl hs).mono ?_
  rintro e w' ⟨rfl, rfl⟩
  by_cases h199 : 199 < p.size + q.size
  · have q1 : decide ((199 : Int) < (p.size : Int) + q.size) = true := decide_eq_true (by omega)
    go_wp2_with fail
    go_ret
    exact ⟨rfl, hb1⟩
  · have q1 : decide ((199 : Int) < (p.size : Int) + q.size) = false := decide_eq_false (by omega)
    go_wp2_with fail
    refine (fits_any p s hp hs' _ hT1.utf).mono ?_
    rintro e w2 ⟨rfl, hb2⟩
    have hT2 := hT1.kept hb2
    go_wp2_with fail
    refine (fits_any q s hq hs' _ hT2.utf).mono ?_
    rintro e w3 ⟨rfl, hb3⟩
    have hT3 := hT2.kept hb3
    go_wp2_with fail
    refine (fits_any (p ++ ByteArray.mk #[124] ++ q) s (by rw [cat_size, cat_size]; unfold maxLen; show p.size + 1 + q.size ≤ _; omega) hs' _ hT3.utf).mono ?_
    rintro e w4 ⟨rfl, hb4⟩
    have hB := Lib.hid (bs (bs (bs hb1 hb2) hb3) hb4)
    have hbar := Lib.hid (fun a b (h1 : fitsF p.data.toList s.data.toList = (a, 0)) (h2 : fitsF q.data.toList s.data.toList = (b, 0)) => show fitsF (p ++ ByteArray.mk #[124] ++ q).data.toList s.data.toList = (a || b, 0) by
      have hl9 : p.data.toList.length + q.data.toList.length ≤ 199 := by rw [size_list, size_list]; omega
      rw [cat_list, cat_list, show (ByteArray.mk #[124]).data.toList = [124] from rfl, List.append_assoc]
      exact fitsF_bar h1 h2 hl9)
    generalize fitsF (p ++ ByteArray.mk #[124] ++ q).data.toList s.data.toList = z at *
    generalize fitsF p.data.toList s.data.toList = x at *
    generalize fitsF q.data.toList s.data.toList = y at *
    obtain ⟨xa, xe⟩ := x
    obtain ⟨ya, ye⟩ := y
    simp only
    by_cases hx : xe = 0
    · subst hx
      by_cases hy : ye = 0
      · subst hy
        have hz := hbar.out xa ya rfl rfl
        subst hz
        clear hbar
        cases xa <;> cases ya <;>
        · go_wp2_with fail
          go_ret
          exact ⟨rfl, hB.out⟩
      · have e1 := neq0_yes hy
        clear hbar hy
        go_wp2_with fail
        go_ret
        exact ⟨rfl, hB.out⟩
    · have e1 := neq0_yes hx
      clear hbar hx
      go_wp2_with fail
      go_ret
      exact ⟨rfl, hB.out⟩
theorem eqI_no {x y : Int} (h : x ≠ y) : (x == y) = false := intNe h
set_option maxHeartbeats 2000000 in
set_option maxRecDepth 100000 in
theorem patternGroups_walk (p s : ByteArray) (hp : p.size ≤ maxLen) (hs : s.size ≤ maxLen) (w : World) (hT : Tables w) (rp : p.size ≤ 140737488351232) (rs : s.size ≤ 140737488351232) : Calls Tryd.prog 6 #[.string p, .string s] w fun e w' => e = .returned (.bool true) ∧ Below w.heap.size w w' := by
  have hs' := hs
  go_enter Tryd.func6, Tryd.ntmps6
  go_wp2_with fail
  refine (wakes9_any _ hT).mono ?_
  rintro e w1 ⟨rfl, hb1⟩
  have hT1 := hT.kept hb1
  go_wp2_with fail
  by_cases hl : 120 < s.size ∧ s.size ≤ 4000
  · refine (long09_yes s _ hl.1 hl.2).mono ?_
    rintro e w' ⟨rfl, rfl⟩
    go_wp2_with fail
    go_ret
    exact ⟨rfl, hb1⟩
  refine (long09_no s _ hl hs).mono ?_
  rintro e w' ⟨rfl, rfl⟩
  by_cases h190 : 190 < p.size
  · have q1 : decide ((190 : Int) < (p.size : Int)) = true := decide_eq_true (by omega)
    go_wp2_with fail
    go_ret
    exact ⟨rfl, hb1⟩
  · have q1 : decide ((190 : Int) < (p.size : Int)) = false := decide_eq_false (by omega)
    have hl9 : p.data.toList.length ≤ 190 := by rw [size_list]; omega
    have hgrp := Lib.hid (fun a (h : fitsF p.data.toList s.data.toList = (a, 0)) => show ((fitsF (ByteArray.mk #[40] ++ p ++ ByteArray.mk #[41]).data.toList s.data.toList).2 = 1 ∧ (fitsF (ByteArray.mk #[40] ++ p ++ ByteArray.mk #[41]).data.toList s.data.toList).1 = false) ∨ (fitsF (ByteArray.mk #[40] ++ p ++ ByteArray.mk #[41]).data.toList s.data.toList = (a, 0) ∧ fitsF (ByteArray.mk #[40] ++ p ++ ByteArray.mk #[41, 63]).data.toList s.data.toList = (a || decide (s.data.toList = []), 0)) by
      rw [cat_list, cat_list, cat_list, show (ByteArray.mk #[40]).data.toList = [40] from rfl, show (ByteArray.mk #[41]).data.toList = [41] from rfl, show (ByteArray.mk #[41, 63]).data.toList = [41, 63] from rfl]
      exact fitsF_group h hl9)
    have herr := Lib.hid (fitsF_err p.data.toList s.data.toList)
    clear hl9
    obtain ⟨⟨ya, ye⟩, hy⟩ : ∃ y, fitsF (ByteArray.mk #[40] ++ p ++ ByteArray.mk #[41]).data.toList s.data.toList = y := ⟨_, rfl⟩
    obtain ⟨⟨za, ze⟩, hz⟩ : ∃ z, fitsF (ByteArray.mk #[40] ++ p ++ ByteArray.mk #[41, 63]).data.toList s.data.toList = z := ⟨_, rfl⟩
    obtain ⟨⟨xa, xe⟩, hx⟩ : ∃ x, fitsF p.data.toList s.data.toList = x := ⟨_, rfl⟩
    rw [hy, hz, hx] at hgrp
    rw [hx] at herr
    have hy := Lib.hid hy
    have hz := Lib.hid hz
    have hx := Lib.hid hx
    go_wp2_with fail
    refine (fits_any p s hp hs' _ hT1.utf).mono ?_
    rintro e w2 ⟨rfl, hb2⟩
    have hT2 := hT1.kept hb2
    rw [hx.out]
    go_wp2_with fail
    refine (fits_any (ByteArray.mk #[40] ++ p ++ ByteArray.mk #[41]) s (by rw [cat_size, cat_size]; unfold maxLen; show 1 + p.size + 1 ≤ _; omega) hs' _ hT2.utf).mono ?_
    rintro e w3 ⟨rfl, hb3⟩
    have hT3 := hT2.kept hb3
    rw [hy.out]
    go_wp2_with fail
    refine (fits_any (ByteArray.mk #[40] ++ p ++ ByteArray.mk #[41, 63]) s (by rw [cat_size, cat_size]; unfold maxLen; show 1 + p.size + 2 ≤ _; omega) hs' _ hT3.utf).mono ?_
    rintro e w4 ⟨rfl, hb4⟩
    have hB := Lib.hid (bs (bs (bs hb1 hb2) hb3) hb4)
    rw [hz.out]
    clear hx hy hz
    simp only
    by_cases hx : xe = 0
    · subst hx
      rcases hgrp.out xa rfl with ⟨h1, h2⟩ | ⟨h1, h2⟩
      · try simp only at h1 h2
        subst h1
        subst h2
        clear hgrp herr
        go_wp2_with fail
        go_ret
        exact ⟨rfl, hB.out⟩
      · cases h1
        cases h2
        clear hgrp herr
        by_cases h0 : s.size = 0
        · have he := empS_yes h0
          subst he
          rw [show decide ((ByteArray.mk #[]).data.toList = []) = true from rfl]
          clear h0
          cases ya
          · go_wp2_with fail
            go_ret
            exact ⟨rfl, hB.out⟩
          · go_wp2_with fail
            go_ret
            exact ⟨rfl, hB.out⟩
        · obtain ⟨e1, e2, e3, e4⟩ := empS_no h0
          rw [decide_eq_false e4]
          clear h0 e4
          cases ya
          · go_wp2_with fail
            go_ret
            exact ⟨rfl, hB.out⟩
          · go_wp2_with fail
            go_ret
            exact ⟨rfl, hB.out⟩
    · rcases herr.out with h | ⟨h, _⟩ | ⟨h, _, _⟩
      · exact absurd h hx
      · try simp only at h
        subst h
        clear hgrp herr hx
        go_wp2_with fail
        go_ret
        exact ⟨rfl, hB.out⟩
      · try simp only at h
        subst h
        clear hgrp herr hx
        go_wp2_with fail
        go_ret
        exact ⟨rfl, hB.out⟩
theorem al_ways {z : Nat} : (z < 48 ∧ alB z = false) ∨ (122 < z ∧ alB z = false) ∨ (57 < z ∧ z < 65 ∧ alB z = false) ∨ (90 < z ∧ z < 97 ∧ alB z = false) ∨ (48 ≤ z ∧ z ≤ 57 ∧ alB z = true) ∨ (65 ≤ z ∧ z ≤ 90 ∧ alB z = true) ∨ (97 ≤ z ∧ z ≤ 122 ∧ alB z = true) := by
  unfold alB
  simp only [Bool.or_eq_true, Bool.and_eq_true, decide_eq_true_eq, Bool.or_eq_false_iff, Bool.and_eq_false_iff, decide_eq_false_iff_not]
  omega
set_option maxHeartbeats 4000000 in
set_option maxRecDepth 100000 in
theorem patternPlain_walk (p s : ByteArray) (hp : p.size ≤ maxLen) (hs : s.size ≤ maxLen) (w : World) (hT : Tables w) : Calls Tryd.prog 7 #[.string p, .string s] w fun e w' => e = .returned (.bool true) ∧ Below w.heap.size w w' := by
  have hs' := hs
  have hp' := hp
  unfold maxLen at hp hs
  go_enter Tryd.func7, Tryd.ntmps7
  go_wp2_with fail
  refine (wakes9_any _ hT).mono ?_
  rintro e w1 ⟨rfl, hb1⟩
  have hT1 := hT.kept hb1
  go_wp2_with fail
  by_cases hl : 120 < s.size ∧ s.size ≤ 4000
  · refine (long09_yes s _ hl.1 hl.2).mono ?_
    rintro e w' ⟨rfl, rfl⟩
    go_wp2_with fail
    go_ret
    exact ⟨rfl, hb1⟩
  refine (long09_no s _ hl hs').mono ?_
  rintro e w' ⟨rfl, rfl⟩
  by_cases h200 : 200 < p.size
  · have q1 : decide ((200 : Int) < (p.size : Int)) = true := decide_eq_true (by omega)
    go_wp2_with fail
    go_ret
    exact ⟨rfl, hb1⟩
  · have q1 : decide ((200 : Int) < (p.size : Int)) = false := decide_eq_false (by omega)
    go_wp2_with fail
    go_loop [19] (fun i => ∃ k : Nat, k ≤ p.size ∧ i = .int .i64 k ∧ Hid (∀ c ∈ p.data.toList.take k, alB c.toNat = true)) (fun i => p.size - (intOf i).toNat)
    case atStart => exact ⟨0, Nat.zero_le _, rfl, Lib.hid (fun c hc => by simp at hc)⟩
    case round =>
      obtain ⟨k, hk, rfl, hA⟩ := hrel
      by_cases hlt : k < p.size
      · have hN := Lib.hid (fun (h : alB p[k].toNat = true) => show ∀ c ∈ p.data.toList.take (k + 1), alB c.toNat = true from fun c hc => by
          rw [take_snoc p k hlt, List.mem_append, List.mem_singleton] at hc
          rcases hc with hc | rfl
          · exact hA.out c hc
          · exact h)
        rcases al_ways (z := p[k].toNat) with ⟨h1, _⟩ | ⟨h1, _⟩ | ⟨h1, h2, _⟩ | ⟨h1, h2, _⟩ | ⟨h1, h2, h3⟩ | ⟨h1, h2, h3⟩ | ⟨h1, h2, h3⟩
        rotate_left 4
        · have hN2 := Lib.hid (hN.out h3)
          have d1 : decide ((p[k].toNat : Int) < 48) = false := decide_eq_false (by omega)
          have d2 : decide ((122 : Int) < (p[k].toNat : Int)) = false := decide_eq_false (by omega)
          have d3 : decide ((57 : Int) < (p[k].toNat : Int)) = false := decide_eq_false (by omega)
          have d5 : decide ((90 : Int) < (p[k].toNat : Int)) = false := decide_eq_false (by omega)
          clear h1 h2 h3 hN
          go_wp2_with fail
          go_round
          case rel => exact ⟨k + 1, by omega, by go_num, hN2⟩
          case measure => simp [intOf]; omega
        · have hN2 := Lib.hid (hN.out h3)
          have d1 : decide ((p[k].toNat : Int) < 48) = false := decide_eq_false (by omega)
          have d2 : decide ((122 : Int) < (p[k].toNat : Int)) = false := decide_eq_false (by omega)
          have d3 : decide ((57 : Int) < (p[k].toNat : Int)) = true := decide_eq_true (by omega)
          have d4 : decide ((p[k].toNat : Int) < 65) = false := decide_eq_false (by omega)
          have d5 : decide ((90 : Int) < (p[k].toNat : Int)) = false := decide_eq_false (by omega)
          clear h1 h2 h3 hN
          go_wp2_with fail
          go_round
          case rel => exact ⟨k + 1, by omega, by go_num, hN2⟩
          case measure => simp [intOf]; omega
        · have hN2 := Lib.hid (hN.out h3)
          have d1 : decide ((p[k].toNat : Int) < 48) = false := decide_eq_false (by omega)
          have d2 : decide ((122 : Int) < (p[k].toNat : Int)) = false := decide_eq_false (by omega)
          have d3 : decide ((57 : Int) < (p[k].toNat : Int)) = true := decide_eq_true (by omega)
          have d4 : decide ((p[k].toNat : Int) < 65) = false := decide_eq_false (by omega)
          have d5 : decide ((90 : Int) < (p[k].toNat : Int)) = true := decide_eq_true (by omega)
          have d6 : decide ((p[k].toNat : Int) < 97) = false := decide_eq_false (by omega)
          clear h1 h2 h3 hN
          go_wp2_with fail
          go_round
          case rel => exact ⟨k + 1, by omega, by go_num, hN2⟩
          case measure => simp [intOf]; omega
        · have d1 : decide ((p[k].toNat : Int) < 48) = true := decide_eq_true (by omega)
          clear hN
          go_wp2_with fail
          go_ret
          exact ⟨rfl, hb1⟩
        · have d1 : decide ((p[k].toNat : Int) < 48) = false := decide_eq_false (by omega)
          have d2 : decide ((122 : Int) < (p[k].toNat : Int)) = true := decide_eq_true (by omega)
          clear hN
          go_wp2_with fail
          go_ret
          exact ⟨rfl, hb1⟩
        · have d1 : decide ((p[k].toNat : Int) < 48) = false := decide_eq_false (by omega)
          have d2 : decide ((122 : Int) < (p[k].toNat : Int)) = false := decide_eq_false (by omega)
          have d3 : decide ((57 : Int) < (p[k].toNat : Int)) = true := decide_eq_true (by omega)
          have d4 : decide ((p[k].toNat : Int) < 65) = true := decide_eq_true (by omega)
          clear hN
          go_wp2_with fail
          go_ret
          exact ⟨rfl, hb1⟩
        · have d1 : decide ((p[k].toNat : Int) < 48) = false := decide_eq_false (by omega)
          have d2 : decide ((122 : Int) < (p[k].toNat : Int)) = false := decide_eq_false (by omega)
          have d3 : decide ((57 : Int) < (p[k].toNat : Int)) = true := decide_eq_true (by omega)
          have d4 : decide ((p[k].toNat : Int) < 65) = false := decide_eq_false (by omega)
          have d5 : decide ((90 : Int) < (p[k].toNat : Int)) = true := decide_eq_true (by omega)
          have d6 : decide ((p[k].toNat : Int) < 97) = true := decide_eq_true (by omega)
          clear hN
          go_wp2_with fail
          go_ret
          exact ⟨rfl, hb1⟩
      · obtain rfl : k = p.size := by omega
        have hAll := Lib.hid (show ∀ c ∈ p.data.toList, alB c.toNat = true from fun c hc => hA.out c (by rw [List.take_of_length_le (by simp)]; exact hc))
        have hl9 : p.data.toList.length ≤ 200 := by rw [size_list]; omega
        have hF := Lib.hid (fitsF_plain (s := s.data.toList) hAll.out hl9)
        clear hl9
        go_wp2_with fail
        refine (fits_any p s hp' hs' _ hT1.utf).mono ?_
        rintro e w2 ⟨rfl, hb2⟩
        have hB := Lib.hid (bs hb1 hb2)
        rw [hF.out]
        by_cases h4 : 4000 < s.size
        · have e1 : decide ((4000 : Int) < (s.size : Int)) = true := decide_eq_true (by omega)
          rw [if_pos (by rw [size_list]; exact h4)]
          go_wp2_with fail
          go_ret
          exact ⟨rfl, hB.out⟩
        · have e1 : decide ((4000 : Int) < (s.size : Int)) = false := decide_eq_false (by omega)
          rw [if_neg (by rw [size_list]; exact h4)]
          by_cases he : p = s
          · subst he
            rw [decide_eq_true rfl]
            go_wp2_with fail
            go_ret
            exact ⟨ret_bool (by simp), hB.out⟩
          · rw [decide_eq_false (fun (h : s.data.toList = p.data.toList) => he (by rw [← mk_list p, ← mk_list s, h]))]
            have e2 : (p.toList == s.toList) = false := by
              rw [ByteArray.toList_eq, ByteArray.toList_eq, beq_eq_false_iff_ne]
              exact fun h => he (by rw [← mk_list p, ← mk_list s, h])
            clear he
            go_wp2_with fail
            go_ret
            exact ⟨ret_bool (by simp), hB.out⟩
end Go.Proofs.YtfhgnnlhacjnkaaDoor
