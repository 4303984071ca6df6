/-
  plain.Split, ref21.Split, law21.same: the walks.
-/
import Derived.Test.YtepggnnikikijaaDoorTexts
import Derived.Test.YtepggnnikikijaaDoorLines
import Derived.Test.YtepggnnikikijaaDoorPlainLines
import Derived.Deep.Slices
namespace Go.Proofs.YtepggnnikikijaaDoor
open Go.RowKit PT

theorem Txts.init {X : List (List UInt8)} {v : Value} {w : World} (h : Txts X v w) {b o cap : Nat} (hv : v = .slice (some ⟨b, o, none⟩) X.length cap) (hb : b < w.heap.size) (hc : ∀ j x, X[j]? = some x → w.cell? ⟨b, o + j, none⟩ = some (txt x)) (hcap : X.length ≤ cap) : Txts X.dropLast (.slice (some ⟨b, o, none⟩) (X.length - 1) cap) w := by
  refine .inr ⟨b, o, cap, by rw [List.length_dropLast], hb, by rw [List.length_dropLast]; omega, fun j x hx => ?_⟩
  have hj : j < X.dropLast.length := (List.getElem?_eq_some_iff.1 hx).1
  rw [List.length_dropLast] at hj
  refine hc j x ?_
  rw [List.getElem?_dropLast, if_pos (by omega)] at hx
  exact hx
theorem some_bytes21 (x : List UInt8) : ∃ P : ByteArray, x = P.data.toList := ⟨⟨x.toArray⟩, rfl⟩
theorem txt_of21 (P : ByteArray) : txt P.data.toList = .string P := rfl
set_option maxHeartbeats 1000000 in
set_option maxRecDepth 100000 in
theorem plainSplit_any (s : ByteArray) (hs : s.size ≤ 4000000) (w : World) (hT : Tables w) :
    Calls Tryd.prog 16 #[.string s] w fun e w' => (∃ v', e = .returned v' ∧ Txts (rl [] s.data.toList) v' w') ∧ Below w.heap.size w w' := by
  have hR := Lib.hid (rl_lines s.data.toList [])
  have hl := ends_len [10] s.data.toList
  rw [size_list] at hl
  simp only [List.length_cons, List.length_nil] at hl
  go_enter Tryd.func16, Tryd.ntmps16
  go_wp2_with fail
  refine (lines_any s hs _ hT).mono ?_
  rintro e w1 ⟨rfl, hb1⟩
  have hT1 := hT.kept hb1
  go_wp2_with fail
  refine (split_any ⟨(ends [10] s.data.toList).toArray⟩ 10 (by rw [size_mk]; omega) _ hT1.shape).mono ?_
  rintro e w2 ⟨⟨v2, rfl, hown2⟩, hb2⟩
  have hX2 : Txts (spl 10 [] (ends [10] s.data.toList)) v2 w2 := hown2.txts
  have hne := spl_ne 10 (ends [10] s.data.toList) []
  have hXn := spl_count 10 (ends [10] s.data.toList) []
  generalize spl 10 [] (ends [10] s.data.toList) = X at *
  have hb12 := bs hb1 hb2
  have hlen : 0 < X.length := by
    cases X with
    | nil => exact absurd rfl hne
    | cons _ _ => simp
  rcases hX2 with ⟨hX, _⟩ | ⟨b, o, cap, rfl, hb, hcap, hc⟩
  · exact absurd hX hne
  · have hX2 : Txts X (.slice (some ⟨b, o, none⟩) X.length cap) w2 := .inr ⟨b, o, cap, rfl, hb, hcap, hc⟩
    have hI := hX2.init rfl hb hc hcap
    have hcl := hc (X.length - 1) X[X.length - 1] (List.getElem?_eq_getElem (by omega))
    have hgl : X.getLast? = some X[X.length - 1] := by rw [List.getLast?_eq_getElem?, List.getElem?_eq_getElem (by omega)]
    obtain ⟨P, hx⟩ := some_bytes21 X[X.length - 1]
    rw [hx] at hcl hgl
    rw [txt_of21] at hcl
    clear hx hown2 hne
    have hi0 : (0 : Int) ≤ (X.length : Int) - 1 := by omega
    have hi1 : ((X.length : Int) - 1).toNat = X.length - 1 := by omega
    have hi2 : (X.length : Int) - 1 < (X.length : Int) := by omega
    have hi3 : (X.length : Int) - 1 ≤ (cap : Int) := by omega
    have hi4 : X.length - 1 ≤ cap := by omega
    have hpe : P.toList.isEmpty = P.data.toList.isEmpty := by rw [ByteArray.toList_eq]
    have HC := Lib.hid hc
    clear hc
    cases he : P.data.toList.isEmpty
    · rw [he] at hpe
      have hD := Lib.hid (show rl [] s.data.toList = X by
        rw [← hR.out]; unfold dropE; rw [hgl, if_neg]; intro h; rw [Option.some.inj h] at he; exact absurd he (by decide))
      clear he hgl
      go_wp2_with fail
      go_ret
      exact ⟨⟨_, rfl, by rw [hD.out]; exact hX2⟩, hb12⟩
    · rw [he] at hpe
      have hD := Lib.hid (show rl [] s.data.toList = X.dropLast by
        rw [← hR.out]; unfold dropE; rw [hgl, if_pos (by rw [List.isEmpty_iff.1 he])])
      clear he hgl
      go_wp2_with fail
      go_ret
      exact ⟨⟨_, rfl, by rw [hD.out]; exact hI⟩, hb12⟩
set_option maxHeartbeats 1000000 in
set_option maxRecDepth 100000 in
theorem refSplit21_any (s : ByteArray) (hs : s.size ≤ 1000000000) (w : World) :
    Calls Tryd.prog 17 #[.string s] w fun e w' => (∃ v', e = .returned v' ∧ OT w.heap.size (rl [] s.data.toList) v' w') ∧ Below w.heap.size w w' := by
  go_enter Tryd.func17, Tryd.ntmps17
  go_wp2_with fail
  go_loopw [5, 4, 3] (fun i f v wr => ∃ k fr : Nat, ∃ xs : List (List UInt8), k ≤ s.size ∧ fr ≤ k ∧ i = .int .i64 k ∧ f = .int .i64 fr ∧ xs.length ≤ k ∧ OT w.heap.size xs v wr ∧ Below w.heap.size w wr ∧
    Hid (xs ++ rl ((s.data.toList.drop fr).take (k - fr)) (s.data.toList.drop k) = rl [] s.data.toList)) (fun i _ _ _ => s.size - (intOf i).toNat)
  case atStart => exact ⟨0, 0, [], by omega, by omega, rfl, rfl, by simp, OT.nil _ _, Below.refl _ _, Lib.hid (by simp)⟩
  case round =>
    obtain ⟨k, fr, xs, hk, hfk, rfl, rfl, hxl, hown, hbel, hH⟩ := hrel
    have hsz := hbel.size
    have hov := hown.ov
    have hxl' : (xs.map txt).length < 17179869184 := by rw [List.length_map]; omega
    by_cases hlt : k < s.size
    · have hE := hH.out
      rw [drop_cons' s k hlt] at hE
      have hle : (k : Int) ≤ (s.size : Int) := by omega
      have hfi : (fr : Int) ≤ (k : Int) := by omega
      have hX := Lib.hid (cut_list s fr k)
      have fin : ∀ v' w1, OV w.heap.size 9 (xs.map txt ++ [.string (s.extract fr k)]) v' w1 → OT w.heap.size (xs ++ [(s.data.toList.drop fr).take (k - fr)]) v' w1 := fun v' w1 h => by
        unfold OT
        rw [List.map_append, List.map_cons, List.map_nil, ← hX.out]
        exact h
      have Fin := Lib.hid fin
      have hlen1 : (xs ++ [(s.data.toList.drop fr).take (k - fr)]).length = xs.length + 1 := by rw [List.length_append]; rfl
      have hnil : ∀ j, ((s.data.toList.drop j).take (j - j)) = [] := fun j => by simp
      by_cases h13 : s[k] = 13
      · have h13a : ((s[k].toNat : Int) != 13) = false := by rw [h13]; rfl
        have h13b : ((s[k].toNat : Int) != 10) = true := by rw [h13]; rfl
        have h13c : ((s[k].toNat : Int) == 13) = true := by rw [h13]; rfl
        by_cases hk1 : k + 1 < s.size
        · have hk1' : (k : Int) + 1 < (s.size : Int) := by omega
          by_cases h10 : s[k + 1] = 10
          · have h10a : ((s[k + 1].toNat : Int) == 10) = true := by rw [h10]; rfl
            have hN := Lib.hid (show (xs ++ [(s.data.toList.drop fr).take (k - fr)]) ++ rl ((s.data.toList.drop (k + 2)).take (k + 2 - (k + 2))) (s.data.toList.drop (k + 2)) = rl [] s.data.toList by
              rw [← hE, drop_cons' s (k + 1) hk1, h13, h10, rl_crlf, hnil, List.append_assoc]; rfl)
            clear hE h13 h10 fin
            go_wp2_with (at_builtin; refine wpList_append_cell rfl _ _ 27 9 rfl Tryd.underlying27 info_str rfl (by decide) rfl rfl (.string (s.extract fr k)) rfl hov hxl' hsz ?_; intro v' w1 hown' hb')
            have hT1 := Fin.out _ _ hown'
            go_roundw
            case rel => exact ⟨k + 2, k + 2, xs ++ [(s.data.toList.drop fr).take (k - fr)], by omega, by omega, by go_num, by go_num, by omega, hT1, hbel.trans hb', hN⟩
            case measure => simp [intOf]; omega
          · have h10a : ((s[k + 1].toNat : Int) == 10) = false := by
              rw [beq_eq_false_iff_ne]
              intro e
              exact h10 (UInt8.toNat_inj.1 (by have : (10 : UInt8).toNat = 10 := rfl; omega))
            have hN := Lib.hid (show (xs ++ [(s.data.toList.drop fr).take (k - fr)]) ++ rl ((s.data.toList.drop (k + 1)).take (k + 1 - (k + 1))) (s.data.toList.drop (k + 1)) = rl [] s.data.toList by
              rw [← hE, rl_brk _ _ _ (by rw [drop_cons' s (k + 1) hk1]; simp [h10]) (by rw [h13]; decide), hnil, List.append_assoc]; rfl)
            clear hE h13 h10 fin
            go_wp2_with (at_builtin; refine wpList_append_cell rfl _ _ 27 9 rfl Tryd.underlying27 info_str rfl (by decide) rfl rfl (.string (s.extract fr k)) rfl hov hxl' hsz ?_; intro v' w1 hown' hb')
            have hT1 := Fin.out _ _ hown'
            go_roundw
            case rel => exact ⟨k + 1, k + 1, xs ++ [(s.data.toList.drop fr).take (k - fr)], by omega, by omega, by go_num, by go_num, by omega, hT1, hbel.trans hb', hN⟩
            case measure => simp [intOf]; omega
        · have hk1' : decide ((k : Int) + 1 < (s.size : Int)) = false := by simp; omega
          have hN := Lib.hid (show (xs ++ [(s.data.toList.drop fr).take (k - fr)]) ++ rl ((s.data.toList.drop (k + 1)).take (k + 1 - (k + 1))) (s.data.toList.drop (k + 1)) = rl [] s.data.toList by
            rw [← hE, rl_brk _ _ _ (by rw [List.drop_eq_nil_of_le (by rw [size_list]; omega)]; simp) (by rw [h13]; decide), hnil, List.append_assoc]; rfl)
          clear hE h13 fin
          go_wp2_with (at_builtin; refine wpList_append_cell rfl _ _ 27 9 rfl Tryd.underlying27 info_str rfl (by decide) rfl rfl (.string (s.extract fr k)) rfl hov hxl' hsz ?_; intro v' w1 hown' hb')
          have hT1 := Fin.out _ _ hown'
          go_roundw
          case rel => exact ⟨k + 1, k + 1, xs ++ [(s.data.toList.drop fr).take (k - fr)], by omega, by omega, by go_num, by go_num, by omega, hT1, hbel.trans hb', hN⟩
          case measure => simp [intOf]; omega
      · have h13c : ((s[k].toNat : Int) == 13) = false := by
          rw [beq_eq_false_iff_ne]
          intro e
          exact h13 (UInt8.toNat_inj.1 (by have : (13 : UInt8).toNat = 13 := rfl; omega))
        have h13a : ((s[k].toNat : Int) != 13) = true := by rw [bne, h13c]; rfl
        by_cases h10 : s[k] = 10
        · have h10a : ((s[k].toNat : Int) != 10) = false := by rw [h10]; rfl
          have hN := Lib.hid (show (xs ++ [(s.data.toList.drop fr).take (k - fr)]) ++ rl ((s.data.toList.drop (k + 1)).take (k + 1 - (k + 1))) (s.data.toList.drop (k + 1)) = rl [] s.data.toList by
            rw [← hE, rl_brk _ _ _ (fun e => h13 e.1) (by rw [h10]; decide), hnil, List.append_assoc]; rfl)
          clear hE h13 h10 fin
          go_wp2_with (at_builtin; refine wpList_append_cell rfl _ _ 27 9 rfl Tryd.underlying27 info_str rfl (by decide) rfl rfl (.string (s.extract fr k)) rfl hov hxl' hsz ?_; intro v' w1 hown' hb')
          have hT1 := Fin.out _ _ hown'
          go_roundw
          case rel => exact ⟨k + 1, k + 1, xs ++ [(s.data.toList.drop fr).take (k - fr)], by omega, by omega, by go_num, by go_num, by omega, hT1, hbel.trans hb', hN⟩
          case measure => simp [intOf]; omega
        · have h10a : ((s[k].toNat : Int) != 10) = true := by
            simp only [bne_iff_ne, ne_eq]
            intro e
            exact h10 (UInt8.toNat_inj.1 (by have : (10 : UInt8).toNat = 10 := rfl; omega))
          have hN := Lib.hid (show xs ++ rl ((s.data.toList.drop fr).take (k + 1 - fr)) (s.data.toList.drop (k + 1)) = rl [] s.data.toList by
            rw [← hE, rl_more _ _ _ (by unfold brk; simp [h10, h13]), cut_snoc s fr k hfk hlt])
          clear hE h13 h10 fin
          go_wp2_with fail
          go_roundw
          case rel => exact ⟨k + 1, fr, xs, by omega, by omega, by go_num, rfl, by omega, hown, hbel, hN⟩
          case measure => simp [intOf]; omega
    · obtain rfl : k = s.size := by omega
      have hE := hH.out
      have hd : s.data.toList.drop s.size = [] := List.drop_eq_nil_of_le (by rw [size_list]; exact Nat.le_refl _)
      rw [hd, rl_nil] at hE
      have hls : (s.data.toList.drop fr).length = s.size - fr := by rw [List.length_drop, size_list]
      by_cases hff : fr < s.size
      · have hff' : (fr : Int) < (s.size : Int) := by omega
        have hfi : (fr : Int) ≤ (s.size : Int) := by omega
        rw [if_neg (by
          intro e
          have := congrArg List.length e
          rw [List.length_take, hls, List.length_nil] at this
          omega)] at hE
        have hX := Lib.hid (cut_list s fr s.size)
        have hE' := Lib.hid hE
        clear hE hd hls hH
        go_wp2_with (at_builtin; refine wpList_append_cell rfl _ _ 27 9 rfl Tryd.underlying27 info_str rfl (by decide) rfl rfl (.string (s.extract fr s.size)) rfl hov hxl' hsz ?_; intro v' w1 hown' hb')
        go_ret
        refine ⟨⟨_, rfl, ?_⟩, hbel.trans hb'⟩
        rw [← hE'.out]
        unfold OT
        rw [List.map_append, List.map_cons, List.map_nil, ← hX.out]
        exact hown'
      · have hff' : decide ((fr : Int) < (s.size : Int)) = false := by simp; omega
        rw [if_pos (by
          rw [List.length_eq_zero_iff.1 (show ((s.data.toList.drop fr).take (s.size - fr)).length = 0 by rw [List.length_take, hls]; omega)]), List.append_nil] at hE
        have hE' := Lib.hid hE
        clear hE hd hls hH
        go_wp2_with fail
        go_ret
        exact ⟨⟨_, rfl, by rw [← hE'.out]; exact hown⟩, hbel⟩
set_option maxHeartbeats 1000000 in
set_option maxRecDepth 100000 in
theorem same21_yes (X : List (List UInt8)) (u v : Value) (w : World) (hU : Txts X u w) (hV : Txts X v w) (hl : X.length ≤ 4294967296) :
    Calls Tryd.prog 15 #[u, v] w fun e w' => e = .returned (.bool true) ∧ Below w.heap.size w w' := by
  obtain ⟨a, cap, rfl⟩ := hU.len
  obtain ⟨a', cap', rfl⟩ := hV.len
  go_enter Tryd.func15, Tryd.ntmps15
  go_wp2_with fail
  go_loopw [13] (fun i wr => ∃ k : Nat, k ≤ X.length ∧ i = .int .i64 k ∧ Below w.heap.size w wr) (fun i _ => X.length - (intOf i).toNat)
  case atStart => exact ⟨0, Nat.zero_le _, rfl, Below.refl _ _⟩
  case round =>
    obtain ⟨k, hk, rfl, hbel⟩ := hrel
    by_cases hlt : k < X.length
    · obtain ⟨b, o, c1, hv, hb, hc⟩ := (hU.kept hbel).at hlt
      obtain ⟨b', o', c1', hv', hb', hc'⟩ := (hV.kept hbel).at hlt
      cases hv
      cases hv'
      obtain ⟨P, hx⟩ := some_bytes21 X[k]
      rw [hx] at hc hc'
      rw [txt_of21] at hc hc'
      clear hx
      go_wp2_with fail
      go_quiet (fail)
      go_wp2_with fail
      go_roundw
      case rel => exact ⟨k + 1, by omega, by go_num, hbel.trans ((below_draws wr _).mono hbel.size)⟩
      case measure => simp [intOf]; omega
    · obtain rfl : k = X.length := by omega
      go_wp2_with fail
      go_ret
      exact ⟨rfl, hbel⟩
end Go.Proofs.YtepggnnikikijaaDoor
