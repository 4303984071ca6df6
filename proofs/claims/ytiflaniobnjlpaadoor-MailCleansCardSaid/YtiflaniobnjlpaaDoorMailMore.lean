/-
  mail.List, mail.Trim, mail.Clean: the walks.
-/
import Derived.Test.YtiflaniobnjlpaaDoorMail
import Derived.Test.YtiflaniobnjlpaaDoorLines
namespace Go.Proofs.YtiflaniobnjlpaaDoor
open Go.RowKit PT

set_option maxHeartbeats 1000000 in
set_option maxRecDepth 100000 in
theorem mailList_any (s : ByteArray) (hs : s.size ≤ 1000000000) (w : World) (hT : Tables w) :
    Calls Tryd.prog 23 #[.string s] w fun e w' => e = .returned (.bool (isList s.data.toList)) ∧ Below w.heap.size w w' := by
  have hpe : s.toList.isEmpty = s.data.toList.isEmpty := by rw [ByteArray.toList_eq]
  have hI : isList s.data.toList = (s.data.toList.isEmpty || (spl 44 [] s.data.toList).all fun a => isAddr (strip a)) := rfl
  cases he : s.data.toList.isEmpty
  · rw [he] at hpe
    rw [he, Bool.false_or] at hI
    have HI := Lib.hid hI
    clear he hI
    go_enter Tryd.func23, Tryd.ntmps23
    go_wp2_with fail
    refine (split_any s 44 (by omega) _ hT.shape).mono ?_
    rintro e w2 ⟨⟨v2, rfl, hown2⟩, hb2⟩
    have hX2 := hown2.txts
    have hT2 := hT.kept hb2
    have hXs : ∀ x ∈ spl 44 [] s.data.toList, x.length ≤ 1000000000 := fun x hx => by
      have := spl_small 44 _ [] x hx
      rw [List.length_nil, size_list] at this
      omega
    have hXn := spl_count 44 s.data.toList []
    rw [size_list] at hXn
    generalize spl 44 [] s.data.toList = X at *
    clear hown2
    obtain ⟨a, cap, rfl⟩ := hX2.len
    go_wp2_with fail
    go_loopw [10] (fun i wr => ∃ k : Nat, k ≤ X.length ∧ i = .int .i64 k ∧ Hid ((X.take k).all (fun a => isAddr (strip a)) = true) ∧ Below w2.heap.size w2 wr) (fun i _ => X.length - (intOf i).toNat)
    case atStart => exact ⟨0, Nat.zero_le _, rfl, Lib.hid rfl, Below.refl _ _⟩
    case round =>
      obtain ⟨k, hk, rfl, hA, hbel⟩ := hrel
      by_cases hlt : k < X.length
      · obtain ⟨b, o, cap', hv, hb, hc⟩ := (hX2.kept hbel).at hlt
        cases hv
        have hXk := hXs X[k] (List.getElem_mem hlt)
        have hNo := Lib.hid (all_take_no X (fun a => isAddr (strip a)) k hlt)
        have hYe := Lib.hid (all_take_step X (fun a => isAddr (strip a)) k hlt hA.out)
        have hTr := hT2.kept hbel
        obtain ⟨P, hx⟩ := some_bytes X[k]
        rw [hx] at hc hXk hNo hYe
        rw [txt_of] at hc
        rw [size_list] at hXk
        clear hx
        have hsl := strip_len P.data.toList
        rw [size_list] at hsl
        go_wp2_with fail
        refine (strip_any P _ (by omega)).mono ?_
        rintro e w3 ⟨rfl, hb3⟩
        go_wp2_with fail
        refine (mailAddress_any ⟨(strip P.data.toList).toArray⟩ (by rw [size_mk]; omega) _ (hTr.kept hb3)).mono ?_
        rintro e w4 ⟨rfl, hb4⟩
        have hb34 := bs hb3 hb4
        cases hL : isAddr (ByteArray.mk (strip P.data.toList).toArray).data.toList
        · have hN := Lib.hid (show isList s.data.toList = false by rw [HI.out]; exact hNo.out hL)
          clear hL
          go_wp2_with fail
          go_ret
          exact ⟨ret_bool hN.out.symm, bs hb2 (hbel.trans (hb34.mono hbel.size))⟩
        · have hN := Lib.hid (hYe.out hL)
          clear hL
          go_wp2_with fail
          go_roundw
          case rel => exact ⟨k + 1, by omega, by go_num, hN, hbel.trans (hb34.mono hbel.size)⟩
          case measure => simp [intOf]; omega
      · obtain rfl : k = X.length := by omega
        have hN := Lib.hid (show isList s.data.toList = true by rw [HI.out]; have := hA.out; rwa [List.take_of_length_le (Nat.le_refl _)] at this)
        go_wp2_with fail
        go_ret
        exact ⟨ret_bool hN.out.symm, bs hb2 hbel⟩
  · rw [he] at hpe
    have hN := Lib.hid (show isList s.data.toList = true by rw [hI, he]; rfl)
    clear he hI
    go_enter Tryd.func23, Tryd.ntmps23
    go_wp2_with fail
    go_ret
    exact ⟨ret_bool hN.out.symm, Below.refl _ _⟩

theorem mailTrim_any (s : ByteArray) (hs : s.size ≤ 4000000) (w : World) (hT : Tables w) :
    Calls Tryd.prog 26 #[.string s] w fun e w' => e = .returned (.string ⟨(trimM s.data.toList).toArray⟩) ∧ Below w.heap.size w w' := by
  have hl := ends_len [] s.data.toList
  rw [size_list] at hl
  simp only [List.length_nil] at hl
  go_enter Tryd.func26, Tryd.ntmps26
  go_wp2_with fail
  refine (noBreaks_any s hs _ hT).mono ?_
  rintro e w1 ⟨rfl, hb1⟩
  go_wp2_with fail
  refine (strip_any ⟨(ends [] s.data.toList).toArray⟩ _ (by rw [size_mk]; omega)).mono ?_
  rintro e w2 ⟨rfl, hb2⟩
  go_wp2_with fail
  go_ret
  exact ⟨rfl, bs hb1 hb2⟩

/-- the row behind k rounds of Clean -/
def cleanAt (X : List (List UInt8)) (k : Nat) : List (List UInt8) := (X.take k).map strip ++ X.drop k
theorem cleanAt_len (X : List (List UInt8)) (k : Nat) (_h : k ≤ X.length) : (cleanAt X k).length = X.length := by
  unfold cleanAt
  rw [List.length_append, List.length_map, List.length_take, List.length_drop]
  omega
theorem cleanAt_get (X : List (List UInt8)) (k : Nat) (h : k < X.length) : (cleanAt X k)[k]? = some X[k] := by
  unfold cleanAt
  rw [List.getElem?_append_right (by rw [List.length_map, List.length_take]; omega), List.length_map, List.length_take, Nat.min_eq_left (by omega), Nat.sub_self, List.getElem?_drop, Nat.add_zero, List.getElem?_eq_getElem h]
theorem cleanAt_step (X : List (List UInt8)) (k : Nat) (h : k < X.length) : cleanAt X (k + 1) = (cleanAt X k).set k (strip X[k]) := by
  unfold cleanAt
  rw [List.set_append, if_neg (by rw [List.length_map, List.length_take]; omega), List.length_map, List.length_take, Nat.min_eq_left (by omega), Nat.sub_self, List.take_succ_eq_append_getElem h, List.map_append, List.drop_eq_getElem_cons h, List.append_assoc]
  rfl
/-- a row of texts that is the call's own and may be written -/
def RT (b : Nat) (X : List (List UInt8)) (w : World) : Prop := ∀ j x, X[j]? = some x → w.cell? ⟨b, j, none⟩ = some (txt x) ∧ w.frozen? ⟨b, j, none⟩ = false
theorem RT.put {b k : Nat} {X : List (List UInt8)} {w : World} (h : RT b X w) (hk : k < X.length) (x : List UInt8) : RT b (X.set k x) (w.setCell ⟨b, k, none⟩ (txt x)) := by
  intro j y hy
  rw [World.frozen?_setCell]
  by_cases e : j = k
  · subst e
    rw [List.getElem?_set_self hk] at hy
    cases hy
    obtain ⟨hc, hf⟩ := h j X[j] (List.getElem?_eq_getElem hk)
    exact ⟨World.cell?_setCell_same _ _ _ hc, hf⟩
  · rw [List.getElem?_set_ne (fun h => e h.symm)] at hy
    obtain ⟨hc, hf⟩ := h j y hy
    exact ⟨by rw [World.cell?_setCell_other]; exact hc; (intro h; simp only [Addr.mk.injEq] at h; exact e h.2.1.symm), hf⟩
theorem RT.kept {b : Nat} {X : List (List UInt8)} {w w' : World} (h : RT b X w) (hb : Below w.heap.size w w') (hlt : b < w.heap.size) : RT b X w' := by
  intro j x hx
  obtain ⟨hc, hf⟩ := h j x hx
  refine ⟨by rw [← hc]; simp only [World.cell?, hb.block b hlt], ?_⟩
  rw [hb.frozen hlt]; exact hf
theorem RT.of_own {base : Nat} {X : List (List UInt8)} {v : Value} {w : World} (h : OT base X v w) (hn : X ≠ []) : ∃ b cap, v = .slice (some ⟨b, 0, none⟩) X.length cap ∧ X.length ≤ cap ∧ base ≤ b ∧ b < w.heap.size ∧ RT b X w := by
  obtain ⟨h1, ⟨rfl, h2⟩ | ⟨g, cap, cur, rfl, h2, h3, h4, h5, h6, h7⟩⟩ := h
  · rw [List.length_map] at h2
    exact absurd (List.length_eq_zero_iff.1 h2) hn
  · rw [List.length_map] at h4
    refine ⟨g, cap, by rw [List.length_map], h4, h2, (Array.getElem?_eq_some_iff.1 h3).1, fun j x hx => ?_⟩
    have hj : j < X.length := (List.getElem?_eq_some_iff.1 hx).1
    have hf : (X.map txt)[j]? = some (txt x) := by rw [List.getElem?_map, hx]; rfl
    rw [← h7, List.getElem?_take_of_lt (by rw [List.length_map]; omega)] at hf
    refine ⟨?_, by simp [World.frozen?, h3]⟩
    simp only [World.cell?, h3]
    simpa using hf
set_option maxHeartbeats 1000000 in
set_option maxRecDepth 100000 in
theorem mailClean_any (s : ByteArray) (hs : s.size ≤ 100000) (w : World) (hT : Tables w) :
    Calls Tryd.prog 25 #[.string s] w fun e w' => e = .returned (.string ⟨(cleanM s.data.toList).toArray⟩) ∧ Below w.heap.size w w' := by
  have hcl := cleanM_len s.data.toList
  rw [size_list] at hcl
  have hcl2 : (s.size + 1) * (s.size + 1) ≤ 100001 * 100001 := Nat.mul_le_mul (by omega) (by omega)
  have hI : cleanM s.data.toList = jn 44 ((spl 44 [] s.data.toList).map strip) := rfl
  go_enter Tryd.func25, Tryd.ntmps25
  go_wp2_with fail
  refine (split_any s 44 (by omega) _ hT.shape).mono ?_
  rintro e w2 ⟨⟨v2, rfl, hown2⟩, hb2⟩
  have hXs : ∀ x ∈ spl 44 [] s.data.toList, x.length ≤ 100000 := fun x hx => by
    have := spl_small 44 _ [] x hx
    rw [List.length_nil, size_list] at this
    omega
  have hXn := spl_count 44 s.data.toList []
  rw [size_list] at hXn
  have hne := spl_ne 44 s.data.toList []
  generalize spl 44 [] s.data.toList = X at *
  obtain ⟨b, cap, rfl, hcap, hbase, hblt, hR⟩ := RT.of_own hown2 hne
  have HI := Lib.hid hI
  rw [hI] at hcl
  clear hown2 hI
  have hR0 : RT b (cleanAt X 0) w2 := by
    have : cleanAt X 0 = X := by unfold cleanAt; simp
    rw [this]; exact hR
  have hs2 := hb2.size
  clear hR
  go_wp2_with fail
  go_loopw [9] (fun i wr => ∃ k : Nat, k ≤ X.length ∧ i = .int .i64 k ∧ RT b (cleanAt X k) wr ∧ Below w.heap.size w wr ∧ b < wr.heap.size) (fun i _ => X.length - (intOf i).toNat)
  case atStart => exact ⟨0, Nat.zero_le _, rfl, hR0, hb2, hblt⟩
  case round =>
    obtain ⟨k, hk, rfl, hrow, hbel, hbl⟩ := hrel
    have hcl' := cleanAt_len X k hk
    by_cases hlt : k < X.length
    · obtain ⟨hc, hf⟩ := hrow k X[k] (cleanAt_get X k hlt)
      have hXk := hXs X[k] (List.getElem_mem hlt)
      have hSt := Lib.hid (cleanAt_step X k hlt)
      have hG := Lib.hid (cleanAt_get X k hlt)
      obtain ⟨P, hx⟩ := some_bytes X[k]
      rw [hx] at hc hXk hSt hG
      rw [txt_of] at hc
      rw [size_list] at hXk
      clear hx
      go_wp2_with fail
      refine (strip_any P _ (by omega)).mono ?_
      rintro e w3 ⟨rfl, hb3⟩
      have hrow3 := hrow.kept hb3 hbl
      obtain ⟨hc3, hf3⟩ := hrow3 k P.data.toList hG.out
      rw [txt_of] at hc3
      have hR4 := hrow3.put (k := k) (by omega) (strip P.data.toList)
      rw [← hSt.out] at hR4
      have hb4 : Below w.heap.size w (w3.setCell ⟨b, k, none⟩ (txt (strip P.data.toList))) := (hbel.trans (hb3.mono hbel.size)).setCell (show w.heap.size ≤ b from hbase) _
      have hb5 : b < (w3.setCell ⟨b, k, none⟩ (txt (strip P.data.toList))).heap.size := by have := hb3.size; simp; omega
      have HR4 := Lib.hid hR4
      clear hR4 hrow hrow3
      go_wp2_with fail
      go_roundw
      case rel => exact ⟨k + 1, by omega, by go_num, HR4.out, hb4, hb5⟩
      case measure => simp [intOf]; omega
    · obtain rfl : k = X.length := by omega
      have hX : Txts (X.map strip) (.slice (some ⟨b, 0, none⟩) X.length cap) wr := by
        refine .inr ⟨b, 0, cap, by rw [List.length_map], hbl, by rw [List.length_map]; exact hcap, fun j x hx => ?_⟩
        rw [Nat.zero_add]
        refine (hrow j x ?_).1
        unfold cleanAt
        rw [List.take_of_length_le (Nat.le_refl _), List.drop_eq_nil_of_le (Nat.le_refl _), List.append_nil]
        exact hx
      go_wp2_with fail
      refine (join_any _ 44 _ _ hX (by rw [List.length_map]; omega) (by omega)).mono ?_
      rintro e w3 ⟨rfl, hb3⟩
      go_wp2_with fail
      go_ret
      exact ⟨ret_str HI.out.symm, hbel.trans (hb3.mono hbel.size)⟩
end Go.Proofs.YtiflaniobnjlpaaDoor
