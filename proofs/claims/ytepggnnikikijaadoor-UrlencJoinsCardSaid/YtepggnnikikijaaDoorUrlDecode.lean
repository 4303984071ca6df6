/-
  urlenc.Decode, ref19.Decode: the walks.
-/
import Derived.Test.YtepggnnikikijaaDoorUrlCode
namespace Go.Proofs.YtepggnnikikijaaDoor
open Go.RowKit PT

theorem own_lower {base b2 : Nat} {es : List Ent} {v : Value} {w : World} (h : OE base es v w) (hb : b2 ≤ base) : OE b2 es v w := by
  obtain ⟨h1, ⟨rfl, hn⟩ | ⟨g, cap, cur, rfl, h2, h3⟩⟩ := h
  · exact ⟨h1, .inl ⟨rfl, hn⟩⟩
  · exact ⟨h1, .inr ⟨g, cap, cur, rfl, by omega, h3⟩⟩
def dEnt (p : List UInt8) : Ent := ⟨⟨(unform (upTo 61 p)).toArray⟩, ⟨(unform (aft 61 p)).toArray⟩, false, ⟨#[]⟩, ⟨#[]⟩⟩
def decE (X : List (List UInt8)) : List Ent := (X.filter fun p => !p.isEmpty).map dEnt
theorem decE_empty (X : List (List UInt8)) (k : Nat) (hk : k < X.length) (h : X[k] = []) : decE (X.take (k + 1)) = decE (X.take k) := by
  unfold decE
  rw [List.take_succ_eq_append_getElem hk, List.filter_append, h]; simp
theorem decE_full (X : List (List UInt8)) (k : Nat) (hk : k < X.length) (h : X[k].isEmpty = false) : decE (X.take (k + 1)) = decE (X.take k) ++ [dEnt X[k]] := by
  unfold decE
  rw [List.take_succ_eq_append_getElem hk, List.filter_append, List.filter_cons_of_pos (by rw [h]; rfl), List.filter_nil, List.map_append]; rfl
theorem decE_len (X : List (List UInt8)) (k : Nat) : (decE (X.take k)).length ≤ k := by
  unfold decE
  rw [List.length_map]
  have h1 := List.length_filter_le (fun p : List UInt8 => !p.isEmpty) (X.take k)
  have h2 : (X.take k).length ≤ k := by rw [List.length_take]; omega
  omega
theorem decE_decP (l : List UInt8) : decE (spl 38 [] l) = (decP l).map fun y => ⟨⟨y.1.toArray⟩, ⟨y.2.toArray⟩, false, ⟨#[]⟩, ⟨#[]⟩⟩ := by
  unfold decE decP
  rw [List.map_map]; rfl
theorem some_bytes (x : List UInt8) : ∃ P : ByteArray, x = P.data.toList := ⟨⟨x.toArray⟩, rfl⟩
theorem txt_of (P : ByteArray) : txt P.data.toList = .string P := rfl

set_option maxHeartbeats 1000000 in
set_option maxRecDepth 100000 in
theorem urlDecode_any (s : ByteArray) (hs : s.size < 900000000) (hP : ∀ p ∈ spl 38 [] s.data.toList, p.length ≤ 900000) (w : World) (hT : Tables w) :
    Calls Tryd.prog 24 #[.string s] w fun e w' => (∃ v', e = .returned v' ∧ OE w.heap.size (decE (spl 38 [] s.data.toList)) v' w') ∧ Below w.heap.size w w' := by
  have hcnt := spl_count 38 s.data.toList []
  rw [size_list] at hcnt
  go_enter Tryd.func24, Tryd.ntmps24
  go_wp2_with fail
  refine (split_any s 38 (by omega) _ hT.shape).mono ?_
  rintro e w1 ⟨⟨v1, rfl, hown1⟩, hb1⟩
  have hX1 := hown1.txts
  have hT1 := hT.kept hb1
  have hb1s := hb1.size
  generalize hXe : spl 38 [] s.data.toList = X at *
  have HX := Lib.hid hXe
  clear hXe
  obtain ⟨a, cap, rfl⟩ := hX1.len
  clear hown1
  go_wp2_with fail
  go_loopw [12, 3] (fun i v wr => ∃ k : Nat, k ≤ X.length ∧ i = .int .i64 k ∧ OE w1.heap.size (decE (X.take k)) v wr ∧ Below w1.heap.size w1 wr) (fun i _ _ => X.length - (intOf i).toNat)
  case atStart => exact ⟨0, Nat.zero_le _, rfl, OE.nil _ _, Below.refl _ _⟩
  case round =>
    obtain ⟨k, hk, rfl, hown, hbel⟩ := hrel
    have hsz := hbel.size
    by_cases hlt : k < X.length
    · obtain ⟨b, o, cap', hv, hb, hc⟩ := (hX1.kept hbel).at hlt
      have hPk := hP X[k] (List.getElem_mem hlt)
      have hEm := Lib.hid (decE_empty X k hlt)
      have hFu := Lib.hid (decE_full X k hlt)
      have hDl := decE_len X k
      cases hv
      obtain ⟨P, hx⟩ := some_bytes X[k]
      rw [hx] at hc hPk hEm hFu
      rw [txt_of] at hc
      rw [size_list] at hPk
      clear hx
      have hpe : P.toList.isEmpty = P.data.toList.isEmpty := by rw [ByteArray.toList_eq]
      cases he : P.data.toList.isEmpty
      · rw [he] at hpe
        have hN := Lib.hid (hFu.out he)
        clear he
        have hu1 : (upTo 61 P.data.toList).length ≤ 900000 := by have := upTo_len 61 P.data.toList; rw [size_list] at this; omega
        have hu2 : (aft 61 P.data.toList).length ≤ 900000 := by unfold aft; rw [List.length_drop, size_list]; omega
        have hC := cut_aft 61 P.data.toList
        go_wp2_with fail
        refine (cut_any P 61 (by omega) _).mono ?_
        rintro e w2 ⟨rfl, n2, rfl⟩
        rw [hC.1, hC.2]
        clear hC
        have hbd := below_draws wr n2
        have hT2 := (hT1.kept hbel).kept hbd
        generalize wr.drewN n2 = w2 at *
        go_wp2_with fail
        refine (unform_any ⟨(upTo 61 P.data.toList).toArray⟩ (by rw [size_mk]; omega) _ hT2).mono ?_
        rintro e w3 ⟨rfl, hb3⟩
        have hT3 := hT2.kept hb3
        go_wp2_with fail
        refine (unform_any ⟨(aft 61 P.data.toList).toArray⟩ (by rw [size_mk]; omega) _ hT3).mono ?_
        rintro e w4 ⟨rfl, hb4⟩
        have hb04 := bs (bs hbd hb3) hb4
        have hown4 := hown.kept hb04
        have hs4 := hb04.size
        go_wp2_with (at_builtin; refine wpList_append_ent rfl _ _ rfl rfl rfl (dEnt P.data.toList) hown4 (by omega) (by omega) ?_; intro v' w5 hown5 hb5)
        go_roundw
        case rel => exact ⟨k + 1, by omega, by go_num, by rw [hN.out]; exact hown5, (hbel.trans (hb04.mono hsz)).trans hb5⟩
        case measure => simp [intOf]; omega
      · rw [he] at hpe
        have hN := Lib.hid (hEm.out (List.isEmpty_iff.1 he))
        clear he
        go_wp2_with fail
        go_roundw
        case rel => exact ⟨k + 1, by omega, by go_num, by rw [hN.out]; exact hown, hbel⟩
        case measure => simp [intOf]; omega
    · obtain rfl : k = X.length := by omega
      rw [List.take_of_length_le (Nat.le_refl _)] at hown
      go_wp2_with fail
      go_ret
      exact ⟨⟨_, rfl, by rw [HX.out]; exact own_lower hown hb1s⟩, hb1.trans (hbel.mono hb1s)⟩
theorem upTo_hit (l : List UInt8) (j : Nat) (h : j < l.length) (hc : l[j] = 61) : upTo 61 (l.drop j) = [] := by
  rw [List.drop_eq_getElem_cons h, upTo, if_pos hc]
theorem upTo_miss (l : List UInt8) (j : Nat) (h : j < l.length) (hc : l[j] ≠ 61) : l.take j ++ upTo 61 (l.drop j) = l.take (j + 1) ++ upTo 61 (l.drop (j + 1)) := by
  rw [List.drop_eq_getElem_cons h, upTo, if_neg hc, List.take_succ_eq_append_getElem h, List.append_assoc]
  rfl
set_option maxHeartbeats 1000000 in
set_option maxRecDepth 100000 in
theorem refDecode19_any (s : ByteArray) (hs : s.size < 900000000) (hP : ∀ p ∈ spl 38 [] s.data.toList, p.length ≤ 900000) (w : World) :
    Calls Tryd.prog 25 #[.string s] w fun e w' => (∃ v', e = .returned v' ∧ OE w.heap.size (decE (spl 38 [] s.data.toList)) v' w') ∧ Below w.heap.size w w' := by
  have hcnt := spl_count 38 s.data.toList []
  rw [size_list] at hcnt
  go_enter Tryd.func25, Tryd.ntmps25
  go_wp2_with fail
  refine (refSplit_any s 38 (by omega) _).mono ?_
  rintro e w1 ⟨⟨v1, rfl, hown1⟩, hb1⟩
  have hX1 := hown1.txts
  have hb1s := hb1.size
  generalize hXe : spl 38 [] s.data.toList = X at *
  have HX := Lib.hid hXe
  clear hXe
  obtain ⟨a, cap, rfl⟩ := hX1.len
  clear hown1
  go_wp2_with fail
  go_loopw [5, 3] (fun i v wr => ∃ k : Nat, k ≤ X.length ∧ i = .int .i64 k ∧ OE w1.heap.size (decE (X.take k)) v wr ∧ Below w1.heap.size w1 wr) (fun i _ _ => X.length - (intOf i).toNat)
  case atStart => exact ⟨0, Nat.zero_le _, rfl, OE.nil _ _, Below.refl _ _⟩
  case round =>
    obtain ⟨k, hk, rfl, hown, hbel⟩ := hrel
    have hsz := hbel.size
    by_cases hlt : k < X.length
    · obtain ⟨b, o, cap', hv, hb, hc⟩ := (hX1.kept hbel).at hlt
      have hPk := hP X[k] (List.getElem_mem hlt)
      have hEm := Lib.hid (decE_empty X k hlt)
      have hFu := Lib.hid (decE_full X k hlt)
      have hDl := decE_len X k
      cases hv
      obtain ⟨P, hx⟩ := some_bytes X[k]
      rw [hx] at hc hPk hEm hFu
      rw [txt_of] at hc
      rw [size_list] at hPk
      clear hx
      by_cases hz : P.size = 0
      · have hz0 : ((P.size : Int) == 0) = true := by rw [hz]; rfl
        have hN := Lib.hid (hEm.out (List.length_eq_zero_iff.1 (by rw [size_list]; exact hz)))
        go_wp2_with fail
        go_roundw
        case rel => exact ⟨k + 1, by omega, by go_num, by rw [hN.out]; exact hown, hbel⟩
        case measure => simp [intOf]; omega
      · have hz0 : ((P.size : Int) == 0) = false := intNe (by omega)
        have hN := Lib.hid (hFu.out (by cases h : P.data.toList with | nil => exact absurd (by rw [← size_list, h]; rfl) hz | cons _ _ => rfl))
        have HN := hN
        clear hEm hFu
        go_wp2_with fail
        go_loop [6] (fun i => ∃ j : Nat, j ≤ P.size ∧ i = .int .i64 j ∧ Hid (upTo 61 P.data.toList = P.data.toList.take j ++ upTo 61 (P.data.toList.drop j))) (fun i => P.size - (intOf i).toNat)
        case atStart => exact ⟨0, Nat.zero_le _, rfl, Lib.hid (by simp)⟩
        case round =>
          obtain ⟨j, hj, rfl, hU⟩ := hrel
          have hjP : P.data.toList.length = P.size := size_list P
          by_cases hjl : j < P.size
          · by_cases h61 : P[j] = 61
            · have h61' : ((P[j].toNat : Int) != 61) = false := by rw [h61]; rfl
              have hV := Lib.hid (show upTo 61 P.data.toList = P.data.toList.take j by rw [hU.out, upTo_hit _ j (by omega) h61, List.append_nil])
              have hjI : (j : Int) ≤ (P.size : Int) := by omega
              have hjI2 : (j : Int) < (P.size : Int) := by omega
              have hjI3 : (j : Int) + 1 ≤ (P.size : Int) := by omega
              clear h61
              have hE1 := Lib.hid (show (P.extract 0 j).data.toList = upTo 61 P.data.toList by rw [Lib.extract_data, List.drop_zero, Nat.sub_zero, hV.out])
              have hE2 := Lib.hid (show (P.extract (j + 1) P.size).data.toList = aft 61 P.data.toList by
                unfold aft
                rw [hV.out, List.length_take, Nat.min_eq_left (by omega), Lib.extract_data, List.take_of_length_le (by rw [List.length_drop]; omega)])
              have hz1 : (P.extract 0 j).size ≤ 900000 := by rw [← size_list, Lib.extract_data]; simp; omega
              have hz2 : (P.extract (j + 1) P.size).size ≤ 900000 := by rw [← size_list, Lib.extract_data]; simp; omega
              have hbw : b < wr.heap.size := hb
              go_wp2_with fail
              refine (refUnform_any _ hz1 _).mono ?_
              rintro e w3 ⟨rfl, hb3⟩
              rw [hE1.out]
              have hc3 := cell_kept hb3 hbw hc
              have hs3 := hb3.size
              have hbw3 : b < w3.heap.size := by omega
              have hown3 := hown.kept hb3
              have hlt3 : ∀ q, _ → q < w3.heap.size := fun q hq => (World.ownsRow.lt hown3 q hq).2
              generalize hA : (unform (upTo 61 P.data.toList)).toArray = A at *
              have hb3a : Below w3.heap.size w3 (w3.alloc (.cells #[.string ⟨A⟩, .string ⟨#[]⟩, .bool false, .string ⟨#[]⟩, .string ⟨#[]⟩] 32)) := (Below.refl _ w3).alloc (Nat.le_refl _) _
              have hn3 := Go.heap_alloc_new w3 (.cells #[.string ⟨A⟩, .string ⟨#[]⟩, .bool false, .string ⟨#[]⟩, .string ⟨#[]⟩] 32)
              have hs3a : (w3.alloc (.cells #[.string ⟨A⟩, .string ⟨#[]⟩, .bool false, .string ⟨#[]⟩, .string ⟨#[]⟩] 32)).heap.size = w3.heap.size + 1 := by simp
              go_wp2_with fail
              refine (refUnform_any _ hz2 _).mono ?_
              rintro e w4 ⟨rfl, hb4⟩
              rw [hE2.out]
              have hn4 : w4.heap[w3.heap.size]? = some (.cells #[.string ⟨A⟩, .string ⟨#[]⟩, .bool false, .string ⟨#[]⟩, .string ⟨#[]⟩] 32) := by rw [hb4.block _ (by omega), hn3]
              have hq0 : w4.cell? ⟨w3.heap.size, 0, none⟩ = some (.string ⟨A⟩) := by simp [World.cell?, hn4]
              have hq1 : w4.cell? ⟨w3.heap.size, 1, none⟩ = some (.string ⟨#[]⟩) := by simp [World.cell?, hn4]
              have hq2 : w4.cell? ⟨w3.heap.size, 2, none⟩ = some (.bool false) := by simp [World.cell?, hn4]
              have hq3 : w4.cell? ⟨w3.heap.size, 3, none⟩ = some (.string ⟨#[]⟩) := by simp [World.cell?, hn4]
              have hq4 : w4.cell? ⟨w3.heap.size, 4, none⟩ = some (.string ⟨#[]⟩) := by simp [World.cell?, hn4]
              have hqf : w4.frozen? ⟨w3.heap.size, 1, none⟩ = false := by simp [World.frozen?, hn4]
              have hown4 := (hown3.alloc (.cells #[.string ⟨A⟩, .string ⟨#[]⟩, .bool false, .string ⟨#[]⟩, .string ⟨#[]⟩] 32)).kept hb4
              have hs4 := hb4.size
              have hbel4 := ((hbel.trans (hb3.mono hsz)).trans (hb3a.mono (by omega))).trans (hb4.mono (by omega))
              have hown5 : OE w1.heap.size (decE (X.take k)) _ (w4.setCell ⟨w3.heap.size, 1, none⟩ (.string ⟨(unform (aft 61 P.data.toList)).toArray⟩)) := ownsRow_setCell_other hown4 (fun h => Nat.lt_irrefl _ (hlt3 _ h)) _
              have hs5 : w1.heap.size ≤ (w4.setCell ⟨w3.heap.size, 1, none⟩ (.string ⟨(unform (aft 61 P.data.toList)).toArray⟩)).heap.size := by simp; omega
              have hbel5 : Below w1.heap.size w1 (w4.setCell ⟨w3.heap.size, 1, none⟩ (.string ⟨(unform (aft 61 P.data.toList)).toArray⟩)) := hbel4.setCell (show w1.heap.size ≤ w3.heap.size by omega) _
              have hN' : OE w1.heap.size (decE (X.take (k + 1))) = OE w1.heap.size (decE (X.take k) ++ [⟨⟨A⟩, ⟨(unform (aft 61 P.data.toList)).toArray⟩, false, ⟨#[]⟩, ⟨#[]⟩⟩]) := by rw [hN.out, ← hA]; rfl
              have HN' := Lib.hid hN'
              have hg5 : Hid (w4.heap.size = (w4.setCell ⟨w3.heap.size, 1, none⟩ (.string ⟨(unform (aft 61 P.data.toList)).toArray⟩)).heap.size) := Lib.hid (by simp)
              clear hn3 hn4 hs3a hA hN'
              go_wp2_with (at_builtin; refine wpList_append_ent_at rfl _ _ rfl _ hg5.out rfl rfl ⟨⟨A⟩, ⟨(unform (aft 61 P.data.toList)).toArray⟩, false, ⟨#[]⟩, ⟨#[]⟩⟩ hown5 (by omega) hs5 ?_; intro v' w6 hown6 hb6)
              go_roundw
              case rel => exact ⟨k + 1, by omega, by go_num, by rw [HN'.out]; exact hown6, hbel5.trans hb6⟩
              case measure => simp [intOf]; omega
            · have h61' : ((P[j].toNat : Int) != 61) = true := by
                simp only [bne_iff_ne, ne_eq]
                intro e
                exact h61 (UInt8.toNat_inj.1 (by have : (61 : UInt8).toNat = 61 := rfl; omega))
              have hV := Lib.hid (hU.out.trans (upTo_miss _ j (by omega) h61))
              clear h61
              go_wp2_with fail
              go_round
              case rel => exact ⟨j + 1, by omega, by go_num, hV⟩
              case measure => simp [intOf]; omega
          · obtain rfl : j = P.size := by omega
            have hd : P.data.toList.drop P.size = [] := List.drop_eq_nil_of_le (by omega)
            have hV : upTo 61 P.data.toList = P.data.toList := by rw [hU.out, hd, List.take_of_length_le (by omega)]; simp [upTo]
            have hV2 : aft 61 P.data.toList = [] := by unfold aft; rw [hV]; exact List.drop_eq_nil_of_le (by omega)
            have hE1 := Lib.hid hV.symm
            have hbw : b < wr.heap.size := hb
            have hN' : decE (X.take (k + 1)) = decE (X.take k) ++ [⟨⟨(unform (upTo 61 P.data.toList)).toArray⟩, ⟨#[]⟩, false, ⟨#[]⟩, ⟨#[]⟩⟩] := by
              rw [hN.out]; unfold dEnt; rw [hV2]; rfl
            have HN' := Lib.hid hN'
            clear hd hV hV2 hN'
            go_wp2_with fail
            refine (refUnform_any P hPk _).mono ?_
            rintro e w3 ⟨rfl, hb3⟩
            rw [show unform P.data.toList = unform (upTo 61 P.data.toList) from congrArg unform hE1.out]
            have hc3 := cell_kept hb3 hbw hc
            have hs3 := hb3.size
            have hbw3 : b < w3.heap.size := by omega
            have hown3 := hown.kept hb3
            generalize (unform (upTo 61 P.data.toList)).toArray = A at *
            have hown4 := hown3.alloc (.cells #[.string ⟨A⟩, .string ⟨#[]⟩, .bool false, .string ⟨#[]⟩, .string ⟨#[]⟩] 32)
            have hbel4 := (hbel.trans (hb3.mono hsz)).alloc (by omega) (.cells #[.string ⟨A⟩, .string ⟨#[]⟩, .bool false, .string ⟨#[]⟩, .string ⟨#[]⟩] 32)
            have hs4 : w1.heap.size ≤ (w3.alloc (.cells #[.string ⟨A⟩, .string ⟨#[]⟩, .bool false, .string ⟨#[]⟩, .string ⟨#[]⟩] 32)).heap.size := by simp; omega
            have hg4 : Hid (w3.heap.size + 1 = (w3.alloc (.cells #[.string ⟨A⟩, .string ⟨#[]⟩, .bool false, .string ⟨#[]⟩, .string ⟨#[]⟩] 32)).heap.size) := Lib.hid (by simp)
            go_wp2_with (at_builtin; refine wpList_append_ent_at rfl _ _ rfl _ hg4.out rfl rfl ⟨⟨A⟩, ⟨#[]⟩, false, ⟨#[]⟩, ⟨#[]⟩⟩ hown4 (by omega) hs4 ?_; intro v' w6 hown6 hb6)
            go_roundw
            case rel => exact ⟨k + 1, by omega, by go_num, by rw [HN'.out]; exact hown6, hbel4.trans hb6⟩
            case measure => simp [intOf]; omega
    · obtain rfl : k = X.length := by omega
      rw [List.take_of_length_le (Nat.le_refl _)] at hown
      go_wp2_with fail
      go_ret
      exact ⟨⟨_, rfl, by rw [HX.out]; exact own_lower hown hb1s⟩, hb1.trans (hbel.mono hb1s)⟩
end Go.Proofs.YtepggnnikikijaaDoor
