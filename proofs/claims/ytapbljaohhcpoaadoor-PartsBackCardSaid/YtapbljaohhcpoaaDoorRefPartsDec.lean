/-
  The entries of parts by the document: ref20.Decode: the walk.
-/
import Derived.Test.YtapbljaohhcpoaaDoorPartsDec
import Derived.Test.YtapbljaohhcpoaaDoorRefRead3
namespace Go.Proofs.YtapbljaohhcpoaaDoor
set_option linter.unusedVariables false
set_option linter.unusedSimpArgs false
open Go.RowKit PT

theorem dec2_none' (b l : List UInt8) (acc : List P5) (o : Option (List P5)) (h : Lib.index l (sep b) = -1) (ho : o = (dec2 b l).map (acc ++ ·)) : o = none := by
  rw [ho, dec2_none b l h]; rfl
theorem dec2_bad (b p r : List UInt8) (acc : List P5) (o : Option (List P5)) (h : Lib.index (p ++ (sep b ++ r)) (sep b) = (p.length : Nat)) (hr : rd p = none) (ho : o = (dec2 b (p ++ (sep b ++ r))).map (acc ++ ·)) : o = none := by
  rw [ho, dec2_at b p r h, hr]; rfl
theorem dec2_end (b p r : List UInt8) (acc : List P5) (o : Option (List P5)) (x : P5) (h : Lib.index (p ++ (sep b ++ r)) (sep b) = (p.length : Nat)) (hr : rd p = some x) (he : r = dash ++ crlf) (ho : o = (dec2 b (p ++ (sep b ++ r))).map (acc ++ ·)) : o = some (acc ++ [x]) := by
  rw [ho, dec2_at b p r h, hr]
  simp only [if_pos he]
  rfl
theorem dec2_not (b p r : List UInt8) (acc : List P5) (o : Option (List P5)) (h : Lib.index (p ++ (sep b ++ r)) (sep b) = (p.length : Nat)) (he : r ≠ dash ++ crlf) (hc : crlf.isPrefixOf r = false) (ho : o = (dec2 b (p ++ (sep b ++ r))).map (acc ++ ·)) : o = none := by
  rw [ho, dec2_at b p r h]
  cases rd p with
  | none => rfl
  | some x => simp [if_neg he, hc]
theorem dec2_next (b p r : List UInt8) (acc : List P5) (o : Option (List P5)) (x : P5) (h : Lib.index (p ++ (sep b ++ r)) (sep b) = (p.length : Nat)) (hr : rd p = some x) (he : r ≠ dash ++ crlf) (hc : crlf.isPrefixOf r = true) (ho : o = (dec2 b (p ++ (sep b ++ r))).map (acc ++ ·)) :
    o = (dec2 b (r.drop 2)).map ((acc ++ [x]) ++ ·) := by
  rw [ho, dec2_at b p r h, hr]
  simp only [if_neg he, hc, if_true]
  rw [Option.map_map]
  congr 1
  funext y
  simp
set_option maxHeartbeats 4000000 in
set_option maxRecDepth 100000 in
theorem refDecode20_any (s b : ByteArray) (hs : s.size ≤ 5000000) (hbs : b.size ≤ 5000000) (w : World) :
    Calls Tryd.prog 26 #[.string s, .string b] w fun e w' => DecO (decE s.data.toList b.data.toList) e w' ∧ Below w.heap.size w w' := by
  go_enter Tryd.func26, Tryd.ntmps26
  go_wp2_with fail
  refine (refFit_any b (by omega) _).mono ?_
  rintro e w' ⟨rfl, rfl⟩
  cases hf : fitB b.data.toList
  · have hR := Lib.hid (show decE s.data.toList b.data.toList = none by unfold decE; rw [hf]; rfl)
    clear hf
    go_wp2_with fail
    go_ret2
    exact ⟨DecO.no hR.out, Below.refl _ _⟩
  · have HF := Lib.hid hf
    clear hf
    have hbz := fit_size b HF.out
    obtain ⟨hbz1, hbz2⟩ := hbz
    have hd1 : (ByteArray.mk #[45, 45] ++ b ++ ByteArray.mk #[45, 45, 13, 10]).data.toList = dash ++ b.data.toList ++ dash ++ crlf := by simp [dash, crlf]
    have hd2 : (ByteArray.mk #[45, 45] ++ b ++ ByteArray.mk #[13, 10]).data.toList = dash ++ b.data.toList ++ crlf := by simp [dash, crlf]
    have hd5 : (ByteArray.mk #[13, 10, 45, 45] ++ b).data.toList = sep b.data.toList := by simp [sep, dash, crlf]
    by_cases heq : s.data.toList = dash ++ b.data.toList ++ dash ++ crlf
    · have hR := Lib.hid (show decE s.data.toList b.data.toList = some [] by unfold decE; rw [if_pos HF.out, if_pos heq])
      have hq : (s.toList == (ByteArray.mk #[45, 45] ++ b ++ ByteArray.mk #[45, 45, 13, 10]).toList) = true := by
        rw [ByteArray.toList_eq, ByteArray.toList_eq, hd1, heq]; exact beq_self_eq_true _
      clear heq hd1 hd2 hd5
      go_wp2_with fail
      go_ret2
      exact ⟨DecO.yes hR.out (.inl ⟨rfl, none, 0, rfl, fun _ => rfl⟩), Below.refl _ _⟩
    · have hq : (s.toList == (ByteArray.mk #[45, 45] ++ b ++ ByteArray.mk #[45, 45, 13, 10]).toList) = false := by
        rw [ByteArray.toList_eq, ByteArray.toList_eq, hd1]; exact beq_eq_false_iff_ne.2 heq
      have hE0 := Lib.hid (show decE s.data.toList b.data.toList = if (dash ++ b.data.toList ++ crlf).isPrefixOf s.data.toList then dec2 b.data.toList (s.data.toList.drop (dash ++ b.data.toList ++ crlf).length) else none by
        unfold decE; rw [if_pos HF.out, if_neg heq])
      obtain ⟨S2, hS2, hz2⟩ : ∃ S : ByteArray, ByteArray.mk #[45, 45] ++ b ++ ByteArray.mk #[13, 10] = S ∧ S.size = b.size + 4 := ⟨_, rfl, by rw [← size_list, hd2]; simp [dash, crlf] <;> omega⟩
      obtain ⟨S5, hS5, hz5⟩ : ∃ S : ByteArray, ByteArray.mk #[13, 10, 45, 45] ++ b = S ∧ S.size = b.size + 4 := ⟨_, rfl, by rw [← size_list, hd5]; simp [sep_len]⟩
      have D2 := Lib.hid (hS2 ▸ hd2)
      have D5 := Lib.hid (hS5 ▸ hd5)
      have E2 := Lib.hid hS2
      have E5 := Lib.hid hS5
      have Z2 := Lib.hid hz2
      have Z5 := Lib.hid hz5
      have z2a : S2.size ≤ 100 := by omega
      have z5a : S5.size ≤ 100 := by omega
      have z5b : 1 ≤ S5.size := by omega
      clear heq hd1 hd2 hd5 hS2 hS5 hz2 hz5
      go_upto_region 7 with fail
      rw [E2.out, E5.out]
      go_wp2_with fail
      refine (begins_any s S2 0 (by omega) (by omega) (Nat.zero_le _) _).mono ?_
      rintro e w' ⟨rfl, rfl⟩
      rw [D2.out, List.drop_zero]
      cases hp : (dash ++ b.data.toList ++ crlf).isPrefixOf s.data.toList
      · have hR := Lib.hid (show decE s.data.toList b.data.toList = none by rw [hE0.out, hp]; rfl)
        clear hp
        go_wp2_with fail
        go_ret2
        exact ⟨DecO.no hR.out, Below.refl _ _⟩
      · have hE1 := Lib.hid (show decE s.data.toList b.data.toList = dec2 b.data.toList (s.data.toList.drop S2.size) by
          rw [hE0.out, hp, ← D2.out, size_list]; rfl)
        have hle : S2.size ≤ s.size := by
          have := (List.isPrefixOf_iff_prefix.1 hp).length_le
          rwa [← D2.out, size_list, size_list] at this
        clear hp
        go_wp2_with fail
        go_loopw [9, 8] (fun i v wr => ∃ (k : Nat) (acc : List P5), k ≤ s.size ∧ i = .int .i64 k ∧ acc.length ≤ k ∧ OE w.heap.size (acc.map entOf) v wr ∧ Hid (decE s.data.toList b.data.toList = (dec2 b.data.toList (s.data.toList.drop k)).map (acc ++ ·)) ∧ Below w.heap.size w wr) (fun i _ _ => s.size - (intOf i).toNat)
        case atStart => exact ⟨S2.size, [], hle, rfl, Nat.zero_le _, OE.nil _ _, Lib.hid (by rw [hE1.out]; simp), Below.refl _ _⟩
        case round =>
          obtain ⟨k, acc, hk, rfl, hal, hown, hH, hbel⟩ := hrel
          have hsz := hbel.size
          go_wp2_with fail
          refine (find_any s S5 k (by omega) z5b (by omega) hk _).mono ?_
          rintro e w2 ⟨rfl, hb2⟩
          rw [D5.out]
          have hown2 := hown.kept hb2
          have hbel2 := hbel.trans (hb2.mono hsz)
          have hbel2s := hbel2.size
          clear hown hb2
          rcases idx_cases (s.data.toList.drop k) (sep b.data.toList) (sep_ne _) with ⟨hi, _⟩ | ⟨p, r, he, hi, _⟩
          · have hR := Lib.hid (dec2_none' _ _ _ _ hi hH.out)
            have hfn : fnd s.data.toList (sep b.data.toList) k = -1 := by unfold fnd; rw [if_pos hi]
            rw [hfn]
            clear hfn hi
            go_wp2_with fail
            go_ret2
            exact ⟨DecO.no hR.out, hbel2⟩
          · have hfn : fnd s.data.toList (sep b.data.toList) k = ((k + p.length : Nat) : Int) := by
              unfold fnd; rw [if_neg (by rw [hi]; omega), hi]; simp
            rw [hfn]
            rw [he] at hi hH
            have hlen : k + p.length + (b.size + 4) + r.length = s.size := by
              have := congrArg List.length he
              rw [List.length_drop, size_list, List.length_append, List.length_append, sep_len, size_list] at this
              omega
            have hz5 := Z5.out
            obtain ⟨m, hm⟩ : ∃ m : Nat, k + p.length = m := ⟨_, rfl⟩
            rw [hm] at hfn hlen ⊢
            have hpd : (s.extract k m).data.toList = p := by
              rw [Lib.extract_data, he, show m - k = p.length by omega, List.take_left]
            have hrd : (s.extract (m + S5.size) s.size).data.toList = r := by
              rw [Lib.extract_data, List.take_of_length_le (by rw [List.length_drop, size_list]; omega), show m + S5.size = k + (p.length + (sep b.data.toList).length) by rw [sep_len, size_list]; omega, ← List.drop_drop, he, ← List.append_assoc, ← List.length_append, List.drop_left]
            have hrd2 : s.data.toList.drop (m + S5.size) = r := by
              rw [← hrd, Lib.extract_data, List.take_of_length_le (by rw [List.length_drop, size_list]; omega)]
            have HI := Lib.hid hi
            have hkm : (k : Int) ≤ (m : Int) := by omega
            have hms : (m : Int) ≤ (s.size : Int) := by omega
            have hmz : (m : Int) + (S5.size : Int) ≤ (s.size : Int) := by omega
            have hmn : decide ((m : Int) < 0) = false := by simp
            have hxs : (s.extract k m).size ≤ 9000000 := by rw [ByteArray.size_extract]; omega
            have hmz' : m + S5.size ≤ s.size := by omega
            have hkm2 : k + 4 ≤ m + S5.size := by omega
            have HP := Lib.hid hpd
            have HRD := Lib.hid hrd
            have HR2 := Lib.hid hrd2
            clear hi hfn hpd hrd hrd2 he hm hlen hz5
            go_wp2_with fail
            refine (refRead_any (s.extract k m) hxs _).mono ?_
            rintro e w3 ⟨⟨y, rfl, hy⟩, hb3⟩
            rw [HP.out] at hy ⊢
            have hbel3 := hbel2.trans (hb3.mono hbel2s)
            have hown3 := hown2.kept hb3
            have hbel3s := hbel3.size
            clear hown2 hb3
            cases hr : rd p with
            | none =>
              have hR := Lib.hid (dec2_bad _ _ _ _ _ HI.out hr hH.out)
              clear hr hy
              simp only [Option.isSome, entV]
              go_wp2_with fail
              go_ret2
              exact ⟨DecO.no hR.out, hbel3.trans ((Below.refl w.heap.size w3).alloc hbel3s _)⟩
            | some x =>
              obtain rfl := hy x hr
              have Hr := Lib.hid hr
              clear hr hy
              simp only [Option.isSome, entV, entOf]
              have hb4 := hbel3.trans (((Below.refl w3.heap.size w3).alloc (Nat.le_refl _) (.cells #[.string ⟨x.n.toArray⟩, .string ⟨x.v.toArray⟩, .bool x.f, .string ⟨x.fn.toArray⟩, .string ⟨x.t.toArray⟩] 50)).mono hbel3s)
              have hown4 := hown3.alloc (.cells #[.string ⟨x.n.toArray⟩, .string ⟨x.v.toArray⟩, .bool x.f, .string ⟨x.fn.toArray⟩, .string ⟨x.t.toArray⟩] 50)
              have hn4 := Go.heap_alloc_new w3 (.cells #[.string ⟨x.n.toArray⟩, .string ⟨x.v.toArray⟩, .bool x.f, .string ⟨x.fn.toArray⟩, .string ⟨x.t.toArray⟩] 50)
              go_upto_region 15 with fail
              generalize World.alloc _ _ = w4 at hb4 hown4 hn4 ⊢
              have hb4s := hb4.size
              obtain ⟨x0, x1, x2, x3, x4, f0, f1, f2, f3, f4⟩ := five_of hn4
              have hal' : (acc.map entOf).length < 1000000000 := by rw [List.length_map]; omega
              by_cases hre : r = dash ++ crlf
              · have hR := Lib.hid (dec2_end _ _ _ _ _ _ HI.out Hr.out hre hH.out)
                have hqe : ((s.extract (m + S5.size) s.size).toList == [45, 45, 13, 10]) = true := by
                  rw [ByteArray.toList_eq, HRD.out, hre]; rfl
                clear hre
                go_wp2_with (at_builtin; refine wpList_append_ent rfl _ _ rfl rfl rfl ⟨⟨x.n.toArray⟩, ⟨x.v.toArray⟩, x.f, ⟨x.fn.toArray⟩, ⟨x.t.toArray⟩⟩ hown4 hal' hb4s ?_; intro v' w5 hown5 hb5)
                go_ret2
                exact ⟨DecO.yes hR.out (by rw [List.map_append]; exact hown5.ents), hb4.trans hb5⟩
              · have HN := Lib.hid hre
                have hqe : ((s.extract (m + S5.size) s.size).toList == [45, 45, 13, 10]) = false := by
                  rw [ByteArray.toList_eq, HRD.out]; exact beq_eq_false_iff_ne.2 hre
                clear hre
                go_wp2_with (at_builtin; refine wpList_append_ent rfl _ _ rfl rfl rfl ⟨⟨x.n.toArray⟩, ⟨x.v.toArray⟩, x.f, ⟨x.fn.toArray⟩, ⟨x.t.toArray⟩⟩ hown4 hal' hb4s ?_; intro v' w5 hown5 hb5)
                refine (begins_any s ⟨#[13, 10]⟩ (m + S5.size) (by omega) (by decide) hmz' _).mono ?_
                rintro e w' ⟨rfl, rfl⟩
                rw [show (ByteArray.mk #[13, 10]).data.toList.isPrefixOf (s.data.toList.drop (m + S5.size)) = crlf.isPrefixOf (s.data.toList.drop (m + S5.size)) from rfl, HR2.out]
                cases hc : crlf.isPrefixOf r
                · have hR := Lib.hid (dec2_not _ _ _ _ _ HI.out HN.out hc hH.out)
                  clear hc
                  go_wp2_with fail
                  go_ret2
                  exact ⟨DecO.no hR.out, hb4.trans hb5⟩
                · have hN := Lib.hid (dec2_next _ _ _ _ _ _ HI.out Hr.out HN.out hc hH.out)
                  have h2r : m + S5.size + 2 ≤ s.size := by
                    have := (List.isPrefixOf_iff_prefix.1 hc).length_le
                    rw [← HR2.out, List.length_drop, size_list] at this
                    simp [crlf] at this
                    omega
                  have hN2 := Lib.hid (show decE s.data.toList b.data.toList = (dec2 b.data.toList (s.data.toList.drop (m + S5.size + 2))).map ((acc ++ [x]) ++ ·) by
                    rw [hN.out, ← HR2.out, List.drop_drop])
                  clear hc hN
                  go_wp2_with fail
                  go_roundw
                  case rel => exact ⟨m + S5.size + 2, acc ++ [x], h2r, by go_num, by rw [List.length_append]; simp; omega, by rw [List.map_append]; exact hown5, hN2, hb4.trans hb5⟩
                  case measure => simp [intOf]; omega
end Go.Proofs.YtapbljaohhcpoaaDoor
