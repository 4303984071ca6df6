/-
  The entries of parts: strings.Split at any text; parts.Decode: the walks.
-/
import Derived.Test.YtapbljaohhcpoaaDoorRead
import Derived.Test.YtapbljaohhcpoaaDoorEnts
import Derived.Test.YtapbljaohhcpoaaDoorParts4
namespace Go.Proofs.YtapbljaohhcpoaaDoor
set_option linter.unusedVariables false
set_option linter.unusedSimpArgs false
open Go.RowKit PT

theorem split_len (sub : List UInt8) (hs : sub ≠ []) : ∀ (n : Nat) (l : List UInt8), l.length ≤ n → (Lib.split l sub).length ≤ l.length + 1 := by
  have hp := List.length_pos_iff.2 hs
  intro n
  induction n using Nat.strongRecOn with
  | ind n ih =>
  intro l hl
  rcases idx_cases l sub hs with ⟨h, _⟩ | ⟨p, r, e, h, _⟩
  · rw [split_miss _ _ h]; simp
  · rw [split_hit _ _ hs _ h, List.length_cons]
    have e2 : l.drop (p.length + sub.length) = r := by rw [e, ← List.append_assoc, ← List.length_append, List.drop_left]
    have hlen : l.length = p.length + (sub.length + r.length) := by rw [e]; simp
    have := ih r.length (by omega) r (Nat.le_refl _)
    rw [e2]
    omega
theorem split_parts (sub : List UInt8) (hs : sub ≠ []) : ∀ (n : Nat) (l : List UInt8), l.length ≤ n → ∀ x ∈ Lib.split l sub, x.length ≤ l.length := by
  have hp := List.length_pos_iff.2 hs
  intro n
  induction n using Nat.strongRecOn with
  | ind n ih =>
  intro l hl x hx
  rcases idx_cases l sub hs with ⟨h, _⟩ | ⟨p, r, e, h, _⟩
  · rw [split_miss _ _ h, List.mem_singleton] at hx
    rw [hx]; exact Nat.le_refl _
  · have e2 : l.drop (p.length + sub.length) = r := by rw [e, ← List.append_assoc, ← List.length_append, List.drop_left]
    have hlen : l.length = p.length + (sub.length + r.length) := by rw [e]; simp
    rw [split_hit _ _ hs _ h, e2] at hx
    rcases List.mem_cons.1 hx with rfl | hx
    · rw [List.length_take]; omega
    · have := ih r.length (by omega) r (Nat.le_refl _) x hx
      omega
theorem splitL_any (s t : ByteArray) (hs : s.size < 4294967281) (ht : 1 ≤ t.size) (w : World) (hS : w.ShapedOpen Tryd.prog) :
    Calls Tryd.prog 50 #[.string s, .string t] w fun e w' => (∃ v', e = .returned v' ∧ OT w.heap.size (Lib.split s.data.toList t.data.toList) v' w') ∧ Below w.heap.size w w' := by
  refine (Tryd.strings_Split_shaped s t w hS hs ht).mono fun e w' ⟨he, hw⟩ => ?_
  have hlen := Lib.splitB_all t ht 0 _ s rfl
  have hdat := Lib.splitB_data t 0 (Lib.countB s t) s
  rw [show Lib.splitK t.data.toList 0 (Lib.countB s t) s.data.toList = Lib.split s.data.toList t.data.toList from rfl] at hdat
  generalize Lib.splitB t 0 (Lib.countB s t) s = B at *
  have hcells : B.map Value.string = (Lib.split s.data.toList t.data.toList).map txt := by
    rw [← hdat, List.map_map]
    exact List.map_congr_left fun x _ => rfl
  have hl2 : (Lib.split s.data.toList t.data.toList).length = Lib.countB s t + 1 := by rw [← hdat, List.length_map, hlen]
  have htn : t.data.toList ≠ [] := by
    intro e
    have := congrArg List.length e
    rw [size_list, List.length_nil] at this
    omega
  have hle := split_len t.data.toList htn _ s.data.toList (Nat.le_refl _)
  rw [size_list] at hle
  subst hw
  rw [hcells]
  rw [← hl2] at he
  have hsz : (Lib.split s.data.toList t.data.toList).length ≤ 4294967291 := by omega
  clear hl2 hlen hdat hcells
  generalize Lib.split s.data.toList t.data.toList = X at *
  refine ⟨⟨_, he, ?_⟩, (Below.refl _ w).alloc (Nat.le_refl _) _⟩
  refine ⟨by simp, .inr ⟨w.heap.size, X.length, (X.map txt).toArray, by rw [List.length_map], Nat.le_refl _, Go.heap_alloc_new w _, by simp, by unfold maxLen; omega, by simp, ?_⟩⟩
  exact List.take_of_length_le (by simp)
/-- what is returned: the entries and 0, or nothing and 1 -/
def DecO (o : Option (List P5)) (e : Ending) (w : World) : Prop := ∃ v', e = .returned (.tuple #[v', .int .i64 (if o.isSome then 0 else 1)]) ∧ Ents ((o.getD []).map entOf) v' w
theorem DecO.no {o : Option (List P5)} {w : World} (h : o = none) : DecO o (.returned (.tuple #[.slice none 0 0, .int .i64 1])) w := by
  subst h
  exact ⟨_, rfl, .inl ⟨rfl, none, 0, rfl, fun _ => rfl⟩⟩
theorem DecO.yes {o : Option (List P5)} {w : World} {xs : List P5} {v : Value} (h : o = some xs) (hv : Ents (xs.map entOf) v w) : DecO o (.returned (.tuple #[v, .int .i64 0])) w := by
  subst h
  exact ⟨_, rfl, hv⟩
theorem suf_iff {l q : List UInt8} : Lib.hasSuffix l q = true ↔ ∃ p, l = p ++ q := by
  unfold Lib.hasSuffix
  rw [List.isSuffixOf_iff_suffix]
  exact ⟨fun ⟨p, h⟩ => ⟨p, h.symm⟩, fun ⟨p, h⟩ => ⟨p, h.symm⟩⟩
theorem decP_step (b : List UInt8) (X : List (List UInt8)) (acc : List P5) (k : Nat) (hk : k < X.length) (x : P5) (h1 : rd X[k] = some x) (h2 : Lib.contains X[k] (sep b) = false) (h : decP b X = (decP b (X.drop k)).map (acc ++ ·)) :
    decP b X = (decP b (X.drop (k + 1))).map ((acc ++ [x]) ++ ·) := by
  rw [h, List.drop_eq_getElem_cons hk, decP, h1]
  simp only [h2, Bool.false_eq_true, if_false]
  rw [Option.map_map]
  congr 1
  funext y
  simp
theorem decP_stop1 (b : List UInt8) (X : List (List UInt8)) (acc : List P5) (k : Nat) (hk : k < X.length) (h1 : rd X[k] = none) (h : decP b X = (decP b (X.drop k)).map (acc ++ ·)) : decP b X = none := by
  rw [h, List.drop_eq_getElem_cons hk, decP, h1]; rfl
theorem decP_stop2 (b : List UInt8) (X : List (List UInt8)) (acc : List P5) (k : Nat) (hk : k < X.length) (h2 : Lib.contains X[k] (sep b) = true) (h : decP b X = (decP b (X.drop k)).map (acc ++ ·)) : decP b X = none := by
  rw [h, List.drop_eq_getElem_cons hk, decP_has b _ _ h2]; rfl
set_option maxHeartbeats 4000000 in
set_option maxRecDepth 100000 in
theorem decode20_any (s b : ByteArray) (hs : s.size ≤ 5000000) (w : World) (hT : Tables w) :
    Calls Tryd.prog 25 #[.string s, .string b] w fun e w' => DecO (decE s.data.toList b.data.toList) e w' ∧ Below w.heap.size w w' := by
  go_enter Tryd.func25, Tryd.ntmps25
  go_wp2_with fail
  refine (partsFit_any b _).mono ?_
  rintro e w' ⟨rfl, rfl⟩
  cases hf : fitB b.data.toList
  · have hR := Lib.hid (show decE s.data.toList b.data.toList = none by unfold decE; rw [hf]; rfl)
    clear hf
    go_wp2_with fail
    go_ret2
    exact ⟨DecO.no hR.out, Below.refl _ _⟩
  · obtain ⟨n13, n10, nb⟩ := fitB_13 hf
    have HF := Lib.hid hf
    clear hf
    have hbz := fit_size b HF.out
    obtain ⟨hbz1, hbz2⟩ := hbz
    have hd1 : (ByteArray.mk #[45, 45] ++ b ++ ByteArray.mk #[45, 45] ++ ByteArray.mk #[13, 10]).data.toList = dash ++ b.data.toList ++ dash ++ crlf := by simp [dash, crlf]
    have hd2 : (ByteArray.mk #[45, 45] ++ b ++ ByteArray.mk #[13, 10]).data.toList = dash ++ b.data.toList ++ crlf := by simp [dash, crlf]
    have hd3 : (ByteArray.mk #[13, 10, 45, 45] ++ b ++ ByteArray.mk #[45, 45] ++ ByteArray.mk #[13, 10]).data.toList = last b.data.toList := by simp [last, sep, dash, crlf]
    have hd4 : (ByteArray.mk #[13, 10, 45, 45] ++ b ++ ByteArray.mk #[13, 10]).data.toList = sep b.data.toList ++ crlf := by simp [sep, dash, crlf]
    have hd5 : (ByteArray.mk #[13, 10, 45, 45] ++ b).data.toList = sep b.data.toList := by simp [sep, dash, crlf]
    have D2 := Lib.hid hd2
    have D3 := Lib.hid hd3
    have D4 := Lib.hid hd4
    have D5 := Lib.hid hd5
    clear hd2 hd3 hd4 hd5
    have N := Lib.hid (And.intro n13 nb)
    clear n13 n10 nb
    by_cases heq : s.data.toList = dash ++ b.data.toList ++ dash ++ crlf
    · have hR := Lib.hid (show decE s.data.toList b.data.toList = some [] by unfold decE; rw [if_pos HF.out, if_pos heq])
      have hq : (s.toList == (ByteArray.mk #[45, 45] ++ b ++ ByteArray.mk #[45, 45] ++ ByteArray.mk #[13, 10]).toList) = true := by
        rw [ByteArray.toList_eq, ByteArray.toList_eq, hd1, heq]; exact beq_self_eq_true _
      clear heq hd1
      go_wp2_with fail
      go_ret2
      exact ⟨DecO.yes hR.out (.inl ⟨rfl, none, 0, rfl, fun _ => rfl⟩), Below.refl _ _⟩
    · have hq : (s.toList == (ByteArray.mk #[45, 45] ++ b ++ ByteArray.mk #[45, 45] ++ ByteArray.mk #[13, 10]).toList) = false := by
        rw [ByteArray.toList_eq, ByteArray.toList_eq, hd1]; exact beq_eq_false_iff_ne.2 heq
      have hE0 := Lib.hid (show decE s.data.toList b.data.toList = if (dash ++ b.data.toList ++ crlf).isPrefixOf s.data.toList then dec2 b.data.toList (s.data.toList.drop (dash ++ b.data.toList ++ crlf).length) else none by
        unfold decE; rw [if_pos HF.out, if_neg heq])
      clear heq hd1
      go_wp2_with fail
      refine (Tryd.strings_CutPrefix _ _ _).mono ?_
      rintro e w1 ⟨rfl, hw⟩
      rw [hw, D2.out]
      clear hw
      cases hp : (dash ++ b.data.toList ++ crlf).isPrefixOf s.data.toList
      · have h1 : Lib.hasPrefix s.data.toList (dash ++ b.data.toList ++ crlf) = false := hp
        have h2 : Lib.trimPrefix s.data.toList (dash ++ b.data.toList ++ crlf) = s.data.toList := by unfold Lib.trimPrefix; rw [h1]; rfl
        have hR := Lib.hid (show decE s.data.toList b.data.toList = none by rw [hE0.out, hp]; rfl)
        rw [h1, h2]
        clear h1 h2 hp
        go_wp2_with fail
        refine (Tryd.strings_CutSuffix _ _ _ (by rw [size_mk, size_list]; omega)).mono ?_
        rintro e w1 ⟨rfl, hw⟩
        rw [hw]
        clear hw
        generalize Lib.hasSuffix _ _ = good
        generalize Lib.trimSuffix _ _ = tr
        go_wp2_with fail
        go_ret2
        exact ⟨DecO.no hR.out, Below.refl _ _⟩
      · have h1 : Lib.hasPrefix s.data.toList (dash ++ b.data.toList ++ crlf) = true := hp
        have h2 : Lib.trimPrefix s.data.toList (dash ++ b.data.toList ++ crlf) = s.data.toList.drop (dash ++ b.data.toList ++ crlf).length := by unfold Lib.trimPrefix; rw [h1]; rfl
        have hE1 := Lib.hid (show decE s.data.toList b.data.toList = dec2 b.data.toList (s.data.toList.drop (dash ++ b.data.toList ++ crlf).length) by rw [hE0.out, hp]; rfl)
        rw [h1, h2]
        have hll : (s.data.toList.drop (dash ++ b.data.toList ++ crlf).length).length ≤ s.size := by rw [List.length_drop, size_list]; omega
        clear h1 h2 hp
        generalize s.data.toList.drop (dash ++ b.data.toList ++ crlf).length = l at hE1 hll ⊢
        go_wp2_with fail
        refine (Tryd.strings_CutSuffix _ _ _ (by rw [size_mk]; omega)).mono ?_
        rintro e w1 ⟨rfl, hw⟩
        rw [hw, D3.out, show (ByteArray.mk l.toArray).data.toList = l from rfl]
        clear hw
        cases hsf : Lib.hasSuffix l (last b.data.toList)
        · have hR := Lib.hid (show decE s.data.toList b.data.toList = none by
            rw [hE1.out]
            refine dec2_no b.data.toList _ l (Nat.le_refl _) (fun h => ?_)
            rw [suf_iff.2 h] at hsf; cases hsf)
          clear hsf
          generalize Lib.trimSuffix _ _ = tr
          go_wp2_with fail
          go_ret2
          exact ⟨DecO.no hR.out, Below.refl _ _⟩
        · obtain ⟨q, hql⟩ := suf_iff.1 hsf
          have htr : Lib.trimSuffix l (last b.data.toList) = q := by
            unfold Lib.trimSuffix
            rw [hsf, if_pos rfl, hql, List.length_append, Nat.add_sub_cancel, List.take_left]
          have hE2 := Lib.hid (show decE s.data.toList b.data.toList = decP b.data.toList (Lib.split q (sep b.data.toList ++ crlf)) by
            rw [hE1.out, hql]; exact dec2_suf b.data.toList N.out.1 N.out.2 _ q (Nat.le_refl _))
          rw [htr]
          have hqs : q.length ≤ s.size := by
            have := congrArg List.length hql
            rw [List.length_append] at this
            omega
          have hXl := split_len (sep b.data.toList ++ crlf) (by simp [sep_cons]) _ q (Nat.le_refl _)
          clear htr hsf hql
          go_wp2_with fail
          refine (splitL_any ⟨q.toArray⟩ (ByteArray.mk #[13, 10, 45, 45] ++ b ++ ByteArray.mk #[13, 10]) (by rw [size_mk]; omega) (by rw [← size_list, D4.out]; simp [sep_cons]) _ hT.shape).mono ?_
          rintro e w2 ⟨⟨v2, rfl, hO2⟩, hb2⟩
          rw [D4.out, show (ByteArray.mk q.toArray).data.toList = q from rfl] at hO2
          have hV := hO2.txts
          have hXb : ∀ x ∈ Lib.split q (sep b.data.toList ++ crlf), x.length ≤ q.length := split_parts _ (by simp [sep_cons]) _ q (Nat.le_refl _)
          have hT2 := hT.kept hb2
          generalize Lib.split q (sep b.data.toList ++ crlf) = X at *
          obtain ⟨a, cap, rfl⟩ := hV.len
          have hXl' : (X.length : Int) ≤ 5000002 := by omega
          clear hO2
          go_wp2_with fail
          go_loopw [52, 9] (fun i v wr => ∃ (k : Nat) (acc : List P5), k ≤ X.length ∧ i = .int .i64 k ∧ acc.length = k ∧ OE w2.heap.size (acc.map entOf) v wr ∧ Hid (decP b.data.toList X = (decP b.data.toList (X.drop k)).map (acc ++ ·)) ∧ Below w2.heap.size w2 wr) (fun i _ _ => X.length - (intOf i).toNat)
          case atStart => exact ⟨0, [], Nat.zero_le _, rfl, rfl, OE.nil _ _, Lib.hid (by simp), Below.refl _ _⟩
          case round =>
            obtain ⟨k, acc, hk, rfl, hal, hown, hH, hbel⟩ := hrel
            have hsz := hbel.size
            by_cases hlt : k < X.length
            · obtain ⟨bb, o, cap', hv, hbb, hc⟩ := (hV.kept hbel).at hlt
              cases hv
              have hxl := hXb X[k] (List.getElem_mem hlt)
              have S0 := Lib.hid (decP_stop1 b.data.toList X acc k hlt)
              have S1 := Lib.hid (decP_stop2 b.data.toList X acc k hlt)
              have S2 := Lib.hid (decP_step b.data.toList X acc k hlt)
              generalize X[k] = y at *
              unfold txt at hc
              have hTr := hT2.kept hbel
              go_wp2_with fail
              refine (read_any ⟨y.toArray⟩ (by rw [size_mk]; omega) _ hTr).mono ?_
              rintro e w3 ⟨rfl, hb3⟩
              rw [show (ByteArray.mk y.toArray).data.toList = y from rfl]
              have hown3 := hown.kept hb3
              have hbel3 := hbel.trans (hb3.mono hsz)
              have hbel3s := hbel3.size
              cases hr : rd y with
              | none =>
                have hR := Lib.hid (hE2.out.trans (S0.out hr hH.out))
                clear hr
                simp only [rdV, zeroE]
                go_wp2_with fail
                go_ret2
                exact ⟨DecO.no hR.out, hb2.trans ((hbel3.trans ((Below.refl w3.heap.size w3).alloc (Nat.le_refl _) _ |>.mono hbel3s)).mono hb2.size)⟩
              | some x =>
                have Hr := Lib.hid hr
                clear hr
                simp only [rdV, entV, entOf]
                have hb4 := hbel3.trans (((Below.refl w3.heap.size w3).alloc (Nat.le_refl _) (.cells #[.string ⟨x.n.toArray⟩, .string ⟨x.v.toArray⟩, .bool x.f, .string ⟨x.fn.toArray⟩, .string ⟨x.t.toArray⟩] 50)).mono hbel3s)
                have hown4 := hown3.alloc (.cells #[.string ⟨x.n.toArray⟩, .string ⟨x.v.toArray⟩, .bool x.f, .string ⟨x.fn.toArray⟩, .string ⟨x.t.toArray⟩] 50)
                have hT4 := hT2.kept hb4
                have hn4 := Go.heap_alloc_new w3 (.cells #[.string ⟨x.n.toArray⟩, .string ⟨x.v.toArray⟩, .bool x.f, .string ⟨x.fn.toArray⟩, .string ⟨x.t.toArray⟩] 50)
                go_upto_region 14 with fail
                generalize World.alloc _ _ = w4 at hb4 hown4 hT4 hn4 ⊢
                have hb4s := hb4.size
                obtain ⟨x0, x1, x2, x3, x4, f0, f1, f2, f3, f4⟩ := five_of hn4
                go_wp2_with fail
                refine (Tryd.strings_Contains_shaped ⟨y.toArray⟩ (ByteArray.mk #[13, 10, 45, 45] ++ b) _ hT4.shape (by rw [size_mk]; omega)).mono ?_
                rintro e w' ⟨rfl, hw⟩
                rw [hw, D5.out, show (ByteArray.mk y.toArray).data.toList = y from rfl]
                clear hw
                cases hk2 : Lib.contains y (sep b.data.toList)
                · have hN := Lib.hid (S2.out x Hr.out hk2 hH.out)
                  clear hk2
                  have hal' : (acc.map entOf).length < 1000000000 := by rw [List.length_map]; omega
                  go_wp2_with (at_builtin; refine wpList_append_ent rfl _ _ rfl rfl rfl ⟨⟨x.n.toArray⟩, ⟨x.v.toArray⟩, x.f, ⟨x.fn.toArray⟩, ⟨x.t.toArray⟩⟩ hown4 hal' hb4s ?_; intro v' w5 hown5 hb5)
                  go_roundw
                  case rel => exact ⟨k + 1, acc ++ [x], by omega, by go_num, by simp; omega, by rw [List.map_append]; exact hown5, hN, hb4.trans hb5⟩
                  case measure => simp [intOf]; omega
                · have hR := Lib.hid (hE2.out.trans (S1.out hk2 hH.out))
                  clear hk2
                  go_wp2_with fail
                  go_ret2
                  exact ⟨DecO.no hR.out, hb2.trans (hb4.mono hb2.size)⟩
            · obtain rfl : k = X.length := by omega
              have hR := Lib.hid (show decE s.data.toList b.data.toList = some acc by
                rw [hE2.out, hH.out, List.drop_eq_nil_of_le (Nat.le_refl _)]
                simp [decP])
              go_wp2_with fail
              go_ret2
              exact ⟨DecO.yes hR.out hown.ents, hb2.trans (hbel.mono hb2.size)⟩
end Go.Proofs.YtapbljaohhcpoaaDoor
