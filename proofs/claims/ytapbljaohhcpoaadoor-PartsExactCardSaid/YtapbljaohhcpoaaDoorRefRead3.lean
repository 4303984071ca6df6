/-
  A part read by the document: ref20.read: the walk, whole.
-/
import Derived.Test.YtapbljaohhcpoaaDoorRefRead2
namespace Go.Proofs.YtapbljaohhcpoaaDoor
set_option linter.unusedVariables false
set_option linter.unusedSimpArgs false
open Go.RowKit PT

theorem res_kept {w : World} {e : Nat} {x0 x1 x2 x3 x4 : Value} {W W' : World} (h : W.cell? ⟨e, 0, none⟩ = some x0 ∧ W.cell? ⟨e, 1, none⟩ = some x1 ∧ W.cell? ⟨e, 2, none⟩ = some x2 ∧ W.cell? ⟨e, 3, none⟩ = some x3 ∧ W.cell? ⟨e, 4, none⟩ = some x4 ∧ e < W.heap.size ∧ Below w.heap.size w W) (hb : Below W.heap.size W W') :
    W'.cell? ⟨e, 0, none⟩ = some x0 ∧ W'.cell? ⟨e, 1, none⟩ = some x1 ∧ W'.cell? ⟨e, 2, none⟩ = some x2 ∧ W'.cell? ⟨e, 3, none⟩ = some x3 ∧ W'.cell? ⟨e, 4, none⟩ = some x4 ∧ e < W'.heap.size ∧ Below w.heap.size w W' := by
  obtain ⟨h0, h1, h2, h3, h4, he, hbe⟩ := h
  have hs := hb.size
  exact ⟨cellK hb he h0, cellK hb he h1, cellK hb he h2, cellK hb he h3, cellK hb he h4, by omega, hbe.trans (hb.mono hbe.size)⟩
theorem res_drew {w : World} {e : Nat} {x0 x1 x2 x3 x4 : Value} {W : World} (h : W.cell? ⟨e, 0, none⟩ = some x0 ∧ W.cell? ⟨e, 1, none⟩ = some x1 ∧ W.cell? ⟨e, 2, none⟩ = some x2 ∧ W.cell? ⟨e, 3, none⟩ = some x3 ∧ W.cell? ⟨e, 4, none⟩ = some x4 ∧ e < W.heap.size ∧ Below w.heap.size w W) :
    W.drew.cell? ⟨e, 0, none⟩ = some x0 ∧ W.drew.cell? ⟨e, 1, none⟩ = some x1 ∧ W.drew.cell? ⟨e, 2, none⟩ = some x2 ∧ W.drew.cell? ⟨e, 3, none⟩ = some x3 ∧ W.drew.cell? ⟨e, 4, none⟩ = some x4 ∧ e < W.drew.heap.size ∧ Below w.heap.size w W.drew := res_kept h ⟨rfl, rfl, rfl, Nat.le_refl _, fun _ _ => rfl⟩
theorem res_set {w : World} {e g i : Nat} {u x0 x1 x2 x3 x4 : Value} {W : World} (hg : w.heap.size ≤ g) (hge : g ≠ e) (h : W.cell? ⟨e, 0, none⟩ = some x0 ∧ W.cell? ⟨e, 1, none⟩ = some x1 ∧ W.cell? ⟨e, 2, none⟩ = some x2 ∧ W.cell? ⟨e, 3, none⟩ = some x3 ∧ W.cell? ⟨e, 4, none⟩ = some x4 ∧ e < W.heap.size ∧ Below w.heap.size w W) :
    (W.setCell ⟨g, i, none⟩ u).cell? ⟨e, 0, none⟩ = some x0 ∧ (W.setCell ⟨g, i, none⟩ u).cell? ⟨e, 1, none⟩ = some x1 ∧ (W.setCell ⟨g, i, none⟩ u).cell? ⟨e, 2, none⟩ = some x2 ∧ (W.setCell ⟨g, i, none⟩ u).cell? ⟨e, 3, none⟩ = some x3 ∧ (W.setCell ⟨g, i, none⟩ u).cell? ⟨e, 4, none⟩ = some x4 ∧ e < (W.setCell ⟨g, i, none⟩ u).heap.size ∧ Below w.heap.size w (W.setCell ⟨g, i, none⟩ u) := by
  obtain ⟨h0, h1, h2, h3, h4, he, hbe⟩ := h
  have hk : ∀ j v, W.cell? ⟨e, j, none⟩ = some v → (W.setCell ⟨g, i, none⟩ u).cell? ⟨e, j, none⟩ = some v := fun j v hv => by
    rw [← hv]
    simp only [World.cell?, heap_setCell_other W ⟨g, i, none⟩ e u (fun x => hge x.symm)]
  have hs : Below w.heap.size W (W.setCell ⟨g, i, none⟩ u) := (Below.refl _ W).setCell (p := ⟨g, i, none⟩) hg u
  have := hs.size
  exact ⟨hk _ _ h0, hk _ _ h1, hk _ _ h2, hk _ _ h3, hk _ _ h4, by omega, hbe.trans hs⟩
theorem fnd_byte_no (l : List UInt8) (c : UInt8) (h : l.contains c = false) : fnd l [c] 0 = -1 := by
  rw [fnd_zero]
  rw [← contains_byte] at h
  unfold Lib.contains at h
  have := Lib.index_ge l [c]
  have := of_decide_eq_false h
  omega
theorem fnd_byte_yes (l : List UInt8) (c : UInt8) (h : l.contains c = true) : ∃ j : Nat, fnd l [c] 0 = j := by
  rw [fnd_zero]
  rw [← contains_byte] at h
  unfold Lib.contains at h
  have := of_decide_eq_true h
  exact ⟨(Lib.index l [c]).toNat, by omega⟩
set_option maxHeartbeats 8000000 in
set_option maxRecDepth 100000 in
theorem refRead_any (s : ByteArray) (hs : s.size ≤ 9000000) (w : World) :
    Calls Tryd.prog 53 #[.string s] w fun e w' => RdO (rd s.data.toList) e ∧ Below w.heap.size w w' := by
  have hS : RR w w.heap.size (w.heap.size + 1) ((w.alloc (.cells #[.string ⟨#[]⟩, .string ⟨#[]⟩, .bool false, .string ⟨#[]⟩, .string ⟨#[]⟩] 50)).alloc (.cells #[.string ⟨#[]⟩, .string ⟨#[]⟩, .bool false, .string ⟨#[]⟩, .string ⟨#[]⟩] 50)) (.string ⟨#[]⟩) (.string ⟨#[]⟩) (.bool false) (.string ⟨#[]⟩) (.string ⟨#[]⟩) := by
    have hx := (Below.refl w.heap.size w).alloc (Nat.le_refl _) (.cells #[.string ⟨#[]⟩, .string ⟨#[]⟩, .bool false, .string ⟨#[]⟩, .string ⟨#[]⟩] 50)
    have hy := hx.alloc (by simp) (.cells #[.string ⟨#[]⟩, .string ⟨#[]⟩, .bool false, .string ⟨#[]⟩, .string ⟨#[]⟩] 50)
    refine ⟨hy, ?_, ?_, Nat.le_refl _, by omega⟩
    · rw [Below.heap_alloc _ _ _ (by simp)]; exact Go.heap_alloc_new w _
    · have := Go.heap_alloc_new (w.alloc (.cells #[.string ⟨#[]⟩, .string ⟨#[]⟩, .bool false, .string ⟨#[]⟩, .string ⟨#[]⟩] 50)) (.cells #[.string ⟨#[]⟩, .string ⟨#[]⟩, .bool false, .string ⟨#[]⟩, .string ⟨#[]⟩] 50)
      simpa using this
  have hg := Lib.index_ge s.data.toList crlf2
  have hroom := Lib.index_room s.data.toList crlf2
  go_enter Tryd.func53, Tryd.ntmps53
  go_upto_region 2 with fail
  generalize World.alloc (World.alloc _ _) _ = W2 at hS ⊢
  generalize w.heap.size + 1 = e9 at hS ⊢
  have hbe : w.heap.size ≠ e9 := Nat.ne_of_lt hS.o2
  have heb : e9 ≠ w.heap.size := Ne.symm hbe
  go_wp2_with fail
  refine (find_any s ⟨#[13, 10, 13, 10]⟩ 0 (by omega) (by decide) (by decide) (Nat.zero_le _) _).mono ?_
  rintro e wA ⟨rfl, hbA⟩
  rw [show fnd s.data.toList (ByteArray.mk #[13, 10, 13, 10]).data.toList 0 = Lib.index s.data.toList crlf2 from fnd_zero _ _]
  have hSA := hS.kept hbA
  clear hbA hS
  rcases Nat.lt_or_ge 0 1 with h01 | h01
  rotate_left
  · omega
  clear h01
  by_cases hneg : Lib.index s.data.toList crlf2 = -1
  · have hR := Lib.hid (rd_none hneg)
    rw [hneg]
    clear hneg hg hroom
    obtain ⟨⟨e0, e1, e2, e3, e4, g0, g1, g2, g3, g4⟩, ⟨b0, b1, b2, b3, b4, k0, k1, k2, k3, k4⟩⟩ := hSA.facts
    go_wp2_with fail
    have z := set5_heap (.string ⟨#[]⟩) (.string ⟨#[]⟩) (.bool false) (.string ⟨#[]⟩) (.string ⟨#[]⟩) hSA.res
    have hb9 := hSA.bel.trans (set5_below _ w.heap.size (.string ⟨#[]⟩) (.string ⟨#[]⟩) (.bool false) (.string ⟨#[]⟩) (.string ⟨#[]⟩) (Nat.le_refl w.heap.size))
    generalize World.setCell (World.setCell (World.setCell (World.setCell (World.setCell _ _ _) _ _) _ _) _ _) _ _ = W9 at z hb9 ⊢
    obtain ⟨y0, y1, y2, y3, y4, _, _, _, _, _⟩ := five_of z
    exact bodyPost_ret (v := .tuple #[.agg #[.string ⟨#[]⟩, .string ⟨#[]⟩, .bool false, .string ⟨#[]⟩, .string ⟨#[]⟩], .bool false]) (by simp [results, Tryd.results53, go_sem, y0, y1, y2, y3, y4]) rfl ⟨RdO.no hR.out ⟨⟨#[]⟩, ⟨#[]⟩, false, ⟨#[]⟩, ⟨#[]⟩⟩, hb9⟩
  · obtain ⟨c, hc⟩ : ∃ c : Nat, Lib.index s.data.toList crlf2 = c := ⟨(Lib.index s.data.toList crlf2).toNat, by omega⟩
    rw [hc] at hroom ⊢
    have hc4 : c + 4 ≤ s.size := by
      have := hroom (by omega)
      rw [show crlf2.length = 4 from rfl, size_list] at this
      omega
    have hR0 := Lib.hid (rd_at hc)
    clear hneg hg hroom hc
    have hci0 : (0 : Int) ≤ (c : Int) := by omega
    have hci1 : (c : Int) ≤ (s.size : Int) := by omega
    have hci4 : (c : Int) + 4 ≤ (s.size : Int) := by omega
    have hci5 : decide ((c : Int) < 0) = false := by simp
    have hhs : (s.extract 0 c).size = c := by rw [ByteArray.size_extract]; omega
    have hhd : (s.extract 0 c).data.toList = s.data.toList.take c := by rw [Lib.extract_data, List.drop_zero, Nat.sub_zero]
    have hvd : (s.extract (c + 4) s.size).data.toList = s.data.toList.drop (c + 4) := by
      rw [Lib.extract_data, List.take_of_length_le (by rw [List.length_drop, size_list]; omega)]
    have HH := Lib.hid hhd
    have HV := Lib.hid hvd
    have HZ := Lib.hid hhs
    clear hhd hvd
    obtain ⟨⟨e0, e1, e2, e3, e4, g0, g1, g2, g3, g4⟩, ⟨b0, b1, b2, b3, b4, k0, k1, k2, k3, k4⟩⟩ := hSA.facts
    go_wp2_with fail
    refine (begins_any (s.extract 0 c) ⟨#[67, 111, 110, 116, 101, 110, 116, 45, 68, 105, 115, 112, 111, 115, 105, 116, 105, 111, 110, 58, 32, 102, 111, 114, 109, 45, 100, 97, 116, 97, 59, 32, 110, 97, 109, 101, 61, 34]⟩ 0 (by omega) (by decide) (Nat.zero_le _) _).mono ?_
    rintro e w' ⟨rfl, rfl⟩
    rw [HH.out]
    rw [show (ByteArray.mk #[67, 111, 110, 116, 101, 110, 116, 45, 68, 105, 115, 112, 111, 115, 105, 116, 105, 111, 110, 58, 32, 102, 111, 114, 109, 45, 100, 97, 116, 97, 59, 32, 110, 97, 109, 101, 61, 34]).data.toList.isPrefixOf ((s.data.toList.take c).drop 0) = head1.isPrefixOf (s.data.toList.take c) from rfl]
    cases h1 : head1.isPrefixOf (s.data.toList.take c)
    · have hR := Lib.hid (hR0.out.trans (rdq_no1 h1))
      clear h1
      go_wp2_with fail
      have z := set5_heap (.string ⟨#[]⟩) (.string ⟨#[]⟩) (.bool false) (.string ⟨#[]⟩) (.string ⟨#[]⟩) hSA.res
      have hb9 := hSA.bel.trans (set5_below _ w.heap.size (.string ⟨#[]⟩) (.string ⟨#[]⟩) (.bool false) (.string ⟨#[]⟩) (.string ⟨#[]⟩) (Nat.le_refl w.heap.size))
      generalize World.setCell (World.setCell (World.setCell (World.setCell (World.setCell _ _ _) _ _) _ _) _ _) _ _ = W9 at z hb9 ⊢
      obtain ⟨y0, y1, y2, y3, y4, _, _, _, _, _⟩ := five_of z
      exact bodyPost_ret (v := .tuple #[.agg #[.string ⟨#[]⟩, .string ⟨#[]⟩, .bool false, .string ⟨#[]⟩, .string ⟨#[]⟩], .bool false]) (by simp [results, Tryd.results53, go_sem, y0, y1, y2, y3, y4]) rfl ⟨RdO.no hR.out ⟨⟨#[]⟩, ⟨#[]⟩, false, ⟨#[]⟩, ⟨#[]⟩⟩, hb9⟩
    · have H1 := Lib.hid h1
      have h38 : 38 ≤ c := by
        have := (List.isPrefixOf_iff_prefix.1 h1).length_le
        rw [show head1.length = 38 from rfl, List.length_take, size_list] at this
        omega
      clear h1
      go_wp2_with fail
      generalize s.extract 0 c = h at HH HZ hhs ⊢
      have hh1 : h.size ≤ 9000000 := by omega
      have hh2 : 38 ≤ h.size := by omega
      rw [← HH.out] at H1 hR0
      clear hhs HZ HH
      refine (refQuoted_any h 38 hh1 hh2 _).mono ?_
      rintro e wB ⟨rfl, hbB⟩
      have hSB := hSA.kept hbB
      clear hbB hSA
      clear e0 e1 e2 e3 e4 g0 g1 g2 g3 g4 b0 b1 b2 b3 b4 k0 k1 k2 k3 k4
      obtain ⟨⟨e0, e1, e2, e3, e4, g0, g1, g2, g3, g4⟩, ⟨b0, b1, b2, b3, b4, k0, k1, k2, k3, k4⟩⟩ := hSB.facts
      cases hq : qtd (h.data.toList.drop 38) with
      | none =>
        have hR := Lib.hid (hR0.out.trans (q_no1 hq))
        clear hq
        simp only [qtV]
        go_wp2_with fail
        have z := set5_heap (.string ⟨#[]⟩) (.string ⟨#[]⟩) (.bool false) (.string ⟨#[]⟩) (.string ⟨#[]⟩) hSB.res
        have hb9 := hSB.bel.trans (set5_below _ w.heap.size (.string ⟨#[]⟩) (.string ⟨#[]⟩) (.bool false) (.string ⟨#[]⟩) (.string ⟨#[]⟩) (Nat.le_refl w.heap.size))
        generalize World.setCell (World.setCell (World.setCell (World.setCell (World.setCell _ _ _) _ _) _ _) _ _) _ _ = W9 at z hb9 ⊢
        obtain ⟨y0, y1, y2, y3, y4, _, _, _, _, _⟩ := five_of z
        exact bodyPost_ret (v := .tuple #[.agg #[.string ⟨#[]⟩, .string ⟨#[]⟩, .bool false, .string ⟨#[]⟩, .string ⟨#[]⟩], .bool false]) (by simp [results, Tryd.results53, go_sem, y0, y1, y2, y3, y4]) rfl ⟨RdO.no hR.out ⟨⟨#[]⟩, ⟨#[]⟩, false, ⟨#[]⟩, ⟨#[]⟩⟩, hb9⟩
      | some pr =>
        obtain ⟨p, r⟩ := pr
        have hql := qtd_lens _ _ _ hq
        have hrl : r.length ≤ h.size - 39 := by
          have := congrArg List.length hql
          rw [List.length_drop, size_list, List.length_append, List.length_cons] at this
          omega
        have hat : h.data.toList.drop (h.size - r.length) = r := by
          have := drop_back h.data.toList (h.data.toList.take 38 ++ p ++ [34]) r (by
            rw [List.append_assoc, List.append_assoc, List.singleton_append, ← hql, List.take_append_drop])
          rwa [size_list] at this
        have HAT := Lib.hid hat
        have HQ := Lib.hid hq
        clear hq hql hat
        simp only [qtV]
        obtain ⟨m, hm⟩ : ∃ m : Nat, h.size - r.length = m := ⟨_, rfl⟩
        have hmr : m + r.length = h.size := by omega
        rw [hm] at HAT ⊢
        clear hm hrl
        have hm1 : decide ((m : Int) < 0) = false := by simp
        have hmr0 : r = [] ↔ m = h.size := by
          rw [← List.length_eq_zero_iff]; omega
        go_upto_region 12 with fail
        have hSC := (hSB.setE 0 (.string ⟨(unn p).toArray⟩) rfl).setE 1 (.string (s.extract (c + 4) s.size)) rfl
        generalize s.extract (c + 4) s.size = vv at hSC HV ⊢
        generalize World.setCell (World.setCell _ _ _) _ _ = WC at hSC ⊢
        clear hSB
        clear e0 e1 e2 e3 e4 g0 g1 g2 g3 g4 b0 b1 b2 b3 b4 k0 k1 k2 k3 k4
        obtain ⟨⟨e0, e1, e2, e3, e4, g0, g1, g2, g3, g4⟩, ⟨b0, b1, b2, b3, b4, k0, k1, k2, k3, k4⟩⟩ := hSC.facts
        rw [← HV.out] at hR0
        by_cases hr0 : r = []
        · have hme : m = h.size := hmr0.1 hr0
          subst hr0
          have hR := Lib.hid (hR0.out.trans (q_end H1.out HQ.out))
          have hmi : ((m : Int) == (h.size : Int)) = true := by rw [hme]; simp
          clear hme hmr0
          go_wp2_with fail
          have z := set5_heap (.string ⟨(unn p).toArray⟩) (.string vv) (.bool false) (.string ⟨#[]⟩) (.string ⟨#[]⟩) hSC.res
          have hb9 := hSC.bel.trans (set5_below _ w.heap.size (.string ⟨(unn p).toArray⟩) (.string vv) (.bool false) (.string ⟨#[]⟩) (.string ⟨#[]⟩) (Nat.le_refl w.heap.size))
          generalize World.setCell (World.setCell (World.setCell (World.setCell (World.setCell _ _ _) _ _) _ _) _ _) _ _ = W9 at z hb9 ⊢
          obtain ⟨y0, y1, y2, y3, y4, _, _, _, _, _⟩ := five_of z
          exact bodyPost_ret (v := .tuple #[.agg #[.string ⟨(unn p).toArray⟩, .string vv, .bool false, .string ⟨#[]⟩, .string ⟨#[]⟩], .bool true]) (by simp [results, Tryd.results53, go_sem, y0, y1, y2, y3, y4]) rfl ⟨RdO.yes hR.out (y := ⟨⟨(unn p).toArray⟩, vv, false, ⟨#[]⟩, ⟨#[]⟩⟩) rfl, hb9⟩
        · have hme : m ≠ h.size := fun e => hr0 (hmr0.2 e)
          have hmi : ((m : Int) == (h.size : Int)) = false := intNe (by omega)
          have HR0 := Lib.hid hr0
          have hml : m ≤ h.size := by omega
          clear hme hmr0 hr0
          go_wp2_with fail
          refine (begins_any h ⟨#[59, 32, 102, 105, 108, 101, 110, 97, 109, 101, 61, 34]⟩ m (by omega) (by decide) hml _).mono ?_
          rintro e w' ⟨rfl, rfl⟩
          rw [show (ByteArray.mk #[59, 32, 102, 105, 108, 101, 110, 97, 109, 101, 61, 34]).data.toList.isPrefixOf (h.data.toList.drop m) = head2.isPrefixOf (h.data.toList.drop m) from rfl, HAT.out]
          cases h2 : head2.isPrefixOf r
          · have hR := Lib.hid (hR0.out.trans (q_no2 HQ.out HR0.out h2))
            clear h2
            go_wp2_with fail
            have z := set5_heap (.string ⟨(unn p).toArray⟩) (.string vv) (.bool false) (.string ⟨#[]⟩) (.string ⟨#[]⟩) hSC.res
            have hb9 := hSC.bel.trans (set5_below _ w.heap.size (.string ⟨(unn p).toArray⟩) (.string vv) (.bool false) (.string ⟨#[]⟩) (.string ⟨#[]⟩) (Nat.le_refl w.heap.size))
            generalize World.setCell (World.setCell (World.setCell (World.setCell (World.setCell _ _ _) _ _) _ _) _ _) _ _ = W9 at z hb9 ⊢
            obtain ⟨y0, y1, y2, y3, y4, _, _, _, _, _⟩ := five_of z
            exact bodyPost_ret (v := .tuple #[.agg #[.string ⟨(unn p).toArray⟩, .string vv, .bool false, .string ⟨#[]⟩, .string ⟨#[]⟩], .bool false]) (by simp [results, Tryd.results53, go_sem, y0, y1, y2, y3, y4]) rfl ⟨RdO.no hR.out ⟨⟨(unn p).toArray⟩, vv, false, ⟨#[]⟩, ⟨#[]⟩⟩, hb9⟩
          · have h12 : 12 ≤ r.length := by
              have := (List.isPrefixOf_iff_prefix.1 h2).length_le
              rwa [show head2.length = 12 from rfl] at this
            have H2 := Lib.hid h2
            clear h2
            have hat2 := Lib.hid (show h.data.toList.drop (m + 12) = r.drop 12 by rw [← List.drop_drop, HAT.out])
            have hm12 : m + 12 ≤ h.size := by omega
            go_wp2_with fail
            refine (refQuoted_any h (m + 12) hh1 hm12 _).mono ?_
            rintro e wD ⟨rfl, hbD⟩
            rw [hat2.out]
            have hSD := hSC.kept hbD
            clear hbD hSC
            clear e0 e1 e2 e3 e4 g0 g1 g2 g3 g4 b0 b1 b2 b3 b4 k0 k1 k2 k3 k4
            obtain ⟨⟨e0, e1, e2, e3, e4, g0, g1, g2, g3, g4⟩, ⟨b0, b1, b2, b3, b4, k0, k1, k2, k3, k4⟩⟩ := hSD.facts
            cases hq : qtd (r.drop 12) with
            | none =>
              have hR := Lib.hid (hR0.out.trans (q_no3 HQ.out HR0.out hq))
              clear hq
              simp only [qtV]
              go_wp2_with fail
              have z := set5_heap (.string ⟨(unn p).toArray⟩) (.string vv) (.bool false) (.string ⟨#[]⟩) (.string ⟨#[]⟩) hSD.res
              have hb9 := hSD.bel.trans (set5_below _ w.heap.size (.string ⟨(unn p).toArray⟩) (.string vv) (.bool false) (.string ⟨#[]⟩) (.string ⟨#[]⟩) (Nat.le_refl w.heap.size))
              generalize World.setCell (World.setCell (World.setCell (World.setCell (World.setCell _ _ _) _ _) _ _) _ _) _ _ = W9 at z hb9 ⊢
              obtain ⟨y0, y1, y2, y3, y4, _, _, _, _, _⟩ := five_of z
              exact bodyPost_ret (v := .tuple #[.agg #[.string ⟨(unn p).toArray⟩, .string vv, .bool false, .string ⟨#[]⟩, .string ⟨#[]⟩], .bool false]) (by simp [results, Tryd.results53, go_sem, y0, y1, y2, y3, y4]) rfl ⟨RdO.no hR.out ⟨⟨(unn p).toArray⟩, vv, false, ⟨#[]⟩, ⟨#[]⟩⟩, hb9⟩
            | some fq =>
              obtain ⟨f, q⟩ := fq
              have hql := qtd_lens _ _ _ hq
              have hrl : q.length ≤ r.length - 13 := by
                have := congrArg List.length hql
                rw [List.length_drop, List.length_append, List.length_cons] at this
                omega
              have hat : h.data.toList.drop (h.size - q.length) = q := by
                have := drop_back h.data.toList (h.data.toList.take (m + 12) ++ f ++ [34]) q (by
                  rw [List.append_assoc, List.append_assoc, List.singleton_append, ← hql, ← hat2.out, List.take_append_drop])
                rwa [size_list] at this
              have HAT2 := Lib.hid hat
              have HQ2 := Lib.hid hq
              clear hq hql hat
              simp only [qtV]
              obtain ⟨k, hk⟩ : ∃ k : Nat, h.size - q.length = k := ⟨_, rfl⟩
              have hkq : k + q.length = h.size := by omega
              rw [hk] at HAT2 ⊢
              clear hk hrl
              have hk1 : decide ((k : Int) < 0) = false := by simp
              have hkl : k ≤ h.size := by omega
              go_wp2_with fail
              refine (begins_any h ⟨#[13, 10, 67, 111, 110, 116, 101, 110, 116, 45, 84, 121, 112, 101, 58, 32]⟩ k (by omega) (by decide) hkl _).mono ?_
              rintro e w' ⟨rfl, rfl⟩
              rw [show (ByteArray.mk #[13, 10, 67, 111, 110, 116, 101, 110, 116, 45, 84, 121, 112, 101, 58, 32]).data.toList.isPrefixOf (h.data.toList.drop k) = head3.isPrefixOf (h.data.toList.drop k) from rfl, HAT2.out]
              cases h3 : head3.isPrefixOf q
              · have hR := Lib.hid (hR0.out.trans (q_no4 HQ.out HR0.out HQ2.out h3))
                clear h3
                go_wp2_with fail
                have z := set5_heap (.string ⟨(unn p).toArray⟩) (.string vv) (.bool false) (.string ⟨#[]⟩) (.string ⟨#[]⟩) hSD.res
                have hb9 := hSD.bel.trans (set5_below _ w.heap.size (.string ⟨(unn p).toArray⟩) (.string vv) (.bool false) (.string ⟨#[]⟩) (.string ⟨#[]⟩) (Nat.le_refl w.heap.size))
                generalize World.setCell (World.setCell (World.setCell (World.setCell (World.setCell _ _ _) _ _) _ _) _ _) _ _ = W9 at z hb9 ⊢
                obtain ⟨y0, y1, y2, y3, y4, _, _, _, _, _⟩ := five_of z
                exact bodyPost_ret (v := .tuple #[.agg #[.string ⟨(unn p).toArray⟩, .string vv, .bool false, .string ⟨#[]⟩, .string ⟨#[]⟩], .bool false]) (by simp [results, Tryd.results53, go_sem, y0, y1, y2, y3, y4]) rfl ⟨RdO.no hR.out ⟨⟨(unn p).toArray⟩, vv, false, ⟨#[]⟩, ⟨#[]⟩⟩, hb9⟩
              · have h16 : 16 ≤ q.length := by
                  have := (List.isPrefixOf_iff_prefix.1 h3).length_le
                  rwa [show head3.length = 16 from rfl] at this
                have H3 := Lib.hid h3
                clear h3
                have hkb : (k : Int) + 16 ≤ (h.size : Int) := by omega
                have htd : (h.extract (k + 16) h.size).data.toList = q.drop 16 := by
                  rw [Lib.extract_data, List.take_of_length_le (by rw [List.length_drop, size_list]; omega), ← List.drop_drop, HAT2.out]
                have hts : (h.extract (k + 16) h.size).size ≤ 9000000 := by rw [ByteArray.size_extract]; omega
                have HT := Lib.hid htd
                clear htd
                go_upto_region 24 with fail
                have hSE := ((hSD.setE 2 (.bool true) rfl).setE 3 (.string ⟨(unn f).toArray⟩) rfl).setE 4 (.string (h.extract (k + 16) h.size)) rfl
                generalize h.extract (k + 16) h.size = tt at hSE HT hts ⊢
                generalize World.setCell (World.setCell (World.setCell _ _ _) _ _) _ _ = WE at hSE ⊢
                clear hSD
                clear e0 e1 e2 e3 e4 g0 g1 g2 g3 g4 b0 b1 b2 b3 b4 k0 k1 k2 k3 k4
                obtain ⟨⟨e0, e1, e2, e3, e4, g0, g1, g2, g3, g4⟩, ⟨b0, b1, b2, b3, b4, k0, k1, k2, k3, k4⟩⟩ := hSE.facts
                have zz := hSE.res
                have hS7 := And.intro e0 (And.intro e1 (And.intro e2 (And.intro e3 (And.intro e4 (And.intro (Array.getElem?_eq_some_iff.1 hSE.ent).1 hSE.bel)))))
                have hEnt : (⟨⟨(unn p).toArray⟩, vv, true, ⟨(unn f).toArray⟩, tt⟩ : Ent) = entOf ⟨unn p, vv.data.toList, true, unn f, q.drop 16⟩ := by
                  unfold entOf
                  rw [← HT.out]
                have HE := Lib.hid hEnt
                clear hEnt hSE b0 b1 b2 b3 b4 k0 k1 k2 k3 k4 g0 g1 g2 g3 g4
                cases h13 : (q.drop 16).contains 13
                · have F13 := Lib.hid (show fnd tt.data.toList (ByteArray.mk #[13]).data.toList 0 = -1 from fnd_byte_no _ 13 (by rw [HT.out]; exact h13))
                  have C13 := Lib.hid (fun W : World => show Calls Tryd.prog 34 #[.string tt, .string ⟨#[13]⟩, .int .i64 0] W fun e w' => e = .returned (.int .i64 (-1)) ∧ Below W.heap.size W w' from by have h := find_any tt ⟨#[13]⟩ 0 (by omega) (by decide) (by decide) (Nat.zero_le _) W; rw [F13.out] at h; exact h)
                  have H13 := Lib.hid h13
                  clear h13
                  cases h10 : (q.drop 16).contains 10
                  · have F10 := Lib.hid (show fnd tt.data.toList (ByteArray.mk #[10]).data.toList 0 = -1 from fnd_byte_no _ 10 (by rw [HT.out]; exact h10))
                    have C10 := Lib.hid (fun W : World => show Calls Tryd.prog 34 #[.string tt, .string ⟨#[10]⟩, .int .i64 0] W fun e w' => e = .returned (.int .i64 (-1)) ∧ Below W.heap.size W w' from by have h := find_any tt ⟨#[10]⟩ 0 (by omega) (by decide) (by decide) (Nat.zero_le _) W; rw [F10.out] at h; exact h)
                    have hR := Lib.hid (hR0.out.trans (q_file H1.out HQ.out HR0.out H2.out HQ2.out H3.out (by have := H13.out; simpa using this) (by simpa using h10)))
                    clear h10
                    go_region_held3 (fun W => W.cell? ⟨e9, 0, none⟩ = some (.string ⟨(unn p).toArray⟩) ∧ W.cell? ⟨e9, 1, none⟩ = some (.string vv) ∧ W.cell? ⟨e9, 2, none⟩ = some (.bool true) ∧ W.cell? ⟨e9, 3, none⟩ = some (.string ⟨(unn f).toArray⟩) ∧ W.cell? ⟨e9, 4, none⟩ = some (.string tt) ∧ e9 < W.heap.size ∧ Below w.heap.size w W) (with_reducible first | assumption | exact res_drew (by assumption) | exact res_kept (by assumption) (by assumption) | exact res_set (Nat.le_refl _) hbe (res_set (Nat.le_refl _) hbe (res_set (Nat.le_refl _) hbe (res_set (Nat.le_refl _) hbe (res_set (Nat.le_refl _) hbe (by assumption)))))) ((first | (go_at_call 34; (with_reducible refine (C13.out _).mono ?_); rintro e w5 ⟨rfl, hb5⟩; have z5 := blk_kept hb5 zz; obtain ⟨_, _, _, _, _, _, _, _, _, _⟩ := five_of z5) | (go_at_call 34; (with_reducible refine (C10.out _).mono ?_); rintro e w6 ⟨rfl, hb6⟩; have z6 := blk_kept hb6 z5; obtain ⟨_, _, _, _, _, _, _, _, _, _⟩ := five_of z6)))
                    all_goals
                      refine take_world (fun W => W.cell? ⟨e9, 0, none⟩ = some (.string ⟨(unn p).toArray⟩) ∧ W.cell? ⟨e9, 1, none⟩ = some (.string vv) ∧ W.cell? ⟨e9, 2, none⟩ = some (.bool true) ∧ W.cell? ⟨e9, 3, none⟩ = some (.string ⟨(unn f).toArray⟩) ∧ W.cell? ⟨e9, 4, none⟩ = some (.string tt) ∧ e9 < W.heap.size ∧ Below w.heap.size w W) (by assumption) ?_
                      rintro ⟨_, _, _, _, _, _, hb9⟩
                      have z := set5_heap (.string ⟨(unn p).toArray⟩) (.string vv) (.bool true) (.string ⟨(unn f).toArray⟩) (.string tt) z6
                      generalize World.setCell (World.setCell (World.setCell (World.setCell (World.setCell _ _ _) _ _) _ _) _ _) _ _ = W9 at z hb9 ⊢
                      obtain ⟨y0, y1, y2, y3, y4, _, _, _, _, _⟩ := five_of z
                      go_wp2_with fail
                      exact bodyPost_ret (v := .tuple #[.agg #[.string ⟨(unn p).toArray⟩, .string vv, .bool true, .string ⟨(unn f).toArray⟩, .string tt], .bool true]) (by simp [results, Tryd.results53, go_sem, y0, y1, y2, y3, y4]) rfl ⟨RdO.yes hR.out HE.out, hb9⟩
                  · obtain ⟨j, hj⟩ := fnd_byte_yes tt.data.toList 10 (by rw [HT.out]; exact h10)
                    have F10 := Lib.hid (show fnd tt.data.toList (ByteArray.mk #[10]).data.toList 0 = (j : Int) from hj)
                    have C10 := Lib.hid (fun W : World => show Calls Tryd.prog 34 #[.string tt, .string ⟨#[10]⟩, .int .i64 0] W fun e w' => e = .returned (.int .i64 (j : Int)) ∧ Below W.heap.size W w' from by have h := find_any tt ⟨#[10]⟩ 0 (by omega) (by decide) (by decide) (Nat.zero_le _) W; rw [F10.out] at h; exact h)
                    have hj0 : decide ((j : Int) < 0) = false := by simp
                    have hR := Lib.hid (hR0.out.trans (q_brk HQ.out HR0.out HQ2.out (.inr (by simpa using h10))))
                    clear h10 hj
                    go_region_held3 (fun W => W.cell? ⟨e9, 0, none⟩ = some (.string ⟨(unn p).toArray⟩) ∧ W.cell? ⟨e9, 1, none⟩ = some (.string vv) ∧ W.cell? ⟨e9, 2, none⟩ = some (.bool true) ∧ W.cell? ⟨e9, 3, none⟩ = some (.string ⟨(unn f).toArray⟩) ∧ W.cell? ⟨e9, 4, none⟩ = some (.string tt) ∧ e9 < W.heap.size ∧ Below w.heap.size w W) (with_reducible first | assumption | exact res_drew (by assumption) | exact res_kept (by assumption) (by assumption) | exact res_set (Nat.le_refl _) hbe (res_set (Nat.le_refl _) hbe (res_set (Nat.le_refl _) hbe (res_set (Nat.le_refl _) hbe (res_set (Nat.le_refl _) hbe (by assumption)))))) ((first | (go_at_call 34; (with_reducible refine (C13.out _).mono ?_); rintro e w5 ⟨rfl, hb5⟩; have z5 := blk_kept hb5 zz; obtain ⟨_, _, _, _, _, _, _, _, _, _⟩ := five_of z5) | (go_at_call 34; (with_reducible refine (C10.out _).mono ?_); rintro e w6 ⟨rfl, hb6⟩; have z6 := blk_kept hb6 z5; obtain ⟨_, _, _, _, _, _, _, _, _, _⟩ := five_of z6)))
                    all_goals
                      refine take_world (fun W => W.cell? ⟨e9, 0, none⟩ = some (.string ⟨(unn p).toArray⟩) ∧ W.cell? ⟨e9, 1, none⟩ = some (.string vv) ∧ W.cell? ⟨e9, 2, none⟩ = some (.bool true) ∧ W.cell? ⟨e9, 3, none⟩ = some (.string ⟨(unn f).toArray⟩) ∧ W.cell? ⟨e9, 4, none⟩ = some (.string tt) ∧ e9 < W.heap.size ∧ Below w.heap.size w W) (by assumption) ?_
                      rintro ⟨_, _, _, _, _, _, hb9⟩
                      have z := set5_heap (.string ⟨(unn p).toArray⟩) (.string vv) (.bool true) (.string ⟨(unn f).toArray⟩) (.string tt) z6
                      generalize World.setCell (World.setCell (World.setCell (World.setCell (World.setCell _ _ _) _ _) _ _) _ _) _ _ = W9 at z hb9 ⊢
                      obtain ⟨y0, y1, y2, y3, y4, _, _, _, _, _⟩ := five_of z
                      go_wp2_with fail
                      exact bodyPost_ret (v := .tuple #[.agg #[.string ⟨(unn p).toArray⟩, .string vv, .bool true, .string ⟨(unn f).toArray⟩, .string tt], .bool false]) (by simp [results, Tryd.results53, go_sem, y0, y1, y2, y3, y4]) rfl ⟨RdO.no hR.out ⟨⟨(unn p).toArray⟩, vv, true, ⟨(unn f).toArray⟩, tt⟩, hb9⟩
                · obtain ⟨j, hj⟩ := fnd_byte_yes tt.data.toList 13 (by rw [HT.out]; exact h13)
                  have F13 := Lib.hid (show fnd tt.data.toList (ByteArray.mk #[13]).data.toList 0 = (j : Int) from hj)
                  have C13 := Lib.hid (fun W : World => show Calls Tryd.prog 34 #[.string tt, .string ⟨#[13]⟩, .int .i64 0] W fun e w' => e = .returned (.int .i64 (j : Int)) ∧ Below W.heap.size W w' from by have h := find_any tt ⟨#[13]⟩ 0 (by omega) (by decide) (by decide) (Nat.zero_le _) W; rw [F13.out] at h; exact h)
                  have hj0 : decide ((j : Int) < 0) = false := by simp
                  have hR := Lib.hid (hR0.out.trans (q_brk HQ.out HR0.out HQ2.out (.inl (by simpa using h13))))
                  clear h13 hj
                  first | go_region_with ((go_at_call 34; (with_reducible refine (C13.out _).mono ?_); rintro e w5 ⟨rfl, hb5⟩; have z5 := blk_kept hb5 zz; obtain ⟨_, _, _, _, _, _, _, _, _, _⟩ := five_of z5; obtain ⟨_, _, _, _, _, _, hb8⟩ := res_kept (res_drew hS7) hb5)) | fail
                  all_goals
                    have z := set5_heap (.string ⟨(unn p).toArray⟩) (.string vv) (.bool true) (.string ⟨(unn f).toArray⟩) (.string tt) z5
                    have hb9 := hb8.trans (set5_below _ w.heap.size (.string ⟨(unn p).toArray⟩) (.string vv) (.bool true) (.string ⟨(unn f).toArray⟩) (.string tt) (Nat.le_refl w.heap.size))
                    generalize World.setCell (World.setCell (World.setCell (World.setCell (World.setCell _ _ _) _ _) _ _) _ _) _ _ = W9 at z hb9 ⊢
                    obtain ⟨y0, y1, y2, y3, y4, _, _, _, _, _⟩ := five_of z
                    go_wp2_with fail
                    exact bodyPost_ret (v := .tuple #[.agg #[.string ⟨(unn p).toArray⟩, .string vv, .bool true, .string ⟨(unn f).toArray⟩, .string tt], .bool false]) (by simp [results, Tryd.results53, go_sem, y0, y1, y2, y3, y4]) rfl ⟨RdO.no hR.out ⟨⟨(unn p).toArray⟩, vv, true, ⟨(unn f).toArray⟩, tt⟩, hb9⟩
end Go.Proofs.YtapbljaohhcpoaaDoor
