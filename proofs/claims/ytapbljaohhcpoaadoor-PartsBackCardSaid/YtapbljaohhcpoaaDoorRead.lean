/-
  A part read: parts.read: the walk.
-/
import Derived.Test.YtapbljaohhcpoaaDoorReader
namespace Go.Proofs.YtapbljaohhcpoaaDoor
set_option linter.unusedVariables false
set_option linter.unusedSimpArgs false
open Go.RowKit PT

theorem sign_list (l p : List UInt8) (bad : Bool) (r : Nat) (w : World) (hr : w.heap[r]? = some (.cells #[.string ⟨l.toArray⟩, .bool bad] 86 (0, 0))) :
    Calls Tryd.prog 70 #[.pointer (some ⟨r, 0, none⟩), .string ⟨p.toArray⟩] w fun e w' => e = .returned (.bool (p.isPrefixOf l)) ∧
      w'.heap[r]? = some (.cells #[.string (if p.isPrefixOf l then ⟨(l.drop p.length).toArray⟩ else ⟨l.toArray⟩), .bool bad] 86 (0, 0)) ∧ Aside r w w' := sign_any ⟨l.toArray⟩ ⟨p.toArray⟩ bad r w hr
theorem quoted_list (l : List UInt8) (hs : l.length ≤ 9000000) (bad : Bool) (r : Nat) (w : World) (hT : Tables w) (hr : w.heap[r]? = some (.cells #[.string ⟨l.toArray⟩, .bool bad] 86 (0, 0))) (hTr : ∀ W, Aside r w W → Tables W) :
    Calls Tryd.prog 71 #[.pointer (some ⟨r, 0, none⟩)] w fun e w' => e = .returned (.string ⟨(unn (Lib.cut l [34]).1).toArray⟩) ∧
      w'.heap[r]? = some (.cells #[.string ⟨(Lib.cut l [34]).2.1.toArray⟩, .bool (bad || qbad l)] 86 (0, 0)) ∧ Aside r w w' := quoted_any ⟨l.toArray⟩ (by rw [size_mk]; exact hs) bad r w hT hr hTr
theorem RS.tabs {w : World} {b0 r e : Nat} {W : World} {s : ByteArray} {bad : Bool} {x0 x1 x2 x3 x4 : Value} (h : RS w b0 r e W s bad x0 x1 x2 x3 x4) (hT : Tables w) : ∀ W', Aside r W W' → Tables W' := fun W' ha => hT.kept (h.bel.trans (ha.1.mono (by have := h.o1; have := h.o2; omega)))
set_option maxHeartbeats 8000000 in
set_option maxRecDepth 100000 in
theorem read_any (s : ByteArray) (hs : s.size ≤ 9000000) (w : World) (hT : Tables w) :
    Calls Tryd.prog 51 #[.string s] w fun e w' => e = .returned (rdV (rd s.data.toList)) ∧ Below w.heap.size w w' := by
  rw [rd_cut]
  have hcl := cutL_le s.data.toList crlf2
  rw [size_list] at hcl
  obtain ⟨h, v, ok, hcut⟩ : ∃ h v ok, Lib.cut s.data.toList crlf2 = (h, v, ok) := ⟨_, _, _, rfl⟩
  rw [hcut] at hcl ⊢
  simp only at hcl ⊢
  obtain ⟨hc1, hc2⟩ := hcl
  have HC := Lib.hid hcut
  clear hcut
  have hb0 := (Below.refl w.heap.size w).alloc (Nat.le_refl _) (.cells #[.string ⟨#[]⟩, .string ⟨#[]⟩, .bool false, .string ⟨#[]⟩, .string ⟨#[]⟩] 50)
  have hn0 := Go.heap_alloc_new w (.cells #[.string ⟨#[]⟩, .string ⟨#[]⟩, .bool false, .string ⟨#[]⟩, .string ⟨#[]⟩] 50)
  have hs0 : (w.alloc (.cells #[.string ⟨#[]⟩, .string ⟨#[]⟩, .bool false, .string ⟨#[]⟩, .string ⟨#[]⟩] 50)).heap.size = w.heap.size + 1 := by simp
  have hT0 := hT.kept hb0
  go_enter Tryd.func51, Tryd.ntmps51
  go_wp2_with fail
  refine (Tryd.strings_Cut_shaped _ _ _ hT0.shape (by omega)).mono ?_
  rintro e w1 ⟨rfl, n, rfl⟩
  rw [show Lib.cut s.data.toList (ByteArray.mk #[13, 10, 13, 10]).data.toList = (h, v, ok) from HC.out]
  have hb1 := below_draws (w.alloc (.cells #[.string ⟨#[]⟩, .string ⟨#[]⟩, .bool false, .string ⟨#[]⟩, .string ⟨#[]⟩] 50)) n
  have hn1 := blk_kept hb1 hn0
  have hs1 := hb1.size
  have hss : ((w.alloc (.cells #[.string ⟨#[]⟩, .string ⟨#[]⟩, .bool false, .string ⟨#[]⟩, .string ⟨#[]⟩] 50)).drewN n).heap.size = w.heap.size + 1 := hs0
  have hbb := hb0.trans (hb1.mono (by omega))
  generalize (w.alloc (.cells #[.string ⟨#[]⟩, .string ⟨#[]⟩, .bool false, .string ⟨#[]⟩, .string ⟨#[]⟩] 50)).drewN n = W1 at *
  clear hb0 hn0 hs0 hT0 hb1 hs1
  cases ok
  · obtain ⟨x0, x1, x2, x3, x4, f0, f1, f2, f3, f4⟩ := five_of hn1
    go_wp2_with fail
    have z := set5_heap (.string ⟨#[]⟩) (.string ⟨#[]⟩) (.bool false) (.string ⟨#[]⟩) (.string ⟨#[]⟩) hn1
    have hb9 := hbb.trans (set5_below _ w.heap.size (.string ⟨#[]⟩) (.string ⟨#[]⟩) (.bool false) (.string ⟨#[]⟩) (.string ⟨#[]⟩) (Nat.le_refl w.heap.size))
    generalize World.setCell (World.setCell (World.setCell (World.setCell (World.setCell _ _ _) _ _) _ _) _ _) _ _ = W9 at z hb9 ⊢
    obtain ⟨y0, y1, y2, y3, y4, _, _, _, _, _⟩ := five_of z
    exact bodyPost_ret (v := .tuple #[zeroE, .bool false]) (by simp [results, Tryd.results51, go_sem, zeroE, y0, y1, y2, y3, y4]) rfl ⟨rfl, hb9⟩
  · have hS : RS w w.heap.size (w.heap.size + 1) (w.heap.size + 1 + 1) ((W1.alloc (.cells #[.string ⟨h.toArray⟩, .bool false] 86)).alloc (.cells #[.string ⟨#[]⟩, .string ⟨v.toArray⟩, .bool false, .string ⟨#[]⟩, .string ⟨#[]⟩] 50)) ⟨h.toArray⟩ false (.string ⟨#[]⟩) (.string ⟨v.toArray⟩) (.bool false) (.string ⟨#[]⟩) (.string ⟨#[]⟩) := by
      have ha := (Below.refl W1.heap.size W1).alloc (Nat.le_refl _) (.cells #[.string ⟨h.toArray⟩, .bool false] 86)
      have hb := ha.alloc (by simp) (.cells #[.string ⟨#[]⟩, .string ⟨v.toArray⟩, .bool false, .string ⟨#[]⟩, .string ⟨#[]⟩] 50)
      have hr := Go.heap_alloc_new W1 (.cells #[.string ⟨h.toArray⟩, .bool false] 86)
      rw [← hss]
      refine ⟨hbb.trans (hb.mono (by omega)), blk_kept hb hn1, ?_, ?_, Nat.le_refl _, by omega, by omega⟩
      · rw [Below.heap_alloc _ _ _ (by simp)]; exact hr
      · have := Go.heap_alloc_new (W1.alloc (.cells #[.string ⟨h.toArray⟩, .bool false] 86)) (.cells #[.string ⟨#[]⟩, .string ⟨v.toArray⟩, .bool false, .string ⟨#[]⟩, .string ⟨#[]⟩] 50)
        simpa using this
    go_upto_region 6 with fail
    generalize World.alloc (World.alloc _ _) _ = W2 at hS ⊢
    clear hn1 hss hbb HC
    generalize w.heap.size + 1 + 1 = e9 at hS ⊢
    generalize w.heap.size + 1 = r at hS ⊢
    have hre : r ≠ e9 := Nat.ne_of_lt hS.o3
    have her : e9 ≠ r := Ne.symm hre
    go_wp2_with fail
    refine (sign_list h head1 false _ _ hS.red).mono ?_
    rintro e wA ⟨rfl, hrA, hA⟩
    have hSA := hS.aside hA hrA
    clear hrA hA hS
    cases h1 : head1.isPrefixOf h
    · rw [h1] at hSA
      simp only [Bool.false_eq_true, if_false] at hSA
      obtain ⟨⟨x0, x1, f0, f1⟩, ⟨e0, e1, e2, e3, e4, g0, g1, g2, g3, g4⟩, ⟨b0, b1, b2, b3, b4, k0, k1, k2, k3, k4⟩⟩ := hSA.facts
      have HR := Lib.hid (rdq_no1 (v := v) h1)
      clear h1
      go_wp2_with fail
      have z := set5_heap (.string ⟨#[]⟩) (.string ⟨#[]⟩) (.bool false) (.string ⟨#[]⟩) (.string ⟨#[]⟩) hSA.res
      have hb9 := hSA.bel.trans (set5_below _ w.heap.size (.string ⟨#[]⟩) (.string ⟨#[]⟩) (.bool false) (.string ⟨#[]⟩) (.string ⟨#[]⟩) (Nat.le_refl w.heap.size))
      generalize World.setCell (World.setCell (World.setCell (World.setCell (World.setCell _ _ _) _ _) _ _) _ _) _ _ = W9 at z hb9 ⊢
      obtain ⟨y0, y1, y2, y3, y4, _, _, _, _, _⟩ := five_of z
      exact bodyPost_ret (v := .tuple #[zeroE, .bool false]) (by simp [results, Tryd.results51, go_sem, zeroE, y0, y1, y2, y3, y4]) rfl ⟨by show _ = Ending.returned (rdV (rdq h v)); rw [HR.out]; rfl, hb9⟩
    · rw [h1] at hSA
      simp only [if_true] at hSA
      rw [show head1.length = 38 from rfl] at hSA
      have H1 := Lib.hid h1
      clear h1
      go_wp2_with fail
      refine (quoted_list (h.drop 38) (by rw [List.length_drop]; omega) false _ _ (hSA.tab hT) hSA.red (hSA.tabs hT)).mono ?_
      rintro e wB ⟨rfl, hrB, hB⟩
      have hSB := hSA.aside hB hrB
      have hcb := cut_le (h.drop 38) 34
      rw [List.length_drop] at hcb
      rw [Bool.false_or] at hSB
      revert hSB hcb
      generalize hga : (Lib.cut (h.drop 38) [34]).1 = a
      generalize hgb : (Lib.cut (h.drop 38) [34]).2.1 = b
      generalize hgq : qbad (h.drop 38) = q1
      intro hSB hcb
      have HA := Lib.hid hga
      have HB := Lib.hid hgb
      have HQ := Lib.hid hgq
      obtain ⟨hca, hcb⟩ := hcb
      clear hrB hB hSA hga hgb hgq
      obtain ⟨⟨x0, x1, f0, f1⟩, ⟨e0, e1, e2, e3, e4, g0, g1, g2, g3, g4⟩, ⟨b0, b1, b2, b3, b4, k0, k1, k2, k3, k4⟩⟩ := hSB.facts
      go_upto_region 9 with fail
      have hSC := hSB.setE 0 (.string ⟨(unn a).toArray⟩) rfl
      generalize World.setCell _ _ _ = WC at hSC ⊢
      clear hSB
      clear x0 x1 f0 f1 e0 e1 e2 e3 e4 g0 g1 g2 g3 g4 b0 b1 b2 b3 b4 k0 k1 k2 k3 k4
      go_wp2_with fail
      refine (sign_list b head2 q1 _ _ hSC.red).mono ?_
      rintro e wD ⟨rfl, hrD, hD⟩
      have hSD := hSC.aside hD hrD
      clear hrD hD hSC
      cases h2 : head2.isPrefixOf b
      · rw [h2] at hSD
        simp only [Bool.false_eq_true, if_false] at hSD
        have H2 := Lib.hid h2
        clear h2
        obtain ⟨⟨x0, x1, f0, f1⟩, ⟨e0, e1, e2, e3, e4, g0, g1, g2, g3, g4⟩, ⟨b0, b1, b2, b3, b4, k0, k1, k2, k3, k4⟩⟩ := hSD.facts
        cases q1
        · by_cases hb0 : b = []
          · have hR := Lib.hid (rdq_end (v := v) H1.out HQ.out HA.out (HB.out.trans hb0))
            subst hb0
            go_wp2_with fail
            refine (Tryd.strings_Contains_shaped ⟨#[]⟩ ⟨#[13]⟩ _ (hSD.tab hT).shape (by decide)).mono ?_
            rintro e w' ⟨rfl, hw⟩
            rw [hw, show Lib.contains (ByteArray.mk #[]).data.toList (ByteArray.mk #[13]).data.toList = false by decide]
            clear hw
            go_wp2_with fail
            refine (Tryd.strings_Contains_shaped ⟨#[]⟩ ⟨#[10]⟩ _ (hSD.tab hT).shape (by decide)).mono ?_
            rintro e w' ⟨rfl, hw⟩
            rw [hw, show Lib.contains (ByteArray.mk #[]).data.toList (ByteArray.mk #[10]).data.toList = false by decide]
            clear hw
            go_wp2_with fail
            have z := set5_heap (.string ⟨(unn a).toArray⟩) (.string ⟨v.toArray⟩) (.bool false) (.string ⟨#[]⟩) (.string ⟨#[]⟩) hSD.res
            have hb9 := hSD.bel.trans (set5_below _ w.heap.size (.string ⟨(unn a).toArray⟩) (.string ⟨v.toArray⟩) (.bool false) (.string ⟨#[]⟩) (.string ⟨#[]⟩) (Nat.le_refl w.heap.size))
            generalize World.setCell (World.setCell (World.setCell (World.setCell (World.setCell _ _ _) _ _) _ _) _ _) _ _ = W9 at z hb9 ⊢
            obtain ⟨y0, y1, y2, y3, y4, _, _, _, _, _⟩ := five_of z
            exact bodyPost_ret (v := .tuple #[.agg #[(.string ⟨(unn a).toArray⟩), (.string ⟨v.toArray⟩), (.bool false), (.string ⟨#[]⟩), (.string ⟨#[]⟩)], .bool true]) (by simp [results, Tryd.results51, go_sem, y0, y1, y2, y3, y4]) rfl ⟨by show _ = Ending.returned (rdV (rdq h v)); rw [hR.out]; rfl, hb9⟩
          · have hR := Lib.hid (rdq_no2 (v := v) HB.out hb0 H2.out)
            go_wp2_with fail
            have z := set5_heap (.string ⟨#[]⟩) (.string ⟨#[]⟩) (.bool false) (.string ⟨#[]⟩) (.string ⟨#[]⟩) hSD.res
            have hb9 := hSD.bel.trans (set5_below _ w.heap.size (.string ⟨#[]⟩) (.string ⟨#[]⟩) (.bool false) (.string ⟨#[]⟩) (.string ⟨#[]⟩) (Nat.le_refl w.heap.size))
            generalize World.setCell (World.setCell (World.setCell (World.setCell (World.setCell _ _ _) _ _) _ _) _ _) _ _ = W9 at z hb9 ⊢
            obtain ⟨y0, y1, y2, y3, y4, _, _, _, _, _⟩ := five_of z
            exact bodyPost_ret (v := .tuple #[zeroE, .bool false]) (by simp [results, Tryd.results51, go_sem, zeroE, y0, y1, y2, y3, y4]) rfl ⟨by show _ = Ending.returned (rdV (rdq h v)); rw [hR.out]; rfl, hb9⟩
        · have hR := Lib.hid (rdq_bad1 (v := v) HQ.out)
          go_wp2_with fail
          have z := set5_heap (.string ⟨#[]⟩) (.string ⟨#[]⟩) (.bool false) (.string ⟨#[]⟩) (.string ⟨#[]⟩) hSD.res
          have hb9 := hSD.bel.trans (set5_below _ w.heap.size (.string ⟨#[]⟩) (.string ⟨#[]⟩) (.bool false) (.string ⟨#[]⟩) (.string ⟨#[]⟩) (Nat.le_refl w.heap.size))
          generalize World.setCell (World.setCell (World.setCell (World.setCell (World.setCell _ _ _) _ _) _ _) _ _) _ _ = W9 at z hb9 ⊢
          obtain ⟨y0, y1, y2, y3, y4, _, _, _, _, _⟩ := five_of z
          exact bodyPost_ret (v := .tuple #[zeroE, .bool false]) (by simp [results, Tryd.results51, go_sem, zeroE, y0, y1, y2, y3, y4]) rfl ⟨by show _ = Ending.returned (rdV (rdq h v)); rw [hR.out]; rfl, hb9⟩
      · rw [h2] at hSD
        simp only [if_true] at hSD
        rw [show head2.length = 12 from rfl] at hSD
        have H2 := Lib.hid h2
        clear h2
        obtain ⟨⟨x0, x1, f0, f1⟩, ⟨e0, e1, e2, e3, e4, g0, g1, g2, g3, g4⟩, ⟨b0, b1, b2, b3, b4, k0, k1, k2, k3, k4⟩⟩ := hSD.facts
        go_upto_region 11 with fail
        have hSE := hSD.setE 2 (.bool true) rfl
        generalize World.setCell _ _ _ = WE at hSE ⊢
        clear hSD
        clear x0 x1 f0 f1 e0 e1 e2 e3 e4 g0 g1 g2 g3 g4 b0 b1 b2 b3 b4 k0 k1 k2 k3 k4
        go_wp2_with fail
        refine (quoted_list (b.drop 12) (by rw [List.length_drop]; omega) q1 _ _ (hSE.tab hT) hSE.red (hSE.tabs hT)).mono ?_
        rintro e wF ⟨rfl, hrF, hF⟩
        have hSF := hSE.aside hF hrF
        have hcd := cut_le (b.drop 12) 34
        rw [List.length_drop] at hcd
        revert hSF hcd
        generalize hgf : (Lib.cut (b.drop 12) [34]).1 = f
        generalize hgq : (Lib.cut (b.drop 12) [34]).2.1 = q
        generalize hgb : qbad (b.drop 12) = q2
        generalize hg2 : (q1 || q2) = bd
        intro hSF hcd
        have HF := Lib.hid hgf
        have HG := Lib.hid hgq
        have HP := Lib.hid hgb
        have HD := Lib.hid hg2
        obtain ⟨hce, hcd⟩ := hcd
        clear hrF hF hSE hgf hgq hgb hg2
        obtain ⟨⟨x0, x1, f0, f1⟩, ⟨e0, e1, e2, e3, e4, g0, g1, g2, g3, g4⟩, ⟨b0, b1, b2, b3, b4, k0, k1, k2, k3, k4⟩⟩ := hSF.facts
        go_upto_region 12 with fail
        have hSG := hSF.setE 3 (.string ⟨(unn f).toArray⟩) rfl
        generalize World.setCell _ _ _ = WG at hSG ⊢
        clear hSF
        clear x0 x1 f0 f1 e0 e1 e2 e3 e4 g0 g1 g2 g3 g4 b0 b1 b2 b3 b4 k0 k1 k2 k3 k4
        go_wp2_with fail
        refine (sign_list q head3 bd _ _ hSG.red).mono ?_
        rintro e wH ⟨rfl, hrH, hH⟩
        have hSH := hSG.aside hH hrH
        clear hrH hH hSG
        cases h3 : head3.isPrefixOf q
        · rw [h3] at hSH
          simp only [Bool.false_eq_true, if_false] at hSH
          have hR := Lib.hid (rdq_no3 (v := v) HB.out H2.out HG.out h3)
          clear h3
          obtain ⟨⟨x0, x1, f0, f1⟩, ⟨e0, e1, e2, e3, e4, g0, g1, g2, g3, g4⟩, ⟨b0, b1, b2, b3, b4, k0, k1, k2, k3, k4⟩⟩ := hSH.facts
          go_upto_region 16 with fail
          have hSI := ((hSH.setR 1 (.bool true) rfl).setE 4 (.string ⟨q.toArray⟩) rfl).setR 0 (.string ⟨#[]⟩) rfl
          generalize World.setCell (World.setCell (World.setCell _ _ _) _ _) _ _ = WI at hSI ⊢
          clear hSH
          clear x0 x1 f0 f1 e0 e1 e2 e3 e4 g0 g1 g2 g3 g4 b0 b1 b2 b3 b4 k0 k1 k2 k3 k4
          obtain ⟨⟨x0, x1, f0, f1⟩, ⟨e0, e1, e2, e3, e4, g0, g1, g2, g3, g4⟩, ⟨b0, b1, b2, b3, b4, k0, k1, k2, k3, k4⟩⟩ := hSI.facts
          go_wp2_with fail
          have z := set5_heap (.string ⟨#[]⟩) (.string ⟨#[]⟩) (.bool false) (.string ⟨#[]⟩) (.string ⟨#[]⟩) hSI.res
          have hb9 := hSI.bel.trans (set5_below _ w.heap.size (.string ⟨#[]⟩) (.string ⟨#[]⟩) (.bool false) (.string ⟨#[]⟩) (.string ⟨#[]⟩) (Nat.le_refl w.heap.size))
          generalize World.setCell (World.setCell (World.setCell (World.setCell (World.setCell _ _ _) _ _) _ _) _ _) _ _ = W9 at z hb9 ⊢
          obtain ⟨y0, y1, y2, y3, y4, _, _, _, _, _⟩ := five_of z
          exact bodyPost_ret (v := .tuple #[zeroE, .bool false]) (by simp [results, Tryd.results51, go_sem, zeroE, y0, y1, y2, y3, y4]) rfl ⟨by show _ = Ending.returned (rdV (rdq h v)); rw [hR.out]; rfl, hb9⟩
        · rw [h3] at hSH
          simp only [if_true] at hSH
          rw [show head3.length = 16 from rfl] at hSH
          have H3 := Lib.hid h3
          clear h3
          obtain ⟨⟨x0, x1, f0, f1⟩, ⟨e0, e1, e2, e3, e4, g0, g1, g2, g3, g4⟩, ⟨b0, b1, b2, b3, b4, k0, k1, k2, k3, k4⟩⟩ := hSH.facts
          go_upto_region 16 with fail
          have hSI := (hSH.setE 4 (.string ⟨(q.drop 16).toArray⟩) rfl).setR 0 (.string ⟨#[]⟩) rfl
          generalize World.setCell (World.setCell _ _ _) _ _ = WI at hSI ⊢
          clear hSH
          clear x0 x1 f0 f1 e0 e1 e2 e3 e4 g0 g1 g2 g3 g4 b0 b1 b2 b3 b4 k0 k1 k2 k3 k4
          obtain ⟨⟨x0, x1, f0, f1⟩, ⟨e0, e1, e2, e3, e4, g0, g1, g2, g3, g4⟩, ⟨b0, b1, b2, b3, b4, k0, k1, k2, k3, k4⟩⟩ := hSI.facts
          cases bd
          · have hqq : q1 = false ∧ q2 = false := by
              have := HD.out
              cases q1 <;> cases q2 <;> simp_all
            obtain ⟨rfl, rfl⟩ := hqq
            have hl16 : (q.drop 16).length ≤ 9000000 := by rw [List.length_drop]; omega
            have hc13 := contains_byte (q.drop 16) 13
            have hc10 := contains_byte (q.drop 16) 10
            go_wp2_with fail
            refine (Tryd.strings_Contains_shaped ⟨(q.drop 16).toArray⟩ ⟨#[13]⟩ _ (hSI.tab hT).shape (by rw [size_mk]; omega)).mono ?_
            rintro e w' ⟨rfl, hw⟩
            rw [hw, show Lib.contains (ByteArray.mk (q.drop 16).toArray).data.toList (ByteArray.mk #[13]).data.toList = (q.drop 16).contains 13 from hc13]
            clear hw hc13
            cases h13 : (q.drop 16).contains 13
            · have H13 := Lib.hid h13
              clear h13
              go_wp2_with fail
              refine (Tryd.strings_Contains_shaped ⟨(q.drop 16).toArray⟩ ⟨#[10]⟩ _ (hSI.tab hT).shape (by rw [size_mk]; omega)).mono ?_
              rintro e w' ⟨rfl, hw⟩
              rw [hw, show Lib.contains (ByteArray.mk (q.drop 16).toArray).data.toList (ByteArray.mk #[10]).data.toList = (q.drop 16).contains 10 from hc10]
              clear hw hc10
              cases h10 : (q.drop 16).contains 10
              · have hR := Lib.hid (rdq_file (v := v) H1.out HQ.out HA.out HB.out H2.out HP.out HF.out HG.out H3.out (by have := H13.out; simpa using this) (by simpa using h10))
                clear h10
                go_wp2_with fail
                have z := set5_heap (.string ⟨(unn a).toArray⟩) (.string ⟨v.toArray⟩) (.bool true) (.string ⟨(unn f).toArray⟩) (.string ⟨(q.drop 16).toArray⟩) hSI.res
                have hb9 := hSI.bel.trans (set5_below _ w.heap.size (.string ⟨(unn a).toArray⟩) (.string ⟨v.toArray⟩) (.bool true) (.string ⟨(unn f).toArray⟩) (.string ⟨(q.drop 16).toArray⟩) (Nat.le_refl w.heap.size))
                generalize World.setCell (World.setCell (World.setCell (World.setCell (World.setCell _ _ _) _ _) _ _) _ _) _ _ = W9 at z hb9 ⊢
                obtain ⟨y0, y1, y2, y3, y4, _, _, _, _, _⟩ := five_of z
                exact bodyPost_ret (v := .tuple #[.agg #[(.string ⟨(unn a).toArray⟩), (.string ⟨v.toArray⟩), (.bool true), (.string ⟨(unn f).toArray⟩), (.string ⟨(q.drop 16).toArray⟩)], .bool true]) (by simp [results, Tryd.results51, go_sem, y0, y1, y2, y3, y4]) rfl ⟨by show _ = Ending.returned (rdV (rdq h v)); rw [hR.out]; rfl, hb9⟩
              · have hR := Lib.hid (rdq_brk (v := v) HB.out H2.out HG.out (.inr (by simpa using h10)))
                clear h10
                go_wp2_with fail
                have z := set5_heap (.string ⟨#[]⟩) (.string ⟨#[]⟩) (.bool false) (.string ⟨#[]⟩) (.string ⟨#[]⟩) hSI.res
                have hb9 := hSI.bel.trans (set5_below _ w.heap.size (.string ⟨#[]⟩) (.string ⟨#[]⟩) (.bool false) (.string ⟨#[]⟩) (.string ⟨#[]⟩) (Nat.le_refl w.heap.size))
                generalize World.setCell (World.setCell (World.setCell (World.setCell (World.setCell _ _ _) _ _) _ _) _ _) _ _ = W9 at z hb9 ⊢
                obtain ⟨y0, y1, y2, y3, y4, _, _, _, _, _⟩ := five_of z
                exact bodyPost_ret (v := .tuple #[zeroE, .bool false]) (by simp [results, Tryd.results51, go_sem, zeroE, y0, y1, y2, y3, y4]) rfl ⟨by show _ = Ending.returned (rdV (rdq h v)); rw [hR.out]; rfl, hb9⟩
            · have hR := Lib.hid (rdq_brk (v := v) HB.out H2.out HG.out (.inl (by simpa using h13)))
              clear h13 hc10
              go_wp2_with fail
              have z := set5_heap (.string ⟨#[]⟩) (.string ⟨#[]⟩) (.bool false) (.string ⟨#[]⟩) (.string ⟨#[]⟩) hSI.res
              have hb9 := hSI.bel.trans (set5_below _ w.heap.size (.string ⟨#[]⟩) (.string ⟨#[]⟩) (.bool false) (.string ⟨#[]⟩) (.string ⟨#[]⟩) (Nat.le_refl w.heap.size))
              generalize World.setCell (World.setCell (World.setCell (World.setCell (World.setCell _ _ _) _ _) _ _) _ _) _ _ = W9 at z hb9 ⊢
              obtain ⟨y0, y1, y2, y3, y4, _, _, _, _, _⟩ := five_of z
              exact bodyPost_ret (v := .tuple #[zeroE, .bool false]) (by simp [results, Tryd.results51, go_sem, zeroE, y0, y1, y2, y3, y4]) rfl ⟨by show _ = Ending.returned (rdV (rdq h v)); rw [hR.out]; rfl, hb9⟩
          · have hR := Lib.hid (show rdq h v = none by
              have := HD.out
              cases q1
              · cases q2
                · cases this
                · exact rdq_bad2 HB.out H2.out HP.out
              · exact rdq_bad1 HQ.out)
            go_wp2_with fail
            have z := set5_heap (.string ⟨#[]⟩) (.string ⟨#[]⟩) (.bool false) (.string ⟨#[]⟩) (.string ⟨#[]⟩) hSI.res
            have hb9 := hSI.bel.trans (set5_below _ w.heap.size (.string ⟨#[]⟩) (.string ⟨#[]⟩) (.bool false) (.string ⟨#[]⟩) (.string ⟨#[]⟩) (Nat.le_refl w.heap.size))
            generalize World.setCell (World.setCell (World.setCell (World.setCell (World.setCell _ _ _) _ _) _ _) _ _) _ _ = W9 at z hb9 ⊢
            obtain ⟨y0, y1, y2, y3, y4, _, _, _, _, _⟩ := five_of z
            exact bodyPost_ret (v := .tuple #[zeroE, .bool false]) (by simp [results, Tryd.results51, go_sem, zeroE, y0, y1, y2, y3, y4]) rfl ⟨by show _ = Ending.returned (rdV (rdq h v)); rw [hR.out]; rfl, hb9⟩
end Go.Proofs.YtapbljaohhcpoaaDoor
