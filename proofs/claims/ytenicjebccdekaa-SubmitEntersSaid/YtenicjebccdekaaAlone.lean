/-
  A NODE BY ITSELF by the document: ref10.alone: the walk.
-/
import Derived.Test.YtenicjebccdekaaOne
namespace Go.Proofs.Ytenicjebccdekaa
set_option linter.unusedVariables false
set_option linter.unusedSimpArgs false
open Go.RowKit PT

theorem fi_take {l : List At} {k : Nat} (hk : k < l.length) : fi (l.take k) (isN l[k].n) = -1 ↔ fi l (isN l[k].n) = k := by
  have hself : isN l[k].n l[k] = true := decide_eq_true rfl
  constructor
  · intro h
    refine fi_hit hk (fun x hx => ?_) hself
    rcases fi_cases (l.take k) (isN l[k].n) with ⟨_, h2⟩ | ⟨j, _, h2, _⟩
    · exact h2 x hx
    · omega
  · intro h
    rcases fi_cases l (isN l[k].n) with ⟨h2, _⟩ | ⟨j, _, h2, _, h3⟩
    · omega
    · have : j = k := by omega
      subst this
      exact fi_none h3
set_option maxHeartbeats 4000000 in
set_option maxRecDepth 100000 in
theorem alone_any (x : Nd) (va vk : Value) (hl : x.ats.length ≤ 1000000000000000) (hk : x.ks.length ≤ 1000000000000000000) (hns : x.nm.size ≤ 140737488351232) (ht : x.tx.size ≤ 140737488351232) (w : World) (hU : Atts x.ats va w) (hV : Nums x.ks vk w) (hz : ∀ a ∈ x.ats, a.n.size ≤ 140737488351232 ∧ a.v.size ≤ 140737488351232) :
    Calls Try.prog 71 #[NdV x va vk] w fun e w' => e = .returned (.bool (oneB x)) ∧ Below w.heap.size w w' := by
  have hb0 := (Below.refl w.heap.size w).alloc (Nat.le_refl _) (.cells #[.string x.nm, .string x.tx, va, .int .i64 x.pa, vk] 35)
  have hn0 := Go.heap_alloc_new w (.cells #[.string x.nm, .string x.tx, va, .int .i64 x.pa, vk] 35)
  have hs0 : (w.alloc (.cells #[.string x.nm, .string x.tx, va, .int .i64 x.pa, vk] 35)).heap.size = w.heap.size + 1 := by simp
  have hU0 := hU.kept hb0
  obtain ⟨a, cap, rfl⟩ := hU.len
  obtain ⟨ka, kcap, rfl⟩ := hV.len
  unfold NdV
  have hO : oneB x = if x.nm = ⟨#[]⟩ then decide (x.ats.length = 0) && (decide (x.ks.length = 0) && decide (x.tx.size ≤ 4000)) else nmB x.nm.data.toList && (decide (x.tx.size = 0) && (decide (x.ats.length ≤ 40) && (List.range x.ats.length).all (atB x.ats))) := rfl
  by_cases h0 : x.nm.size = 0
  · rw [if_pos (size0.2 h0)] at hO
    have HO := Lib.hid hO
    clear hO
    have h0i : ((x.nm.size : Int) == 0) = true := by rw [h0]; rfl
    by_cases c1 : x.ats.length = 0
    · by_cases c2 : x.ks.length = 0
      · by_cases c3 : x.tx.size ≤ 4000
        · have hR := Lib.hid (show oneB x = true by rw [HO.out, decide_eq_true c1, decide_eq_true c2, decide_eq_true c3]; rfl)
          have c3' : (x.tx.size : Int) ≤ 4000 := by omega
          rw [c1, c2] at hb0 ⊢
          clear c1 c2
          go_enter Try.func71, Try.ntmps71
          go_wp2_with fail
          go_ret
          exact ⟨ret_bool hR.out.symm, hb0⟩
        · have hR := Lib.hid (show oneB x = false by rw [HO.out, decide_eq_true c1, decide_eq_true c2, decide_eq_false c3]; rfl)
          have c3' : decide ((x.tx.size : Int) ≤ 4000) = false := decide_eq_false (by omega)
          rw [c1, c2] at hb0 ⊢
          clear c1 c2
          go_enter Try.func71, Try.ntmps71
          go_wp2_with fail
          go_ret
          exact ⟨ret_bool hR.out.symm, hb0⟩
      · have hR := Lib.hid (show oneB x = false by rw [HO.out, decide_eq_true c1, decide_eq_false c2]; rfl)
        have c2' : ((x.ks.length : Int) == 0) = false := intNe (by omega)
        rw [c1] at hb0 ⊢
        clear c1
        go_enter Try.func71, Try.ntmps71
        go_wp2_with fail
        go_ret
        exact ⟨ret_bool hR.out.symm, hb0⟩
    · have hR := Lib.hid (show oneB x = false by rw [HO.out, decide_eq_false c1]; rfl)
      have c1' : ((x.ats.length : Int) == 0) = false := intNe (by omega)
      go_enter Try.func71, Try.ntmps71
      go_wp2_with fail
      go_ret
      exact ⟨ret_bool hR.out.symm, hb0⟩
  · rw [if_neg (fun e => h0 (size0.1 e))] at hO
    have HO := Lib.hid hO
    have h0i : ((x.nm.size : Int) == 0) = false := intNe (by omega)
    clear hO
    cases hnm : nmB x.nm.data.toList
    · have hR := Lib.hid (show oneB x = false by rw [HO.out, hnm]; rfl)
      have HN := Lib.hid hnm
      clear hnm
      go_enter Try.func71, Try.ntmps71
      go_upto_region 1 with fail
      generalize World.alloc _ _ = W0 at hb0 hn0 hU0 hs0 ⊢
      obtain ⟨x0, x1, x2, x3, x4, f0, f1, f2, f3, f4⟩ := five_of hn0
      go_wp2_with fail
      refine (refName10_any x.nm hns _).mono ?_
      rintro e w' ⟨rfl, rfl⟩
      rw [HN.out]
      go_wp2_with fail
      go_ret
      exact ⟨ret_bool hR.out.symm, hb0⟩
    · have HN := Lib.hid hnm
      by_cases d1 : x.tx.size = 0
      · have d1' : decide ((0 : Int) < (x.tx.size : Int)) = false := decide_eq_false (by omega)
        have d1'' : decide (0 < x.tx.size) = false := decide_eq_false (by omega)
        by_cases d2 : x.ats.length ≤ 40
        · have HO2 := Lib.hid (show oneB x = (List.range x.ats.length).all (atB x.ats) by rw [HO.out, hnm, decide_eq_true d1, decide_eq_true d2]; rfl)
          have d2' : decide ((40 : Int) < (x.ats.length : Int)) = false := decide_eq_false (by omega)
          clear hnm HO
          go_enter Try.func71, Try.ntmps71
          go_upto_region 1 with fail
          generalize World.alloc _ _ = W0 at hb0 hn0 hU0 hs0 ⊢
          obtain ⟨x0, x1, x2, x3, x4, f0, f1, f2, f3, f4⟩ := five_of hn0
          have hx0 : w.heap.size < W0.heap.size := by omega
          clear hs0
          go_wp2_with fail
          refine (refName10_any x.nm hns _).mono ?_
          rintro e w' ⟨rfl, rfl⟩
          rw [HN.out]
          go_wp2_with fail
          go_loopw [3] (fun i wr => ∃ k : Nat, k ≤ x.ats.length ∧ i = .int .i64 k ∧ Hid (∀ j, j < k → atB x.ats j = true) ∧ Below W0.heap.size W0 wr) (fun i _ => x.ats.length - (intOf i).toNat)
          case atStart => exact ⟨0, Nat.zero_le _, rfl, Lib.hid (fun j hj => by omega), Below.refl _ _⟩
          case round =>
            obtain ⟨k, hk', rfl, hA, hbel⟩ := hrel
            have hsz := hbel.size
            by_cases hlt : k < x.ats.length
            · have hUr := hU0.kept hbel
              obtain ⟨b, o, cap', hv, hcap, hb, hc0, hc1⟩ := hUr.at hlt
              cases hv
              have hy := Lib.hid (show atB x.ats k = (nmB x.ats[k].n.data.toList && (decide (x.ats[k].v.size ≤ 4000) && decide (fi (x.ats.take k) (isN x.ats[k].n) = -1))) by unfold atB; rw [List.getElem?_eq_getElem hlt])
              obtain ⟨hyn, hyv⟩ := hz _ (List.getElem_mem hlt)
              have hft := Lib.hid (fi_take hlt)
              have hF := Lib.hid (fun (h : atB x.ats k = false) => show oneB x = false from HO2.out.trans (by
                rw [List.all_eq_false]
                exact ⟨k, List.mem_range.2 hlt, by rw [h]; exact Bool.false_ne_true⟩))
              have hN := Lib.hid (fun (h : atB x.ats k = true) => show ∀ j, j < k + 1 → atB x.ats j = true from fun j hj => by
                by_cases e : j = k
                · rw [e]; exact h
                · exact hA.out j (by omega))
              generalize x.ats[k] = y at *
              have q0 := cellK hbel hx0 x0
              have q2 := cellK hbel hx0 x2
              have hk0 : (0 : Int) ≤ (k : Int) := by omega
              have hk1 : (k : Int) < (x.ats.length : Int) := by omega
              have hl9 : x.ats.length ≤ 1000000000000000 := by omega
              cases hnn : nmB y.n.data.toList
              · have hR := Lib.hid (hF.out (by rw [hy.out, hnn]; rfl))
                have HNN := Lib.hid hnn
                clear hnn
                go_wp2_with fail
                first | go_quiet ((go_at_call 107; exact Calls.quiet_of_same ((refName10_any y.n hyn _).mono fun _ _ h => ⟨h.1.trans (by rw [HNN.out]), h.2.symm⟩))) | fail
                go_wp2_with fail
                go_ret
                exact ⟨ret_bool hR.out.symm, (hb0.trans (hbel.mono (by omega))).trans ((below_draws wr _).mono (by omega))⟩
              · have HNN := Lib.hid hnn
                by_cases h4 : y.v.size ≤ 4000
                · have h4' : decide ((4000 : Int) < (y.v.size : Int)) = false := decide_eq_false (by omega)
                  obtain ⟨z, hfz⟩ : ∃ z, fi x.ats (isN y.n) = z := ⟨_, rfl⟩
                  have HF := Lib.hid hfz
                  by_cases hfi : z = (k : Int)
                  · have hN2 := Lib.hid (hN.out (by rw [hy.out, hnn, decide_eq_true h4, decide_eq_true (hft.out.2 (hfz.trans hfi))]; rfl))
                    subst hfi
                    clear hfz hnn h4
                    go_wp2_with fail
                    first | go_quiet ((first | (go_at_call 107; exact Calls.quiet_of_same ((refName10_any y.n hyn _).mono fun _ _ h => ⟨h.1.trans (by rw [HNN.out]), h.2.symm⟩)) | (go_at_call 73; exact Calls.quiet_of_same ((refFind10_any x.ats _ y.n hl9 _ (hUr.kept (below_draws _ _))).mono fun _ _ h => ⟨h.1.trans (by rw [HF.out]), h.2.symm⟩)))) | fail
                    go_wp2_with fail
                    go_roundw
                    case rel => exact ⟨k + 1, by omega, by go_num, hN2, hbel.trans ((below_draws wr _).mono hsz)⟩
                    case measure => simp [intOf]; omega
                  · have hR := Lib.hid (hF.out (by rw [hy.out, decide_eq_false (show ¬ fi (x.ats.take k) (isN y.n) = -1 from fun e => hfi (hfz.symm.trans (hft.out.1 e)))]; simp))
                    have hzk : (z != (k : Int)) = true := by rw [bne, intNe hfi]; rfl
                    have hzk2 : (z == (k : Int)) = false := intNe hfi
                    clear hfz hnn h4 hfi
                    go_wp2_with fail
                    first | go_quiet ((first | (go_at_call 107; exact Calls.quiet_of_same ((refName10_any y.n hyn _).mono fun _ _ h => ⟨h.1.trans (by rw [HNN.out]), h.2.symm⟩)) | (go_at_call 73; exact Calls.quiet_of_same ((refFind10_any x.ats _ y.n hl9 _ (hUr.kept (below_draws _ _))).mono fun _ _ h => ⟨h.1.trans (by rw [HF.out]), h.2.symm⟩)))) | fail
                    go_wp2_with fail
                    go_ret
                    exact ⟨ret_bool hR.out.symm, (hb0.trans (hbel.mono (by omega))).trans ((below_draws wr _).mono (by omega))⟩
                · have h4' : (4000 : Int) < (y.v.size : Int) := by omega
                  have hR := Lib.hid (hF.out (by rw [hy.out, decide_eq_false h4]; simp))
                  clear hnn h4
                  go_wp2_with fail
                  first | go_quiet ((go_at_call 107; exact Calls.quiet_of_same ((refName10_any y.n hyn _).mono fun _ _ h => ⟨h.1.trans (by rw [HNN.out]), h.2.symm⟩))) | fail
                  go_wp2_with fail
                  go_ret
                  exact ⟨ret_bool hR.out.symm, (hb0.trans (hbel.mono (by omega))).trans ((below_draws wr _).mono (by omega))⟩
            · obtain rfl : k = x.ats.length := by omega
              have hR := Lib.hid (show oneB x = true from HO2.out.trans (List.all_eq_true.2 fun j hj => hA.out j (List.mem_range.1 hj)))
              have q2 := cellK hbel hx0 x2
              go_wp2_with fail
              go_ret
              exact ⟨ret_bool hR.out.symm, hb0.trans (hbel.mono (by omega))⟩
        · have hR := Lib.hid (show oneB x = false by rw [HO.out, hnm, decide_eq_true d1, decide_eq_false d2]; rfl)
          have d2' : (40 : Int) < (x.ats.length : Int) := by omega
          clear hnm
          go_enter Try.func71, Try.ntmps71
          go_upto_region 1 with fail
          generalize World.alloc _ _ = W0 at hb0 hn0 hU0 hs0 ⊢
          obtain ⟨x0, x1, x2, x3, x4, f0, f1, f2, f3, f4⟩ := five_of hn0
          go_wp2_with fail
          refine (refName10_any x.nm hns _).mono ?_
          rintro e w' ⟨rfl, rfl⟩
          rw [HN.out]
          go_wp2_with fail
          go_ret
          exact ⟨ret_bool hR.out.symm, hb0⟩
      · have hR := Lib.hid (show oneB x = false by rw [HO.out, hnm, decide_eq_false d1]; rfl)
        have d1' : (0 : Int) < (x.tx.size : Int) := by omega
        have d1'' : 0 < x.tx.size := by omega
        clear hnm
        go_enter Try.func71, Try.ntmps71
        go_upto_region 1 with fail
        generalize World.alloc _ _ = W0 at hb0 hn0 hU0 hs0 ⊢
        obtain ⟨x0, x1, x2, x3, x4, f0, f1, f2, f3, f4⟩ := five_of hn0
        go_wp2_with fail
        refine (refName10_any x.nm hns _).mono ?_
        rintro e w' ⟨rfl, rfl⟩
        rw [HN.out]
        go_wp2_with fail
        go_ret
        exact ⟨ret_bool hR.out.symm, hb0⟩
end Go.Proofs.Ytenicjebccdekaa
