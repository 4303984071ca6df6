import Derived.Test.YtafbghlldlconaaGreatPart2
import Derived.Deep.OwnRows
import Derived.Test.YtafbghlldlconaaGreatPart1
/-
  A NODE BY ITSELF by the document: ref10.alone: the walk.
-/
namespace Go.Proofs.YtafbghlldlconaaGreat
set_option linter.unusedVariables false
set_option linter.unusedSimpArgs false
open Go.RowKit PT

theorem fi_take {l : List At} {k : Nat} (hk : k < l.length) : fi (l.take k) (isN l[k].n) = -1 ↔ fi l (isN l[k].n) = k := by
  have hself : isN l[k].n l[k] = true := decide_eq_true rfl
  constructor
  · intro h
    refine fi_hit hk (fun x hx => ?_) hself
    rcases fi_cases (l.take k) (isN l[k].n) with ⟨_, h2⟩ | ⟨j, _, h2, _⟩
    · exact h2 x hx
    · omega
  · intro h
    rcases fi_cases l (isN l[k].n) with ⟨h2, _⟩ | ⟨j, _, h2, _, h3⟩
    · omega
    · have : j = k := by omega
      subst this
      exact fi_none h3
set_option maxHeartbeats 4000000 in
set_option maxRecDepth 100000 in
theorem alone_any (x : Nd) (va vk : Value) (hl : x.ats.length ≤ 1000000000000000) (hk : x.ks.length ≤ 1000000000000000000) (hns : x.nm.size ≤ 140737488351232) (ht : x.tx.size ≤ 140737488351232) (w : World) (hU : Atts x.ats va w) (hV : Nums x.ks vk w) (hz : ∀ a ∈ x.ats, a.n.size ≤ 140737488351232 ∧ a.v.size ≤ 140737488351232) :
    Calls Tryz.prog 71 #[NdV x va vk] w fun e w' => e = .returned (.bool (oneB x)) ∧ Below w.heap.size w w' := by
  have hb0 := (Below.refl w.heap.size w).alloc (Nat.le_refl _) (.cells #[.string x.nm, .string x.tx, va, .int .i64 x.pa, vk] 41)
  have hn0 := Go.heap_alloc_new w (.cells #[.string x.nm, .string x.tx, va, .int .i64 x.pa, vk] 41)
  have hs0 : (w.alloc (.cells #[.string x.nm, .string x.tx, va, .int .i64 x.pa, vk] 41)).heap.size = w.heap.size + 1 := by simp
  have hU0 := hU.kept hb0
  obtain ⟨a, cap, rfl⟩ := hU.len
  obtain ⟨ka, kcap, rfl⟩ := hV.len
  unfold NdV
  have hO : oneB x = if x.nm = ⟨#[]⟩ then decide (x.ats.length = 0) && (decide (x.ks.length = 0) && decide (x.tx.size ≤ 4000)) else nmB x.nm.data.toList && (decide (x.tx.size = 0) && (decide (x.ats.length ≤ 40) && (List.range x.ats.length).all (atB x.ats))) := rfl
  by_cases h0 : x.nm.size = 0
  · rw [if_pos (size0.2 h0)] at hO
    have HO := Lib.hid hO
    clear hO
    have h0i : ((x.nm.size : Int) == 0) = true := by rw [h0]; rfl
    by_cases c1 : x.ats.length = 0
    · by_cases c2 : x.ks.length = 0
      · by_cases c3 : x.tx.size ≤ 4000
        · have hR := Lib.hid (show oneB x = true by rw [HO.out, decide_eq_true c1, decide_eq_true c2, decide_eq_true c3]; rfl)
          have c3' : (x.tx.size : Int) ≤ 4000 := by omega
          rw [c1, c2] at hb0 ⊢
          clear c1 c2
          go_enter Tryz.func71, Tryz.ntmps71
          go_wp2_with fail
          go_ret
          exact ⟨ret_bool hR.out.symm, hb0⟩
        · have hR := Lib.hid (show oneB x = false by rw [HO.out, decide_eq_true c1, decide_eq_true c2, decide_eq_false c3]; rfl)
          have c3' : decide ((x.tx.size : Int) ≤ 4000) = false := decide_eq_false (by omega)
          rw [c1, c2] at hb0 ⊢
          clear c1 c2
          go_enter Tryz.func71, Tryz.ntmps71
          go_wp2_with fail
          go_ret
          exact ⟨ret_bool hR.out.symm, hb0⟩
      · have hR := Lib.hid (show oneB x = false by rw [HO.out, decide_eq_true c1, decide_eq_false c2]; rfl)
        have c2' : ((x.ks.length : Int) == 0) = false := intNe (by omega)
        rw [c1] at hb0 ⊢
        clear c1
        go_enter Tryz.func71, Tryz.ntmps71
        go_wp2_with fail
        go_ret
        exact ⟨ret_bool hR.out.symm, hb0⟩
    · have hR := Lib.hid (show oneB x = false by rw [HO.out, decide_eq_false c1]; rfl)
      have c1' : ((x.ats.length : Int) == 0) = false := intNe (by omega)
      go_enter Tryz.func71, Tryz.ntmps71
      go_wp2_with fail
      go_ret
      exact ⟨ret_bool hR.out.symm, hb0⟩
  · rw [if_neg (fun e => h0 (size0.1 e))] at hO
    have HO := Lib.hid hO
    have h0i : ((x.nm.size : Int) == 0) = false := intNe (by omega)
    clear hO
    cases hnm : nmB x.nm.data.toList
    · have hR := Lib.hid (show oneB x = false by rw [HO.out, hnm]; rfl)
      have HN := Lib.hid hnm
      clear hnm
      go_enter Tryz.func71, Tryz.ntmps71
      go_upto_region 1 with fail
      generalize World.alloc _ _ = W0 at hb0 hn0 hU0 hs0 ⊢
      obtain ⟨x0, x1, x2, x3, x4, f0, f1, f2, f3, f4⟩ := five_of hn0
      go_wp2_with fail
      refine (refName10_any x.nm hns _).mono ?_
      rintro e w' ⟨rfl, rfl⟩
      rw [HN.out]
      go_wp2_with fail
      go_ret
      exact ⟨ret_bool hR.out.symm, hb0⟩
    · have HN := Lib.hid hnm
      by_cases d1 : x.tx.size = 0
      · have d1' : decide ((0 : Int) < (x.tx.size : Int)) = false := decide_eq_false (by omega)
        have d1'' : decide (0 < x.tx.size) = false := decide_eq_false (by omega)
        by_cases d2 : x.ats.length ≤ 40
        · have HO2 := Lib.hid (show oneB x = (List.range x.ats.length).all (atB x.ats) by rw [HO.out, hnm, decide_eq_true d1, decide_eq_true d2]; rfl)
          have d2' : decide ((40 : Int) < (x.ats.length : Int)) = false := decide_eq_false (by omega)
          clear hnm HO
          go_enter Tryz.func71, Tryz.ntmps71
          go_upto_region 1 with fail
          generalize World.alloc _ _ = W0 at hb0 hn0 hU0 hs0 ⊢
          obtain ⟨x0, x1, x2, x3, x4, f0, f1, f2, f3, f4⟩ := five_of hn0
          have hx0 : w.heap.size < W0.heap.size := by omega
          clear hs0
          go_wp2_with fail
          refine (refName10_any x.nm hns _).mono ?_
          rintro e w' ⟨rfl, rfl⟩
          rw [HN.out]
          go_wp2_with fail
          go_loopw [3] (fun i wr => ∃ k : Nat, k ≤ x.ats.length ∧ i = .int .i64 k ∧ Hid (∀ j, j < k → atB x.ats j = true) ∧ Below W0.heap.size W0 wr) (fun i _ => x.ats.length - (intOf i).toNat)
          case atStart => exact ⟨0, Nat.zero_le _, rfl, Lib.hid (fun j hj => by omega), Below.refl _ _⟩
          case round =>
            obtain ⟨k, hk', rfl, hA, hbel⟩ := hrel
            have hsz := hbel.size
            by_cases hlt : k < x.ats.length
            · have hUr := hU0.kept hbel
              obtain ⟨b, o, cap', hv, hcap, hb, hc0, hc1⟩ := hUr.at hlt
              cases hv
              have hy := Lib.hid (show atB x.ats k = (nmB x.ats[k].n.data.toList && (decide (x.ats[k].v.size ≤ 4000) && decide (fi (x.ats.take k) (isN x.ats[k].n) = -1))) by unfold atB; rw [List.getElem?_eq_getElem hlt])
              obtain ⟨hyn, hyv⟩ := hz _ (List.getElem_mem hlt)
              have hft := Lib.hid (fi_take hlt)
              have hF := Lib.hid (fun (h : atB x.ats k = false) => show oneB x = false from HO2.out.trans (by
                rw [List.all_eq_false]
                exact ⟨k, List.mem_range.2 hlt, by rw [h]; exact Bool.false_ne_true⟩))
              have hN := Lib.hid (fun (h : atB x.ats k = true) => show ∀ j, j < k + 1 → atB x.ats j = true from fun j hj => by
                by_cases e : j = k
                · rw [e]; exact h
                · exact hA.out j (by omega))
              generalize x.ats[k] = y at *
              have q0 := cellK hbel hx0 x0
              have q2 := cellK hbel hx0 x2
              have hk0 : (0 : Int) ≤ (k : Int) := by omega
              have hk1 : (k : Int) < (x.ats.length : Int) := by omega
              have hl9 : x.ats.length ≤ 1000000000000000 := by omega
              cases hnn : nmB y.n.data.toList
              · have hR := Lib.hid (hF.out (by rw [hy.out, hnn]; rfl))
                have HNN := Lib.hid hnn
                clear hnn
                go_wp2_with fail
                first | go_quiet ((go_at_call 94; exact Calls.quiet_of_same ((refName10_any y.n hyn _).mono fun _ _ h => ⟨h.1.trans (by rw [HNN.out]), h.2.symm⟩))) | fail
                go_wp2_with fail
                go_ret
                exact ⟨ret_bool hR.out.symm, (hb0.trans (hbel.mono (by omega))).trans ((below_draws wr _).mono (by omega))⟩
              · have HNN := Lib.hid hnn
                by_cases h4 : y.v.size ≤ 4000
                · have h4' : decide ((4000 : Int) < (y.v.size : Int)) = false := decide_eq_false (by omega)
                  obtain ⟨z, hfz⟩ : ∃ z, fi x.ats (isN y.n) = z := ⟨_, rfl⟩
                  have HF := Lib.hid hfz
                  by_cases hfi : z = (k : Int)
                  · have hN2 := Lib.hid (hN.out (by rw [hy.out, hnn, decide_eq_true h4, decide_eq_true (hft.out.2 (hfz.trans hfi))]; rfl))
                    subst hfi
                    clear hfz hnn h4
                    go_wp2_with fail
                    first | go_quiet ((first | (go_at_call 94; exact Calls.quiet_of_same ((refName10_any y.n hyn _).mono fun _ _ h => ⟨h.1.trans (by rw [HNN.out]), h.2.symm⟩)) | (go_at_call 44; exact Calls.quiet_of_same ((refFind10_any x.ats _ y.n hl9 _ (hUr.kept (below_draws _ _))).mono fun _ _ h => ⟨h.1.trans (by rw [HF.out]), h.2.symm⟩)))) | fail
                    go_wp2_with fail
                    go_roundw
                    case rel => exact ⟨k + 1, by omega, by go_num, hN2, hbel.trans ((below_draws wr _).mono hsz)⟩
                    case measure => simp [intOf]; omega
                  · have hR := Lib.hid (hF.out (by rw [hy.out, decide_eq_false (show ¬ fi (x.ats.take k) (isN y.n) = -1 from fun e => hfi (hfz.symm.trans (hft.out.1 e)))]; simp))
                    have hzk : (z != (k : Int)) = true := by rw [bne, intNe hfi]; rfl
                    have hzk2 : (z == (k : Int)) = false := intNe hfi
                    clear hfz hnn h4 hfi
                    go_wp2_with fail
                    first | go_quiet ((first | (go_at_call 94; exact Calls.quiet_of_same ((refName10_any y.n hyn _).mono fun _ _ h => ⟨h.1.trans (by rw [HNN.out]), h.2.symm⟩)) | (go_at_call 44; exact Calls.quiet_of_same ((refFind10_any x.ats _ y.n hl9 _ (hUr.kept (below_draws _ _))).mono fun _ _ h => ⟨h.1.trans (by rw [HF.out]), h.2.symm⟩)))) | fail
                    go_wp2_with fail
                    go_ret
                    exact ⟨ret_bool hR.out.symm, (hb0.trans (hbel.mono (by omega))).trans ((below_draws wr _).mono (by omega))⟩
                · have h4' : (4000 : Int) < (y.v.size : Int) := by omega
                  have hR := Lib.hid (hF.out (by rw [hy.out, decide_eq_false h4]; simp))
                  clear hnn h4
                  go_wp2_with fail
                  first | go_quiet ((go_at_call 94; exact Calls.quiet_of_same ((refName10_any y.n hyn _).mono fun _ _ h => ⟨h.1.trans (by rw [HNN.out]), h.2.symm⟩))) | fail
                  go_wp2_with fail
                  go_ret
                  exact ⟨ret_bool hR.out.symm, (hb0.trans (hbel.mono (by omega))).trans ((below_draws wr _).mono (by omega))⟩
            · obtain rfl : k = x.ats.length := by omega
              have hR := Lib.hid (show oneB x = true from HO2.out.trans (List.all_eq_true.2 fun j hj => hA.out j (List.mem_range.1 hj)))
              have q2 := cellK hbel hx0 x2
              go_wp2_with fail
              go_ret
              exact ⟨ret_bool hR.out.symm, hb0.trans (hbel.mono (by omega))⟩
        · have hR := Lib.hid (show oneB x = false by rw [HO.out, hnm, decide_eq_true d1, decide_eq_false d2]; rfl)
          have d2' : (40 : Int) < (x.ats.length : Int) := by omega
          clear hnm
          go_enter Tryz.func71, Tryz.ntmps71
          go_upto_region 1 with fail
          generalize World.alloc _ _ = W0 at hb0 hn0 hU0 hs0 ⊢
          obtain ⟨x0, x1, x2, x3, x4, f0, f1, f2, f3, f4⟩ := five_of hn0
          go_wp2_with fail
          refine (refName10_any x.nm hns _).mono ?_
          rintro e w' ⟨rfl, rfl⟩
          rw [HN.out]
          go_wp2_with fail
          go_ret
          exact ⟨ret_bool hR.out.symm, hb0⟩
      · have hR := Lib.hid (show oneB x = false by rw [HO.out, hnm, decide_eq_false d1]; rfl)
        have d1' : (0 : Int) < (x.tx.size : Int) := by omega
        have d1'' : 0 < x.tx.size := by omega
        clear hnm
        go_enter Tryz.func71, Tryz.ntmps71
        go_upto_region 1 with fail
        generalize World.alloc _ _ = W0 at hb0 hn0 hU0 hs0 ⊢
        obtain ⟨x0, x1, x2, x3, x4, f0, f1, f2, f3, f4⟩ := five_of hn0
        go_wp2_with fail
        refine (refName10_any x.nm hns _).mono ?_
        rintro e w' ⟨rfl, rfl⟩
        rw [HN.out]
        go_wp2_with fail
        go_ret
        exact ⟨ret_bool hR.out.symm, hb0⟩
end Go.Proofs.YtafbghlldlconaaGreat

/-
  RIGHT DOCUMENTS by the document: ref10.count, ref10.Right: the walks.
-/
namespace Go.Proofs.YtafbghlldlconaaGreat
set_option linter.unusedVariables false
set_option linter.unusedSimpArgs false
open Go.RowKit PT

theorem count_snoc {l : List Int} {k : Nat} (n : Int) (hk : k < l.length) : (l.take (k + 1)).count n = (l.take k).count n + if l[k] = n then 1 else 0 := by
  rw [List.take_add_one, List.count_append, List.getElem?_eq_getElem hk]
  by_cases h : l[k] = n
  · rw [if_pos h]; simp [h]
  · rw [if_neg h]; simp [h]
set_option maxHeartbeats 4000000 in
set_option maxRecDepth 100000 in
theorem count_at (l : List Int) (v : Value) (n : Int) (hl : l.length ≤ 1000000000000000000) (w : World) (hV : Nums l v w) :
    Calls Tryz.prog 72 #[v, .int .i64 n] w fun e w' => e = .returned (.int .i64 (l.count n)) ∧ w = w' := by
  obtain ⟨a, cap, rfl⟩ := hV.len
  go_enter Tryz.func72, Tryz.ntmps72
  go_wp2_with fail
  go_loop [5, 6] (fun c i => ∃ k m : Nat, k ≤ l.length ∧ i = .int .i64 k ∧ c = .int .i64 m ∧ m ≤ k ∧ Hid ((l.take k).count n = m)) (fun _ i => l.length - (intOf i).toNat)
  case atStart => exact ⟨0, 0, Nat.zero_le _, rfl, rfl, Nat.le_refl _, Lib.hid (by simp)⟩
  case round =>
    obtain ⟨k, m, hk, rfl, rfl, hm, hA⟩ := hrel
    by_cases hlt : k < l.length
    · obtain ⟨b, o, cap', hv, hb, hc0⟩ := hV.at hlt
      cases hv
      have hs := count_snoc n hlt
      rw [hA.out] at hs
      have HS := Lib.hid hs
      clear hs
      generalize l[k] = x at *
      by_cases h : x = n
      · have hN := Lib.hid (HS.out.trans (by rw [if_pos h]))
        subst h
        clear HS
        go_wp2_with fail
        go_round
        case rel => exact ⟨k + 1, m + 1, by omega, by go_num, by go_num, by omega, hN⟩
        case measure => simp [intOf]; omega
      · have hN := Lib.hid (HS.out.trans (by rw [if_neg h]))
        have hq : (x == n) = false := intNe h
        clear HS
        go_wp2_with fail
        go_round
        case rel => exact ⟨k + 1, m, by omega, by go_num, rfl, by omega, hN⟩
        case measure => simp [intOf]; omega
    · obtain rfl : k = l.length := by omega
      have hN := Lib.hid (show l.count n = m by have := hA.out; rwa [List.take_of_length_le (Nat.le_refl _)] at this)
      go_wp2_with fail
      go_ret
      exact ⟨ret_int (by rw [hN.out]), rfl⟩
/-- sizes of a document's texts and rows -/
def Fits (x : Nd) : Prop := x.nm.size ≤ 140737488351232 ∧ x.tx.size ≤ 140737488351232 ∧ x.ats.length ≤ 1000000000000000 ∧ x.ks.length ≤ 1000000000000000 ∧ ∀ a ∈ x.ats, a.n.size ≤ 140737488351232 ∧ a.v.size ≤ 140737488351232
/-- a node of a right document, by the document -/
def okR (l : List Nd) (j : Nat) : Prop := ∀ x, l[j]? = some x → (oneB x = true ∧ -1 ≤ x.pa ∧ x.pa < l.length) ∧ (0 ≤ x.pa → (ksOf l x.pa).count (j : Int) = 1) ∧ ∀ c ∈ x.ks, 0 ≤ c ∧ c < l.length ∧ paOf l c = j
theorem RightP.okR {l : List Nd} (h : RightP l) (j : Nat) : okR l j := fun x hx => ⟨h.node j x hx, h.once j x hx, h.kids j x hx⟩
set_option maxHeartbeats 4000000 in
set_option maxRecDepth 100000 in
theorem refRight_any (l : List Nd) (v : Value) (hl : l.length ≤ 1000000000000000000) (hz : ∀ x ∈ l, Fits x) (w : World) (hU : Nodes l v w) :
    Calls Tryz.prog 43 #[v] w fun e w' => e = .returned (.bool (rightB l)) ∧ Below w.heap.size w w' := by
  have hz2 : ∀ x ∈ l, x.ks.length ≤ 1000000000000000000 := fun x hx => Nat.le_trans (hz x hx).2.2.2.1 (by omega)
  obtain ⟨a, cap, rfl⟩ := hU.len
  by_cases h0 : l.length < 1
  · have hR := Lib.hid (rightB_no (fun h : RightP l => by have := h.pos; omega))
    have h0' : (l.length : Int) < 1 := by omega
    go_enter Tryz.func43, Tryz.ntmps43
    go_wp2_with fail
    go_ret
    exact ⟨ret_bool hR.out.symm, Below.refl _ _⟩
  have h0' : decide ((l.length : Int) < 1) = false := decide_eq_false (by omega)
  by_cases h1 : 400 < l.length
  · have hR := Lib.hid (rightB_no (fun h : RightP l => by have := h.max; omega))
    have h1' : (400 : Int) < (l.length : Int) := by omega
    go_enter Tryz.func43, Tryz.ntmps43
    go_wp2_with fail
    go_ret
    exact ⟨ret_bool hR.out.symm, Below.refl _ _⟩
  have h1' : decide ((400 : Int) < (l.length : Int)) = false := decide_eq_false (by omega)
  have hpos : 0 < l.length := by omega
  obtain ⟨b, o, cap', va, vk, hv, hb, c0, c1, c2, c3, c4, hat, hks⟩ := hU.at hpos
  cases hv
  have hx0 : l[0]? = some l[0] := List.getElem?_eq_getElem hpos
  have hTop := Lib.hid (fun (h : RightP l) => h.top _ hx0)
  have hTop2 := Lib.hid (fun (h : l[0].nm.size ≠ 0 ∧ l[0].pa = -1) => show ∀ x, l[0]? = some x → x.nm.size ≠ 0 ∧ x.pa = -1 from fun x hx => by rw [hx0] at hx; cases hx; exact h)
  have hp0 : (0 : Int) < (l.length : Int) := by omega
  rw [Nat.zero_mul, Nat.add_zero] at c0 c1 c2 c3 c4
  clear hx0 hat hks c1 c2 c4
  generalize l[0] = y at *
  by_cases h2 : y.nm.size = 0
  · have hR := Lib.hid (rightB_no (fun h : RightP l => (hTop.out h).1 h2))
    have h2' : ((y.nm.size : Int) == 0) = true := by rw [h2]; rfl
    clear h2
    go_enter Tryz.func43, Tryz.ntmps43
    go_wp2_with fail
    go_ret
    exact ⟨ret_bool hR.out.symm, Below.refl _ _⟩
  have h2' : ((y.nm.size : Int) == 0) = false := intNe (by omega)
  by_cases h3 : y.pa = -1
  case neg =>
    have hR := Lib.hid (rightB_no (fun h : RightP l => h3 (hTop.out h).2))
    have h3' : (y.pa == -1) = false := intNe h3
    have h3'' : (y.pa != -1) = true := by rw [bne, h3']; rfl
    clear h2 h3
    go_enter Tryz.func43, Tryz.ntmps43
    go_wp2_with fail
    go_ret
    exact ⟨ret_bool hR.out.symm, Below.refl _ _⟩
  have hTT := Lib.hid (hTop2.out ⟨h2, h3⟩)
  rw [h3] at c3
  clear hTop hTop2 h2 h3
  go_enter Tryz.func43, Tryz.ntmps43
  go_wp2_with fail
  go_loopw [3] (fun i wr => ∃ k : Nat, k ≤ l.length ∧ i = .int .i64 k ∧ Hid (∀ j, j < k → okR l j) ∧ Below w.heap.size w wr) (fun i _ => l.length - (intOf i).toNat)
  case atStart => exact ⟨0, Nat.zero_le _, rfl, Lib.hid (fun j hj => by omega), Below.refl _ _⟩
  case round =>
    obtain ⟨k, hk, rfl, hA, hbel⟩ := hrel
    have hsz := hbel.size
    by_cases hlt : k < l.length
    · have hUr := hU.kept hbel
      obtain ⟨b, o, cap', va, vk, hv, hb, c0, c1, c2, c3, c4, hat, hks⟩ := hUr.at hlt
      cases hv
      obtain ⟨z0, z1, z2, _, z4⟩ := hz _ (List.getElem_mem hlt)
      have z3 := hz2 _ (List.getElem_mem hlt)
      have hxk : l[k]? = some l[k] := List.getElem?_eq_getElem hlt
      have hF := Lib.hid (fun (h : ¬ ((oneB l[k] = true ∧ -1 ≤ l[k].pa ∧ l[k].pa < l.length) ∧ (0 ≤ l[k].pa → (ksOf l l[k].pa).count (k : Int) = 1) ∧ ∀ c ∈ l[k].ks, 0 ≤ c ∧ c < l.length ∧ paOf l c = k)) => rightB_no (fun H : RightP l => h (H.okR k _ hxk)))
      have hN := Lib.hid (fun (h : ((oneB l[k] = true ∧ -1 ≤ l[k].pa ∧ l[k].pa < l.length) ∧ (0 ≤ l[k].pa → (ksOf l l[k].pa).count (k : Int) = 1) ∧ ∀ c ∈ l[k].ks, 0 ≤ c ∧ c < l.length ∧ paOf l c = k)) => show ∀ j, j < k + 1 → okR l j from fun j hj => by
        by_cases e : j = k
        · intro x hx
          subst e
          rw [hxk] at hx
          cases hx
          exact h
        · exact hA.out j (by omega))
      generalize l[k] = x at *
      have hk0 : (0 : Int) ≤ (k : Int) := by omega
      have hk1 : (k : Int) < (l.length : Int) := by omega
      cases h4 : oneB x
      · have hR := Lib.hid (hF.out (fun h => by rw [h4] at h; exact Bool.false_ne_true h.1.1))
        have HF := Lib.hid h4
        clear h4
        go_wp2_with fail
        refine (alone_any x va vk z2 z3 z0 z1 _ hat hks z4).mono ?_
        rintro e w' ⟨rfl, hb5⟩
        rw [HF.out]
        go_wp2_with fail
        go_ret
        exact ⟨ret_bool hR.out.symm, hbel.trans (hb5.mono (by omega))⟩
      · have HF := Lib.hid h4
        by_cases h5 : x.pa < -1
        · have hR := Lib.hid (hF.out (fun h => by omega))
          clear h4
          go_wp2_with fail
          refine (alone_any x va vk z2 z3 z0 z1 _ hat hks z4).mono ?_
          rintro e w' ⟨rfl, hb5⟩
          rw [HF.out]
          go_wp2_with fail
          go_ret
          exact ⟨ret_bool hR.out.symm, hbel.trans (hb5.mono (by omega))⟩
        have h5' : decide (x.pa < -1) = false := decide_eq_false h5
        by_cases h6 : (l.length : Int) ≤ x.pa
        · have hR := Lib.hid (hF.out (fun h => by omega))
          clear h4
          go_wp2_with fail
          refine (alone_any x va vk z2 z3 z0 z1 _ hat hks z4).mono ?_
          rintro e w' ⟨rfl, hb5⟩
          rw [HF.out]
          go_wp2_with fail
          go_ret
          exact ⟨ret_bool hR.out.symm, hbel.trans (hb5.mono (by omega))⟩
        have h6' : decide ((l.length : Int) ≤ x.pa) = false := decide_eq_false h6
        by_cases h7 : 0 ≤ x.pa
        · obtain ⟨p, hp⟩ := Int.eq_ofNat_of_zero_le h7
          have hpl : p < l.length := by omega
          have hke := Lib.hid (show ksOf l x.pa = l[p].ks by rw [hp]; exact ksOf_at hpl)
          have zp := hz2 _ (List.getElem_mem hpl)
          have HP := Lib.hid hp
          clear hp
          go_wp2_with fail
          refine (alone_any x va vk z2 z3 z0 z1 _ hat hks z4).mono ?_
          rintro e w' ⟨rfl, hb5⟩
          rw [HF.out]
          have hbW := hbel.trans (hb5.mono (by omega))
          have hUW := hU.kept hbW
          replace hat := hat.kept hb5
          replace hks := hks.kept hb5
          replace c0 := cellK hb5 hb c0
          replace c1 := cellK hb5 hb c1
          replace c2 := cellK hb5 hb c2
          replace c3 := cellK hb5 hb c3
          replace c4 := cellK hb5 hb c4
          obtain ⟨ka, kcap, rfl⟩ := hks.len
          obtain ⟨b9, o9, cap9, va9, vk9, hv9, hb9, g0, g1, g2, g3, g4, _, hks9⟩ := hUW.at hpl
          cases hv9
          generalize l[p] = yp at *
          have hp0 : (0 : Int) ≤ (p : Int) := by omega
          have hp1 : (p : Int) < (l.length : Int) := by omega
          rw [HP.out] at h5' h6' c3 ⊢
          by_cases h8 : yp.ks.count (k : Int) = 1
          case neg =>
            have hR := Lib.hid (hF.out (fun h => by have := h.2.1 h7; rw [hke.out] at this; exact h8 this))
            have h8' : ((yp.ks.count (k : Int) : Int) == 1) = false := intNe (by omega)
            have h8'' : ((yp.ks.count (k : Int) : Int) != 1) = true := by rw [bne, h8']; rfl
            go_wp2_with fail
            refine (count_at yp.ks vk9 k zp _ hks9).mono ?_
            rintro e w7 ⟨rfl, rfl⟩
            go_wp2_with fail
            go_ret
            exact ⟨ret_bool hR.out.symm, hbW⟩
          have hcnt := Lib.hid (show 0 ≤ x.pa → (ksOf l x.pa).count (k : Int) = 1 from fun _ => by rw [hke.out]; exact h8)
          go_wp2_with fail
          refine (count_at yp.ks vk9 k zp _ hks9).mono ?_
          rintro e w7 ⟨rfl, rfl⟩
          rw [h8]
          go_wp2_with fail
          go_loop [5] (fun i => ∃ m : Nat, m ≤ x.ks.length ∧ i = .int .i64 m ∧ Hid (∀ c ∈ x.ks.take m, 0 ≤ c ∧ c < l.length ∧ paOf l c = k)) (fun i => x.ks.length - (intOf i).toNat)
          case atStart => exact ⟨0, Nat.zero_le _, rfl, Lib.hid (by simp)⟩
          case round =>
            obtain ⟨m, hm, rfl, hB⟩ := hrel
            by_cases hlm : m < x.ks.length
            · obtain ⟨kb, ko, kcap', kv, khb, kc0⟩ := hks.at hlm
              cases kv
              have hmem := List.getElem_mem hlm
              have hBT := Lib.hid (fun h => take_mem_snoc (P := fun c : Int => 0 ≤ c ∧ c < l.length ∧ paOf l c = k) hlm hB.out h)
              generalize x.ks[m] = c at *
              have hm0 : (0 : Int) ≤ (m : Int) := by omega
              have hm1 : (m : Int) < (x.ks.length : Int) := by omega
              by_cases e1 : c < 0
              · have hR := Lib.hid (hF.out (fun h => by have := (h.2.2 c hmem).1; omega))
                go_wp2_with fail
                go_ret
                exact ⟨ret_bool hR.out.symm, hbW⟩
              have e1' : decide (c < 0) = false := decide_eq_false e1
              by_cases e2 : (l.length : Int) ≤ c
              · have hR := Lib.hid (hF.out (fun h => by have := (h.2.2 c hmem).2.1; omega))
                go_wp2_with fail
                go_ret
                exact ⟨ret_bool hR.out.symm, hbW⟩
              have e2' : decide ((l.length : Int) ≤ c) = false := decide_eq_false e2
              obtain ⟨q, rfl⟩ := Int.eq_ofNat_of_zero_le (show 0 ≤ c by omega)
              have hq : q < l.length := by omega
              obtain ⟨b2, o2, cap2, va2, vk2, hv2, hb2, d0, d1, d2, d3, d4, _, _⟩ := hUW.at hq
              cases hv2
              have hpq := Lib.hid (paOf_at hq)
              generalize l[q] = y2 at *
              have hq0 : (0 : Int) ≤ (q : Int) := by omega
              have hq1 : (q : Int) < (l.length : Int) := by omega
              by_cases e3 : y2.pa = k
              · have hBN := Lib.hid (hBT.out ⟨by omega, by omega, by rw [hpq.out, e3]⟩)
                rw [e3] at d3
                clear e3
                go_wp2_with fail
                exact ⟨⟨m + 1, by omega, by go_num, hBN⟩, by simp [intOf]; omega⟩
              · have hR := Lib.hid (hF.out (fun h => by have := (h.2.2 _ hmem).2.2; rw [hpq.out] at this; exact e3 this))
                have e3' : (y2.pa == (k : Int)) = false := intNe e3
                have e3'' : (y2.pa != (k : Int)) = true := by rw [bne, e3']; rfl
                clear e3
                go_wp2_with fail
                go_ret
                exact ⟨ret_bool hR.out.symm, hbW⟩
            · obtain rfl : m = x.ks.length := by omega
              have hNN := Lib.hid (hN.out ⟨⟨h4, by omega, by omega⟩, hcnt.out, by have := hB.out; rwa [List.take_of_length_le (Nat.le_refl _)] at this⟩)
              go_wp2_with fail
              go_roundw
              case rel => exact ⟨k + 1, by omega, by go_num, hNN, hbW⟩
              case measure => simp [intOf]; omega
        · have hcnt := Lib.hid (show 0 ≤ x.pa → (ksOf l x.pa).count (k : Int) = 1 from fun h => absurd h h7)
          have h7' : decide (0 ≤ x.pa) = false := decide_eq_false h7
          go_wp2_with fail
          refine (alone_any x va vk z2 z3 z0 z1 _ hat hks z4).mono ?_
          rintro e w' ⟨rfl, hb5⟩
          rw [HF.out]
          have hbW := hbel.trans (hb5.mono (by omega))
          have hUW := hU.kept hbW
          replace hat := hat.kept hb5
          replace hks := hks.kept hb5
          replace c0 := cellK hb5 hb c0
          replace c1 := cellK hb5 hb c1
          replace c2 := cellK hb5 hb c2
          replace c3 := cellK hb5 hb c3
          replace c4 := cellK hb5 hb c4
          obtain ⟨ka, kcap, rfl⟩ := hks.len
          go_wp2_with fail
          go_loop [5] (fun i => ∃ m : Nat, m ≤ x.ks.length ∧ i = .int .i64 m ∧ Hid (∀ c ∈ x.ks.take m, 0 ≤ c ∧ c < l.length ∧ paOf l c = k)) (fun i => x.ks.length - (intOf i).toNat)
          case atStart => exact ⟨0, Nat.zero_le _, rfl, Lib.hid (by simp)⟩
          case round =>
            obtain ⟨m, hm, rfl, hB⟩ := hrel
            by_cases hlm : m < x.ks.length
            · obtain ⟨kb, ko, kcap', kv, khb, kc0⟩ := hks.at hlm
              cases kv
              have hmem := List.getElem_mem hlm
              have hBT := Lib.hid (fun h => take_mem_snoc (P := fun c : Int => 0 ≤ c ∧ c < l.length ∧ paOf l c = k) hlm hB.out h)
              generalize x.ks[m] = c at *
              have hm0 : (0 : Int) ≤ (m : Int) := by omega
              have hm1 : (m : Int) < (x.ks.length : Int) := by omega
              by_cases e1 : c < 0
              · have hR := Lib.hid (hF.out (fun h => by have := (h.2.2 c hmem).1; omega))
                go_wp2_with fail
                go_ret
                exact ⟨ret_bool hR.out.symm, hbW⟩
              have e1' : decide (c < 0) = false := decide_eq_false e1
              by_cases e2 : (l.length : Int) ≤ c
              · have hR := Lib.hid (hF.out (fun h => by have := (h.2.2 c hmem).2.1; omega))
                go_wp2_with fail
                go_ret
                exact ⟨ret_bool hR.out.symm, hbW⟩
              have e2' : decide ((l.length : Int) ≤ c) = false := decide_eq_false e2
              obtain ⟨q, rfl⟩ := Int.eq_ofNat_of_zero_le (show 0 ≤ c by omega)
              have hq : q < l.length := by omega
              obtain ⟨b2, o2, cap2, va2, vk2, hv2, hb2, d0, d1, d2, d3, d4, _, _⟩ := hUW.at hq
              cases hv2
              have hpq := Lib.hid (paOf_at hq)
              generalize l[q] = y2 at *
              have hq0 : (0 : Int) ≤ (q : Int) := by omega
              have hq1 : (q : Int) < (l.length : Int) := by omega
              by_cases e3 : y2.pa = k
              · have hBN := Lib.hid (hBT.out ⟨by omega, by omega, by rw [hpq.out, e3]⟩)
                rw [e3] at d3
                clear e3
                go_wp2_with fail
                exact ⟨⟨m + 1, by omega, by go_num, hBN⟩, by simp [intOf]; omega⟩
              · have hR := Lib.hid (hF.out (fun h => by have := (h.2.2 _ hmem).2.2; rw [hpq.out] at this; exact e3 this))
                have e3' : (y2.pa == (k : Int)) = false := intNe e3
                have e3'' : (y2.pa != (k : Int)) = true := by rw [bne, e3']; rfl
                clear e3
                go_wp2_with fail
                go_ret
                exact ⟨ret_bool hR.out.symm, hbW⟩
            · obtain rfl : m = x.ks.length := by omega
              have hNN := Lib.hid (hN.out ⟨⟨h4, by omega, by omega⟩, hcnt.out, by have := hB.out; rwa [List.take_of_length_le (Nat.le_refl _)] at this⟩)
              go_wp2_with fail
              go_roundw
              case rel => exact ⟨k + 1, by omega, by go_num, hNN, hbW⟩
              case measure => simp [intOf]; omega
    · obtain rfl : k = l.length := by omega
      have hUr := hU.kept hbel
      go_wp2_with fail
      go_loop [7] (fun i => ∃ k : Nat, k ≤ l.length ∧ i = .int .i64 k ∧ Hid (∀ i : Nat, i < k → upN l (l.length + 1) i < 0)) (fun i => l.length - (intOf i).toNat)
      case atStart => exact ⟨0, Nat.zero_le _, rfl, Lib.hid (fun j hj => by omega)⟩
      case round =>
        obtain ⟨k, hk, rfl, hC⟩ := hrel
        by_cases hlt : k < l.length
        · have hk1 : (k : Int) < (l.length : Int) := by omega
          have hCN := Lib.hid (fun (h : upN l (l.length + 1) k < 0) => show ∀ i : Nat, i < k + 1 → upN l (l.length + 1) i < 0 from fun j hj => by
            by_cases e : j = k
            · rw [e]; exact h
            · exact hC.out j (by omega))
          have hCF := Lib.hid (fun (h : ¬ upN l (l.length + 1) k < 0) => rightB_no (fun H : RightP l => h (H.climb k hlt)))
          go_wp2_with fail
          go_loop [8, 9] (fun c n => ∃ (m : Nat) (z : Int), m ≤ l.length + 1 ∧ n = .int .i64 m ∧ c = .int .i64 z ∧ z < l.length ∧ Hid (upN l (l.length + 1 - m) z = upN l (l.length + 1) k)) (fun _ n => l.length + 1 - (intOf n).toNat)
          case atStart => exact ⟨0, k, Nat.zero_le _, rfl, rfl, hk1, Lib.hid rfl⟩
          case round =>
            obtain ⟨m, z, hm, rfl, rfl, hzl, hD⟩ := hrel
            by_cases f1 : z < 0
            · have hNN := Lib.hid (hCN.out (by rw [← hD.out, upN_neg l f1]; exact f1))
              have f1' : decide (0 ≤ z) = false := decide_eq_false (by omega)
              go_wp2_with fail
              exact ⟨⟨k + 1, by omega, by go_num, hNN⟩, by simp [intOf]; omega⟩
            have f1' : 0 ≤ z := by omega
            by_cases f2 : m ≤ l.length
            · obtain ⟨q, rfl⟩ := Int.eq_ofNat_of_zero_le f1'
              have hq : q < l.length := by omega
              have hDN := Lib.hid (show upN l (l.length + 1 - (m + 1)) l[q].pa = upN l (l.length + 1) k by
                rw [← hD.out, show l.length + 1 - m = (l.length + 1 - (m + 1)) + 1 by omega, upN_step l f1', paOf_at hq])
              obtain ⟨b2, o2, cap2, va2, vk2, hv2, hb2, d0, d1, d2, d3, d4, _, _⟩ := hUr.at hq
              cases hv2
              have hpal := (hA.out q hq _ (List.getElem?_eq_getElem hq)).1.2.2
              generalize l[q] = y2 at *
              have hq0 : (0 : Int) ≤ (q : Int) := by omega
              have hq1 : (q : Int) < (l.length : Int) := by omega
              have f2' : (m : Int) ≤ (l.length : Int) := by omega
              go_wp2_with fail
              exact ⟨⟨m + 1, y2.pa, by omega, by go_num, rfl, hpal, hDN⟩, by simp [intOf]; omega⟩
            · obtain rfl : m = l.length + 1 := by omega
              have hR := Lib.hid (hCF.out (by rw [← hD.out, Nat.sub_self, show upN l 0 z = z by unfold upN; rfl]; omega))
              have f2' : decide (((l.length + 1 : Nat) : Int) ≤ (l.length : Int)) = false := decide_eq_false (by omega)
              go_wp2_with fail
              go_ret
              exact ⟨ret_bool hR.out.symm, hbel⟩
        · obtain rfl : k = l.length := by omega
          have hR := Lib.hid (rightB_yes (l := l) ⟨hpos, by omega, hTT.out, fun i x hx => (hA.out i (List.getElem?_eq_some_iff.1 hx).1 x hx).1, fun i x hx => (hA.out i (List.getElem?_eq_some_iff.1 hx).1 x hx).2.2, fun i x hx => (hA.out i (List.getElem?_eq_some_iff.1 hx).1 x hx).2.1, hC.out⟩)
          go_wp2_with fail
          go_ret
          exact ⟨ret_bool hR.out.symm, hbel⟩
end Go.Proofs.YtafbghlldlconaaGreat

/-
  RIGHT DOCUMENTS: tree.Right: the walk.
-/
namespace Go.Proofs.YtafbghlldlconaaGreat
set_option linter.unusedVariables false
set_option linter.unusedSimpArgs false
open Go.RowKit PT

/-- a row of marks -/
def row (n : Nat) (f : Nat → Bool) : Array Value := ((List.range n).map fun c => Value.bool (f c)).toArray
theorem row_size (n : Nat) (f : Nat → Bool) : (row n f).size = n := by simp [row]
theorem row_get {n : Nat} (f : Nat → Bool) {q : Nat} (hq : q < n) : (row n f)[q]? = some (.bool (f q)) := by simp [row, hq]
theorem row_made (n : Nat) : madeCells #[.bool false] n = row n (fun _ => false) := by
  apply Array.ext_getElem?
  intro j
  by_cases hj : j < n
  · simp [row, madeCells, hj, Nat.mod_one]
  · simp [row, madeCells, hj]
theorem row_set {n : Nat} (f : Nat → Bool) (q : Nat) : (row n f).setIfInBounds q (.bool true) = row n (fun c => decide (c = q) || f c) := by
  apply Array.ext_getElem?
  intro j
  rw [Array.getElem?_setIfInBounds]
  by_cases hj : j < n
  · by_cases e : q = j
    · subst e; rw [if_pos rfl, row_size, if_pos hj, row_get _ hj, decide_eq_true rfl]; rfl
    · rw [if_neg e, row_get _ hj, row_get _ hj, decide_eq_false (fun h => e h.symm)]; rfl
  · rw [Array.getElem?_eq_none (by rw [row_size]; omega), Array.getElem?_eq_none (xs := row n _) (by rw [row_size]; omega)]
    rw [row_size]
    by_cases e : q = j
    · rw [if_pos e, if_neg (by omega)]
    · rw [if_neg e]
/-- a node of a right document, by the program -/
def okP (l : List Nd) (j : Nat) : Prop := ∀ x, l[j]? = some x → (oneB x = true ∧ -1 ≤ x.pa ∧ x.pa < l.length) ∧ (∀ c : Nat, x.ks.count (c : Int) ≤ 1) ∧ ∀ c ∈ x.ks, 0 ≤ c ∧ c < l.length ∧ paOf l c = j
theorem RightP.okP {l : List Nd} (h : RightP l) (j : Nat) : okP l j := fun x hx => ⟨h.node j x hx, ((once_iff l h.kids (fun i x hx => (h.node i x hx).2.2)).1 h.once).1 j x hx, h.kids j x hx⟩
theorem RightP.sum {l : List Nd} (h : RightP l) : paS l l.length = ksS l l.length := ((once_iff l h.kids (fun i x hx => (h.node i x hx).2.2)).1 h.once).2
theorem paS_succ (l : List Nd) (n : Nat) : paS l (n + 1) = paS l n + if 0 ≤ paOf l n then 1 else 0 := rfl
theorem ksS_succ (l : List Nd) (n : Nat) : ksS l (n + 1) = ksS l n + (ksOf l n).length := rfl
theorem make_bool (n : Nat) (hn : n ≤ 400) (W : World) : (Instr.makeSlice 75 (.int .i64 (n : Int)) (.int .i64 (n : Int))).run Tryz.prog W = .ok (.slice (some ⟨W.heap.size, 0, none⟩) n n) (W.alloc (.cells (row n (fun _ => false)) 4)) := by
  rw [← row_made]
  exact run_make_row' (P := Tryz.prog) 75 4 (.bool false) 1 (by kernel_rfl) (by kernel_rfl) rfl .i64 .i64 n (by omega) (by omega) W
set_option maxHeartbeats 8000000 in
set_option maxRecDepth 100000 in
theorem right_any (l : List Nd) (v : Value) (hl : l.length ≤ 1000000000000000000) (hz : ∀ x ∈ l, Fits x) (w : World) (hU : Nodes l v w) :
    Calls Tryz.prog 27 #[v] w fun e w' => e = .returned (.bool (rightB l)) ∧ Below w.heap.size w w' := by
  obtain ⟨a, cap, rfl⟩ := hU.len
  by_cases h0 : l.length = 0
  · have hR := Lib.hid (rightB_no (fun h : RightP l => by have := h.pos; omega))
    have h0' : ((l.length : Int) == 0) = true := by rw [h0]; rfl
    go_enter Tryz.func27, Tryz.ntmps27
    go_wp2_with fail
    go_ret
    exact ⟨ret_bool hR.out.symm, Below.refl _ _⟩
  have h0' : ((l.length : Int) == 0) = false := intNe (by omega)
  by_cases h1 : 400 < l.length
  · have hR := Lib.hid (rightB_no (fun h : RightP l => by have := h.max; omega))
    have h1' : (400 : Int) < (l.length : Int) := by omega
    go_enter Tryz.func27, Tryz.ntmps27
    go_wp2_with fail
    go_ret
    exact ⟨ret_bool hR.out.symm, Below.refl _ _⟩
  have h1' : decide ((400 : Int) < (l.length : Int)) = false := decide_eq_false (by omega)
  have hpos : 0 < l.length := by omega
  obtain ⟨b, o, cap', va, vk, hv, hb, c0, c1, c2, c3, c4, hat, hks⟩ := hU.at hpos
  cases hv
  have hx0 : l[0]? = some l[0] := List.getElem?_eq_getElem hpos
  have hTop := Lib.hid (fun (h : RightP l) => h.top _ hx0)
  have hTop2 := Lib.hid (fun (h : l[0].nm.size ≠ 0 ∧ l[0].pa = -1) => show ∀ x, l[0]? = some x → x.nm.size ≠ 0 ∧ x.pa = -1 from fun x hx => by rw [hx0] at hx; cases hx; exact h)
  have hp0 : (0 : Int) < (l.length : Int) := by omega
  rw [Nat.zero_mul, Nat.add_zero] at c0 c1 c2 c3 c4
  clear hx0 hat hks c1 c2 c4
  generalize l[0] = y at *
  by_cases h2 : y.nm.size = 0
  · have hR := Lib.hid (rightB_no (fun h : RightP l => (hTop.out h).1 h2))
    have h2' := emp_yes h2
    have h2'' := empt_yes h2
    clear h2
    go_enter Tryz.func27, Tryz.ntmps27
    go_wp2_with fail
    go_ret
    exact ⟨ret_bool hR.out.symm, Below.refl _ _⟩
  have h2' := emp_no h2
  have h2'' := empt_no h2
  by_cases h3 : y.pa = -1
  case neg =>
    have hR := Lib.hid (rightB_no (fun h : RightP l => h3 (hTop.out h).2))
    have h3' : (y.pa == -1) = false := intNe h3
    have h3'' : (y.pa != -1) = true := by rw [bne, h3']; rfl
    clear h2 h3
    go_enter Tryz.func27, Tryz.ntmps27
    go_wp2_with fail
    go_ret
    exact ⟨ret_bool hR.out.symm, Below.refl _ _⟩
  have hTT := Lib.hid (hTop2.out ⟨h2, h3⟩)
  rw [h3] at c3
  clear hTop hTop2 h2 h3
  have hmk := make_bool l.length (by omega)
  have hn0 := Go.heap_alloc_new w (.cells (row l.length (fun _ => false)) 4)
  have hb0 := (Below.refl w.heap.size w).alloc (Nat.le_refl _) (.cells (row l.length (fun _ => false)) 4)
  have hs0 : (w.alloc (.cells (row l.length (fun _ => false)) 4)).heap.size = w.heap.size + 1 := by simp
  go_enter Tryz.func27, Tryz.ntmps27
  go_upto_region 5 with fail
  generalize World.alloc _ _ = W0 at hn0 hb0 hs0 ⊢
  go_wp2_with fail
  go_loopw [3, 39] (fun mt i wr => ∃ (k : Nat) (M : Int) (f : Nat → Bool), k ≤ l.length ∧ i = .int .i64 k ∧ mt = .int .i64 M ∧ M ≤ k ∧ -(1000000000000000 * (k : Int)) ≤ M ∧ Hid (M = (paS l k : Int) - ksS l k) ∧ Hid (∀ j, j < k → okP l j) ∧
    Hid (∀ c, c < l.length → (f c = true ↔ ∃ j, j < k ∧ (c : Int) ∈ ksOf l j)) ∧ wr.heap[w.heap.size]? = some (.cells (row l.length f) 4 (0, 0)) ∧ Below w.heap.size w wr ∧ w.heap.size < wr.heap.size) (fun _ i _ => l.length - (intOf i).toNat)
  case atStart => exact ⟨0, 0, fun _ => false, Nat.zero_le _, rfl, rfl, by omega, by omega, Lib.hid rfl, Lib.hid (fun j hj => by omega), Lib.hid (fun c _ => Iff.intro (fun h => by cases h) (fun h => by obtain ⟨j, hj, _⟩ := h; omega)), hn0, hb0, by omega⟩
  case round =>
    obtain ⟨k, M, f, hk, rfl, rfl, hM1, hM2, hM, hA, hf, hrow, hbel, hgw⟩ := hrel
    have hsz := hbel.size
    by_cases hlt : k < l.length
    · obtain ⟨b, o, cap', va, vk, hv, hb, c0, c1, c2, c3, c4, hat, hks⟩ := hU.at hlt
      cases hv
      replace c0 := cellK hbel hb c0
      replace c1 := cellK hbel hb c1
      replace c2 := cellK hbel hb c2
      replace c3 := cellK hbel hb c3
      replace c4 := cellK hbel hb c4
      have hks0 := hks
      replace hat := hat.kept hbel
      replace hks := hks.kept hbel
      obtain ⟨z0, z1, z2, z3, z4⟩ := hz _ (List.getElem_mem hlt)
      have hxk : l[k]? = some l[k] := List.getElem?_eq_getElem hlt
      have hpak := Lib.hid (paOf_at hlt)
      have hksk := Lib.hid (ksOf_at hlt)
      have hF := Lib.hid (fun (h : ¬ ((oneB l[k] = true ∧ -1 ≤ l[k].pa ∧ l[k].pa < l.length) ∧ (∀ c : Nat, l[k].ks.count (c : Int) ≤ 1) ∧ ∀ c ∈ l[k].ks, 0 ≤ c ∧ c < l.length ∧ paOf l c = k)) => rightB_no (fun H : RightP l => h (H.okP k _ hxk)))
      have hN := Lib.hid (fun (h : ((oneB l[k] = true ∧ -1 ≤ l[k].pa ∧ l[k].pa < l.length) ∧ (∀ c : Nat, l[k].ks.count (c : Int) ≤ 1) ∧ ∀ c ∈ l[k].ks, 0 ≤ c ∧ c < l.length ∧ paOf l c = k)) => show ∀ j, j < k + 1 → okP l j from fun j hj => by
        by_cases e : j = k
        · intro x hx
          subst e
          rw [hxk] at hx
          cases hx
          exact h
        · exact hA.out j (by omega))
      generalize l[k] = x at *
      have hk0 : (0 : Int) ≤ (k : Int) := by omega
      have hk1 : (k : Int) < (l.length : Int) := by omega
      obtain ⟨aa, acap, rfl⟩ := hat.len
      obtain ⟨ka, kcap, rfl⟩ := hks.len
      have hn1 := Go.heap_alloc_new wr (.cells #[.string x.nm, .string x.tx, .slice aa x.ats.length acap, .int .i64 x.pa, .slice ka x.ks.length kcap] 41)
      have hba := (Below.refl wr.heap.size wr).alloc (Nat.le_refl _) (.cells #[.string x.nm, .string x.tx, .slice aa x.ats.length acap, .int .i64 x.pa, .slice ka x.ks.length kcap] 41)
      have hs1 : (wr.alloc (.cells #[.string x.nm, .string x.tx, .slice aa x.ats.length acap, .int .i64 x.pa, .slice ka x.ks.length kcap] 41)).heap.size = wr.heap.size + 1 := by simp
      go_upto_region 8 with fail
      generalize World.alloc _ _ = W1 at hn1 hba hs1 ⊢
      obtain ⟨x0, x1, x2, x3, x4, f0, f1, f2, f3, f4⟩ := five_of hn1
      have hb1 := hbel.trans (hba.mono hsz)
      replace hat := hat.kept hba
      replace hks := hks.kept hba
      cases h4 : oneB x
      · have hR := Lib.hid (hF.out (fun h => by rw [h4] at h; exact Bool.false_ne_true h.1.1))
        have HF := Lib.hid h4
        clear h4
        go_wp2_with fail
        refine (one_any x (.slice aa x.ats.length acap) (.slice ka x.ks.length kcap) z2 (Nat.le_trans z3 (by omega)) z1 _ hat hks (fun a ha => (z4 a ha).2)).mono ?_
        rintro e w' ⟨rfl, hb5⟩
        rw [HF.out]
        go_wp2_with fail
        go_ret
        exact ⟨ret_bool hR.out.symm, hb1.trans (hb5.mono (by omega))⟩
      have HF := Lib.hid h4
      by_cases h5 : x.pa < -1
      · have hR := Lib.hid (hF.out (fun h => by omega))
        clear h4
        go_wp2_with fail
        refine (one_any x (.slice aa x.ats.length acap) (.slice ka x.ks.length kcap) z2 (Nat.le_trans z3 (by omega)) z1 _ hat hks (fun a ha => (z4 a ha).2)).mono ?_
        rintro e w' ⟨rfl, hb5⟩
        have y3 := cellK hb5 (by omega) x3
        rw [HF.out]
        go_wp2_with fail
        go_ret
        exact ⟨ret_bool hR.out.symm, hb1.trans (hb5.mono (by omega))⟩
      have h5' : decide (x.pa < -1) = false := decide_eq_false h5
      by_cases h6 : (l.length : Int) ≤ x.pa
      · have hR := Lib.hid (hF.out (fun h => by omega))
        clear h4
        go_wp2_with fail
        refine (one_any x (.slice aa x.ats.length acap) (.slice ka x.ks.length kcap) z2 (Nat.le_trans z3 (by omega)) z1 _ hat hks (fun a ha => (z4 a ha).2)).mono ?_
        rintro e w' ⟨rfl, hb5⟩
        have y3 := cellK hb5 (by omega) x3
        rw [HF.out]
        go_wp2_with fail
        go_ret
        exact ⟨ret_bool hR.out.symm, hb1.trans (hb5.mono (by omega))⟩
      have h6' : decide ((l.length : Int) ≤ x.pa) = false := decide_eq_false h6
      have hMs : ∃ e : Int, 0 ≤ e ∧ e ≤ 1 ∧ Hid (M + e - x.ks.length = (paS l (k + 1) : Int) - ksS l (k + 1)) ∧ Hid (e = if 0 ≤ x.pa then 1 else 0) := by
        refine ⟨if 0 ≤ x.pa then 1 else 0, by split <;> omega, by split <;> omega, Lib.hid ?_, Lib.hid rfl⟩
        rw [paS_succ, ksS_succ, hpak.out, hksk.out, hM.out]
        split <;> omega
      obtain ⟨e, he0, he1, hME, hee⟩ := hMs
      by_cases h7 : 0 ≤ x.pa
      · have he : e = 1 := by rw [hee.out, if_pos h7]
        subst he
        clear hee
        go_wp2_with fail
        refine (one_any x (.slice aa x.ats.length acap) (.slice ka x.ks.length kcap) z2 (Nat.le_trans z3 (by omega)) z1 _ hat hks (fun a ha => (z4 a ha).2)).mono ?_
        rintro e w' ⟨rfl, hb5⟩
        have y3 := cellK hb5 (by omega) x3
        have y4 := cellK hb5 (by omega) x4
        have hbW := hb1.trans (hb5.mono (by omega))
        have hrW := (hb5.mono (by omega : wr.heap.size ≤ _)).block w.heap.size hgw
        have hrW1 := hba.block w.heap.size hgw
        rw [hrW1, hrow] at hrW
        replace hks := hks.kept hb5
        have hgW := hb5.size
        rw [HF.out]
        go_wp2_with fail
        go_loopw [3, 67] (fun mt i wi => ∃ (m : Nat) (g : Nat → Bool), m ≤ x.ks.length ∧ i = .int .i64 m ∧ mt = .int .i64 (M + 1 - m) ∧ Hid (∀ c ∈ x.ks.take m, 0 ≤ c ∧ c < l.length ∧ paOf l c = k) ∧ Hid (∀ c : Nat, (x.ks.take m).count (c : Int) ≤ 1) ∧
          Hid (∀ c, c < l.length → (g c = true ↔ (∃ j, j < k ∧ (c : Int) ∈ ksOf l j) ∨ (c : Int) ∈ x.ks.take m)) ∧ wi.heap[w.heap.size]? = some (.cells (row l.length g) 4 (0, 0)) ∧ Below w.heap.size w wi ∧ w.heap.size < wi.heap.size) (fun _ i _ => x.ks.length - (intOf i).toNat)
        case atStart => exact ⟨0, f, Nat.zero_le _, rfl, by go_num, Lib.hid (by simp), Lib.hid (by simp), Lib.hid (fun c hc => by rw [hf.out c hc]; simp), hrW, hbW, by omega⟩
        case round =>
          obtain ⟨m, g, hm, rfl, rfl, hB, hC1, hg, hrow2, hbi, hgi⟩ := hrel
          by_cases hlm : m < x.ks.length
          · obtain ⟨kb, ko, kcap', kv, khb, kc0⟩ := (hks0.kept hbi).at hlm
            cases kv
            have hmem := List.getElem_mem hlm
            have hBT := Lib.hid (fun h => take_mem_snoc (P := fun c : Int => 0 ≤ c ∧ c < l.length ∧ paOf l c = k) hlm hB.out h)
            have hcs := Lib.hid (fun c : Int => count_snoc c hlm)
            have hms := Lib.hid (show ∀ c : Int, c ∈ x.ks.take (m + 1) ↔ c ∈ x.ks.take m ∨ c = x.ks[m] from fun c => by
              rw [List.take_add_one, List.mem_append, List.getElem?_eq_getElem hlm]; simp)
            generalize x.ks[m] = c at *
            have hm0 : (0 : Int) ≤ (m : Int) := by omega
            have hm1 : (m : Int) < (x.ks.length : Int) := by omega
            have hz3 : (x.ks.length : Int) ≤ 1000000000000000 := by omega
            by_cases e1 : c < 0
            · have hR := Lib.hid (hF.out (fun h => by have := (h.2.2 c hmem).1; omega))
              go_wp2_with fail
              go_ret
              exact ⟨ret_bool hR.out.symm, hbi⟩
            have e1' : decide (c < 0) = false := decide_eq_false e1
            by_cases e2 : (l.length : Int) ≤ c
            · have hR := Lib.hid (hF.out (fun h => by have := (h.2.2 c hmem).2.1; omega))
              go_wp2_with fail
              go_ret
              exact ⟨ret_bool hR.out.symm, hbi⟩
            have e2' : decide ((l.length : Int) ≤ c) = false := decide_eq_false e2
            obtain ⟨q, rfl⟩ := Int.eq_ofNat_of_zero_le (show 0 ≤ c by omega)
            have hq : q < l.length := by omega
            have u0 : wr.cell? ⟨w.heap.size, q, none⟩ = some (.bool (g q)) := by simp [World.cell?, hrow2, row_get g hq]
            have u1 : wr.frozen? ⟨w.heap.size, q, none⟩ = false := by simp [World.frozen?, hrow2]
            obtain ⟨b2, o2, cap2, va2, vk2, hv2, hb2, d0, d1, d2, d3, d4, _, _⟩ := (hU.kept hbi).at hq
            cases hv2
            have hpq := Lib.hid (paOf_at hq)
            generalize l[q] = y2 at *
            have hq0 : (0 : Int) ≤ (q : Int) := by omega
            have hq1 : (q : Int) < (l.length : Int) := by omega
            cases gq : g q
            · rw [gq] at u0
              by_cases e3 : y2.pa = k
              · have hBN := Lib.hid (hBT.out ⟨by omega, by omega, by rw [hpq.out, e3]⟩)
                have hnq : (q : Int) ∉ x.ks.take m := fun h => by
                  have := (hg.out q hq).2 (.inr h)
                  rw [gq] at this; exact Bool.false_ne_true this
                have hCN := Lib.hid (show ∀ c : Nat, (x.ks.take (m + 1)).count (c : Int) ≤ 1 from fun c => by
                  rw [hcs.out]
                  by_cases e : (q : Int) = c
                  · rw [if_pos e, ← e, List.count_eq_zero.2 hnq]; omega
                  · rw [if_neg e]; exact hC1.out c)
                have hgN := Lib.hid (show ∀ c, c < l.length → ((decide (c = q) || g c) = true ↔ (∃ j, j < k ∧ (c : Int) ∈ ksOf l j) ∨ (c : Int) ∈ x.ks.take (m + 1)) from fun c hc => by
                  rw [hms.out, Bool.or_eq_true, decide_eq_true_iff, hg.out c hc]
                  constructor
                  · rintro (h | h | h)
                    · exact .inr (.inr (by omega))
                    · exact .inl h
                    · exact .inr (.inl h)
                  · rintro (h | h | h)
                    · exact .inr (.inl h)
                    · exact .inr (.inr h)
                    · exact .inl (by omega))
                rw [e3] at d3
                clear e3 gq hnq
                go_wp2_with fail
                exact ⟨⟨m + 1, fun c => decide (c = q) || g c, by omega, by go_num, by go_num, hBN, hCN, hgN, (setCell_heap _ hrow2).trans (by rw [row_set]), hbi.setCell (p := ⟨w.heap.size, q, none⟩) (Nat.le_refl _) _, by simpa using hgi⟩, by simp [intOf]; omega⟩
              · have hR := Lib.hid (hF.out (fun h => by have := (h.2.2 _ hmem).2.2; rw [hpq.out] at this; exact e3 this))
                have e3' : (y2.pa == (k : Int)) = false := intNe e3
                have e3'' : (y2.pa != (k : Int)) = true := by rw [bne, e3']; rfl
                clear e3 gq
                go_wp2_with fail
                go_ret
                exact ⟨ret_bool hR.out.symm, hbi⟩
            · rw [gq] at u0
              have hR := Lib.hid (rightB_no (fun H : RightP l => by
                rcases (hg.out q hq).1 gq with ⟨j, hj, hm⟩ | hm
                · have hjl : j < l.length := by omega
                  rw [ksOf_at hjl] at hm
                  have e1 := (H.kids j _ (List.getElem?_eq_getElem hjl) _ hm).2.2
                  have e2 := (H.kids k x hxk _ hmem).2.2
                  omega
                · have h1 := (H.okP k x hxk).2.1 q
                  have h2 := hcs.out q
                  have h3 := List.count_pos_iff.2 hm
                  have h4 := (List.take_sublist (m + 1) x.ks).count_le (q : Int)
                  rw [if_pos rfl] at h2
                  omega))
              clear gq
              go_wp2_with fail
              go_ret
              exact ⟨ret_bool hR.out.symm, hbi⟩
          · obtain rfl : m = x.ks.length := by omega
            have hNN := Lib.hid (hN.out ⟨⟨h4, by omega, by omega⟩, fun c => by have := hC1.out c; rwa [List.take_of_length_le (Nat.le_refl _)] at this, by have := hB.out; rwa [List.take_of_length_le (Nat.le_refl _)] at this⟩)
            have hgN := Lib.hid (show ∀ c, c < l.length → (g c = true ↔ ∃ j, j < k + 1 ∧ (c : Int) ∈ ksOf l j) from fun c hc => by
              rw [hg.out c hc, List.take_of_length_le (Nat.le_refl _)]
              constructor
              · rintro (⟨j, hj, h⟩ | h)
                · exact ⟨j, by omega, h⟩
                · exact ⟨k, by omega, by rw [hksk.out]; exact h⟩
              · rintro ⟨j, hj, h⟩
                by_cases e : j = k
                · subst e; rw [hksk.out] at h; exact .inr h
                · exact .inl ⟨j, by omega, h⟩)
            go_wp2_with fail
            go_roundw
            case rel => exact ⟨k + 1, M + 1 - x.ks.length, g, by omega, by go_num, rfl, by omega, by omega, hME, hNN, hgN, hrow2, hbi, hgi⟩
            case measure => simp [intOf]; omega
      · have he : e = 0 := by rw [hee.out, if_neg h7]
        subst he
        have h7' : decide (0 ≤ x.pa) = false := decide_eq_false h7
        clear hee
        go_wp2_with fail
        refine (one_any x (.slice aa x.ats.length acap) (.slice ka x.ks.length kcap) z2 (Nat.le_trans z3 (by omega)) z1 _ hat hks (fun a ha => (z4 a ha).2)).mono ?_
        rintro e w' ⟨rfl, hb5⟩
        have y3 := cellK hb5 (by omega) x3
        have y4 := cellK hb5 (by omega) x4
        have hbW := hb1.trans (hb5.mono (by omega))
        have hrW := (hb5.mono (by omega : wr.heap.size ≤ _)).block w.heap.size hgw
        have hrW1 := hba.block w.heap.size hgw
        rw [hrW1, hrow] at hrW
        replace hks := hks.kept hb5
        have hgW := hb5.size
        rw [HF.out]
        go_wp2_with fail
        go_loopw [3, 67] (fun mt i wi => ∃ (m : Nat) (g : Nat → Bool), m ≤ x.ks.length ∧ i = .int .i64 m ∧ mt = .int .i64 (M + 0 - m) ∧ Hid (∀ c ∈ x.ks.take m, 0 ≤ c ∧ c < l.length ∧ paOf l c = k) ∧ Hid (∀ c : Nat, (x.ks.take m).count (c : Int) ≤ 1) ∧
          Hid (∀ c, c < l.length → (g c = true ↔ (∃ j, j < k ∧ (c : Int) ∈ ksOf l j) ∨ (c : Int) ∈ x.ks.take m)) ∧ wi.heap[w.heap.size]? = some (.cells (row l.length g) 4 (0, 0)) ∧ Below w.heap.size w wi ∧ w.heap.size < wi.heap.size) (fun _ i _ => x.ks.length - (intOf i).toNat)
        case atStart => exact ⟨0, f, Nat.zero_le _, rfl, by go_num, Lib.hid (by simp), Lib.hid (by simp), Lib.hid (fun c hc => by rw [hf.out c hc]; simp), hrW, hbW, by omega⟩
        case round =>
          obtain ⟨m, g, hm, rfl, rfl, hB, hC1, hg, hrow2, hbi, hgi⟩ := hrel
          by_cases hlm : m < x.ks.length
          · obtain ⟨kb, ko, kcap', kv, khb, kc0⟩ := (hks0.kept hbi).at hlm
            cases kv
            have hmem := List.getElem_mem hlm
            have hBT := Lib.hid (fun h => take_mem_snoc (P := fun c : Int => 0 ≤ c ∧ c < l.length ∧ paOf l c = k) hlm hB.out h)
            have hcs := Lib.hid (fun c : Int => count_snoc c hlm)
            have hms := Lib.hid (show ∀ c : Int, c ∈ x.ks.take (m + 1) ↔ c ∈ x.ks.take m ∨ c = x.ks[m] from fun c => by
              rw [List.take_add_one, List.mem_append, List.getElem?_eq_getElem hlm]; simp)
            generalize x.ks[m] = c at *
            have hm0 : (0 : Int) ≤ (m : Int) := by omega
            have hm1 : (m : Int) < (x.ks.length : Int) := by omega
            have hz3 : (x.ks.length : Int) ≤ 1000000000000000 := by omega
            by_cases e1 : c < 0
            · have hR := Lib.hid (hF.out (fun h => by have := (h.2.2 c hmem).1; omega))
              go_wp2_with fail
              go_ret
              exact ⟨ret_bool hR.out.symm, hbi⟩
            have e1' : decide (c < 0) = false := decide_eq_false e1
            by_cases e2 : (l.length : Int) ≤ c
            · have hR := Lib.hid (hF.out (fun h => by have := (h.2.2 c hmem).2.1; omega))
              go_wp2_with fail
              go_ret
              exact ⟨ret_bool hR.out.symm, hbi⟩
            have e2' : decide ((l.length : Int) ≤ c) = false := decide_eq_false e2
            obtain ⟨q, rfl⟩ := Int.eq_ofNat_of_zero_le (show 0 ≤ c by omega)
            have hq : q < l.length := by omega
            have u0 : wr.cell? ⟨w.heap.size, q, none⟩ = some (.bool (g q)) := by simp [World.cell?, hrow2, row_get g hq]
            have u1 : wr.frozen? ⟨w.heap.size, q, none⟩ = false := by simp [World.frozen?, hrow2]
            obtain ⟨b2, o2, cap2, va2, vk2, hv2, hb2, d0, d1, d2, d3, d4, _, _⟩ := (hU.kept hbi).at hq
            cases hv2
            have hpq := Lib.hid (paOf_at hq)
            generalize l[q] = y2 at *
            have hq0 : (0 : Int) ≤ (q : Int) := by omega
            have hq1 : (q : Int) < (l.length : Int) := by omega
            cases gq : g q
            · rw [gq] at u0
              by_cases e3 : y2.pa = k
              · have hBN := Lib.hid (hBT.out ⟨by omega, by omega, by rw [hpq.out, e3]⟩)
                have hnq : (q : Int) ∉ x.ks.take m := fun h => by
                  have := (hg.out q hq).2 (.inr h)
                  rw [gq] at this; exact Bool.false_ne_true this
                have hCN := Lib.hid (show ∀ c : Nat, (x.ks.take (m + 1)).count (c : Int) ≤ 1 from fun c => by
                  rw [hcs.out]
                  by_cases e : (q : Int) = c
                  · rw [if_pos e, ← e, List.count_eq_zero.2 hnq]; omega
                  · rw [if_neg e]; exact hC1.out c)
                have hgN := Lib.hid (show ∀ c, c < l.length → ((decide (c = q) || g c) = true ↔ (∃ j, j < k ∧ (c : Int) ∈ ksOf l j) ∨ (c : Int) ∈ x.ks.take (m + 1)) from fun c hc => by
                  rw [hms.out, Bool.or_eq_true, decide_eq_true_iff, hg.out c hc]
                  constructor
                  · rintro (h | h | h)
                    · exact .inr (.inr (by omega))
                    · exact .inl h
                    · exact .inr (.inl h)
                  · rintro (h | h | h)
                    · exact .inr (.inl h)
                    · exact .inr (.inr h)
                    · exact .inl (by omega))
                rw [e3] at d3
                clear e3 gq hnq
                go_wp2_with fail
                exact ⟨⟨m + 1, fun c => decide (c = q) || g c, by omega, by go_num, by go_num, hBN, hCN, hgN, (setCell_heap _ hrow2).trans (by rw [row_set]), hbi.setCell (p := ⟨w.heap.size, q, none⟩) (Nat.le_refl _) _, by simpa using hgi⟩, by simp [intOf]; omega⟩
              · have hR := Lib.hid (hF.out (fun h => by have := (h.2.2 _ hmem).2.2; rw [hpq.out] at this; exact e3 this))
                have e3' : (y2.pa == (k : Int)) = false := intNe e3
                have e3'' : (y2.pa != (k : Int)) = true := by rw [bne, e3']; rfl
                clear e3 gq
                go_wp2_with fail
                go_ret
                exact ⟨ret_bool hR.out.symm, hbi⟩
            · rw [gq] at u0
              have hR := Lib.hid (rightB_no (fun H : RightP l => by
                rcases (hg.out q hq).1 gq with ⟨j, hj, hm⟩ | hm
                · have hjl : j < l.length := by omega
                  rw [ksOf_at hjl] at hm
                  have e1 := (H.kids j _ (List.getElem?_eq_getElem hjl) _ hm).2.2
                  have e2 := (H.kids k x hxk _ hmem).2.2
                  omega
                · have h1 := (H.okP k x hxk).2.1 q
                  have h2 := hcs.out q
                  have h3 := List.count_pos_iff.2 hm
                  have h4 := (List.take_sublist (m + 1) x.ks).count_le (q : Int)
                  rw [if_pos rfl] at h2
                  omega))
              clear gq
              go_wp2_with fail
              go_ret
              exact ⟨ret_bool hR.out.symm, hbi⟩
          · obtain rfl : m = x.ks.length := by omega
            have hNN := Lib.hid (hN.out ⟨⟨h4, by omega, by omega⟩, fun c => by have := hC1.out c; rwa [List.take_of_length_le (Nat.le_refl _)] at this, by have := hB.out; rwa [List.take_of_length_le (Nat.le_refl _)] at this⟩)
            have hgN := Lib.hid (show ∀ c, c < l.length → (g c = true ↔ ∃ j, j < k + 1 ∧ (c : Int) ∈ ksOf l j) from fun c hc => by
              rw [hg.out c hc, List.take_of_length_le (Nat.le_refl _)]
              constructor
              · rintro (⟨j, hj, h⟩ | h)
                · exact ⟨j, by omega, h⟩
                · exact ⟨k, by omega, by rw [hksk.out]; exact h⟩
              · rintro ⟨j, hj, h⟩
                by_cases e : j = k
                · subst e; rw [hksk.out] at h; exact .inr h
                · exact .inl ⟨j, by omega, h⟩)
            go_wp2_with fail
            go_roundw
            case rel => exact ⟨k + 1, M + 0 - x.ks.length, g, by omega, by go_num, rfl, by omega, by omega, hME, hNN, hgN, hrow2, hbi, hgi⟩
            case measure => simp [intOf]; omega
    · obtain rfl : k = l.length := by omega
      have hUr := hU.kept hbel
      by_cases hM0 : M = 0
      case neg =>
        have hR := Lib.hid (rightB_no (fun H : RightP l => by have := H.sum; have := hM.out; omega))
        have hM0' : (M == 0) = false := intNe hM0
        have hM0'' : (M != 0) = true := by rw [bne, hM0']; rfl
        go_wp2_with fail
        go_ret
        exact ⟨ret_bool hR.out.symm, hbel⟩
      have hOnce := Lib.hid ((once_iff l (fun i x hx => (hA.out i (List.getElem?_eq_some_iff.1 hx).1 x hx).2.2) (fun i x hx => (hA.out i (List.getElem?_eq_some_iff.1 hx).1 x hx).1.2.2)).2 ⟨fun i x hx => (hA.out i (List.getElem?_eq_some_iff.1 hx).1 x hx).2.1, by have := hM.out; omega⟩)
      subst hM0
      go_wp2_with fail
      go_loop [105] (fun i => ∃ k : Nat, k ≤ l.length ∧ i = .int .i64 k ∧ Hid (∀ i : Nat, i < k → upN l (l.length + 1) i < 0)) (fun i => l.length - (intOf i).toNat)
      case atStart => exact ⟨0, Nat.zero_le _, rfl, Lib.hid (fun j hj => by omega)⟩
      case round =>
        obtain ⟨k, hk, rfl, hC⟩ := hrel
        by_cases hlt : k < l.length
        · have hk1 : (k : Int) < (l.length : Int) := by omega
          have hCN := Lib.hid (fun (h : upN l (l.length + 1) k < 0) => show ∀ i : Nat, i < k + 1 → upN l (l.length + 1) i < 0 from fun j hj => by
            by_cases e : j = k
            · rw [e]; exact h
            · exact hC.out j (by omega))
          have hCF := Lib.hid (fun (h : ¬ upN l (l.length + 1) k < 0) => rightB_no (fun H : RightP l => h (H.climb k hlt)))
          go_wp2_with fail
          go_loop [10, 11] (fun c n => ∃ (m : Nat) (z : Int), m ≤ l.length + 1 ∧ n = .int .i64 m ∧ c = .int .i64 z ∧ z < l.length ∧ Hid (upN l (l.length + 1 - m) z = upN l (l.length + 1) k)) (fun _ n => l.length + 1 - (intOf n).toNat)
          case atStart => exact ⟨0, k, Nat.zero_le _, rfl, rfl, hk1, Lib.hid rfl⟩
          case round =>
            obtain ⟨m, z, hm, rfl, rfl, hzl, hD⟩ := hrel
            by_cases f1 : z < 0
            · have hNN := Lib.hid (hCN.out (by rw [← hD.out, upN_neg l f1]; exact f1))
              have f1' : decide (0 ≤ z) = false := decide_eq_false (by omega)
              go_wp2_with fail
              exact ⟨⟨k + 1, by omega, by go_num, hNN⟩, by simp [intOf]; omega⟩
            have f1' : 0 ≤ z := by omega
            by_cases f2 : m ≤ l.length
            · obtain ⟨q, rfl⟩ := Int.eq_ofNat_of_zero_le f1'
              have hq : q < l.length := by omega
              have hDN := Lib.hid (show upN l (l.length + 1 - (m + 1)) l[q].pa = upN l (l.length + 1) k by
                rw [← hD.out, show l.length + 1 - m = (l.length + 1 - (m + 1)) + 1 by omega, upN_step l f1', paOf_at hq])
              obtain ⟨b2, o2, cap2, va2, vk2, hv2, hb2, d0, d1, d2, d3, d4, _, _⟩ := hUr.at hq
              cases hv2
              have hpal := (hA.out q hq _ (List.getElem?_eq_getElem hq)).1.2.2
              generalize l[q] = y2 at *
              have hq0 : (0 : Int) ≤ (q : Int) := by omega
              have hq1 : (q : Int) < (l.length : Int) := by omega
              have f2' : decide ((l.length : Int) < (m : Int)) = false := decide_eq_false (by omega)
              go_wp2_with fail
              exact ⟨⟨m + 1, y2.pa, by omega, by go_num, rfl, hpal, hDN⟩, by simp [intOf]; omega⟩
            · obtain rfl : m = l.length + 1 := by omega
              have hR := Lib.hid (hCF.out (by rw [← hD.out, Nat.sub_self, show upN l 0 z = z by unfold upN; rfl]; omega))
              have f2' : (l.length : Int) < ((l.length + 1 : Nat) : Int) := by omega
              go_wp2_with fail
              go_ret
              exact ⟨ret_bool hR.out.symm, hbel⟩
        · obtain rfl : k = l.length := by omega
          have hR := Lib.hid (rightB_yes (l := l) ⟨hpos, by omega, hTT.out, fun i x hx => (hA.out i (List.getElem?_eq_some_iff.1 hx).1 x hx).1, fun i x hx => (hA.out i (List.getElem?_eq_some_iff.1 hx).1 x hx).2.2, hOnce.out, hC.out⟩)
          go_wp2_with fail
          go_ret
          exact ⟨ret_bool hR.out.symm, hbel⟩
end Go.Proofs.YtafbghlldlconaaGreat

/-
  GOING UP IN A RIGHT DOCUMENT: has, Top, Up, Within: the walks.
-/
namespace Go.Proofs.YtafbghlldlconaaGreat
set_option linter.unusedVariables false
set_option linter.unusedSimpArgs false
open Go.RowKit PT

set_option maxHeartbeats 4000000 in
set_option maxRecDepth 100000 in
theorem has_any (l : List Nd) (v : Value) (id : Int) (hl : l.length ≤ 1000000000000000000) (hz : ∀ x ∈ l, Fits x) (w : World) (hU : Nodes l v w) :
    Calls Tryz.prog 31 #[v, .int .i64 id] w fun e w' => e = .returned (.bool (hasB l id)) ∧ Below w.heap.size w w' := by
  obtain ⟨a, cap, rfl⟩ := hU.len
  by_cases h0 : 0 ≤ id
  case neg =>
    have hR := Lib.hid (show hasB l id = false by unfold hasB; rw [decide_eq_false h0]; rfl)
    have h0' : decide (0 ≤ id) = false := decide_eq_false h0
    go_enter Tryz.func31, Tryz.ntmps31
    go_wp2_with fail
    go_ret
    exact ⟨ret_bool hR.out.symm, Below.refl _ _⟩
  by_cases h1 : id < l.length
  case neg =>
    have hR := Lib.hid (show hasB l id = false by unfold hasB; rw [decide_eq_false h1, decide_eq_true h0]; rfl)
    have h1' : decide (id < (l.length : Int)) = false := decide_eq_false h1
    go_enter Tryz.func31, Tryz.ntmps31
    go_wp2_with fail
    go_ret
    exact ⟨ret_bool hR.out.symm, Below.refl _ _⟩
  have hR := Lib.hid (show hasB l id = rightB l by unfold hasB; rw [decide_eq_true h1, decide_eq_true h0]; rfl)
  go_enter Tryz.func31, Tryz.ntmps31
  go_wp2_with fail
  refine (right_any l _ hl hz _ hU).mono ?_
  rintro e w' ⟨rfl, hb⟩
  go_wp2_with fail
  go_ret
  exact ⟨ret_bool hR.out.symm, hb⟩
set_option maxHeartbeats 4000000 in
set_option maxRecDepth 100000 in
theorem refHas10_any (l : List Nd) (v : Value) (id : Int) (hl : l.length ≤ 1000000000000000000) (hz : ∀ x ∈ l, Fits x) (w : World) (hU : Nodes l v w) :
    Calls Tryz.prog 19 #[v, .int .i64 id] w fun e w' => e = .returned (.bool (hasB l id)) ∧ Below w.heap.size w w' := by
  obtain ⟨a, cap, rfl⟩ := hU.len
  by_cases h0 : 0 ≤ id
  case neg =>
    have hR := Lib.hid (show hasB l id = false by unfold hasB; rw [decide_eq_false h0]; rfl)
    have h0' : decide (0 ≤ id) = false := decide_eq_false h0
    go_enter Tryz.func19, Tryz.ntmps19
    go_wp2_with fail
    go_ret
    exact ⟨ret_bool hR.out.symm, Below.refl _ _⟩
  by_cases h1 : id < l.length
  case neg =>
    have hR := Lib.hid (show hasB l id = false by unfold hasB; rw [decide_eq_false h1, decide_eq_true h0]; rfl)
    have h1' : decide (id < (l.length : Int)) = false := decide_eq_false h1
    go_enter Tryz.func19, Tryz.ntmps19
    go_wp2_with fail
    go_ret
    exact ⟨ret_bool hR.out.symm, Below.refl _ _⟩
  have hR := Lib.hid (show hasB l id = rightB l by unfold hasB; rw [decide_eq_true h1, decide_eq_true h0]; rfl)
  go_enter Tryz.func19, Tryz.ntmps19
  go_wp2_with fail
  refine (refRight_any l _ hl hz _ hU).mono ?_
  rintro e w' ⟨rfl, hb⟩
  go_wp2_with fail
  go_ret
  exact ⟨ret_bool hR.out.symm, hb⟩
set_option maxHeartbeats 4000000 in
set_option maxRecDepth 100000 in
theorem top_any (l : List Nd) (v : Value) (id : Int) (hl : l.length ≤ 1000000000000000000) (hz : ∀ x ∈ l, Fits x) (w : World) (hU : Nodes l v w) :
    Calls Tryz.prog 12 #[v, .int .i64 id] w fun e w' => e = .returned (.int .i64 (topB l id)) ∧ Below w.heap.size w w' := by
  have hU0 := hU
  obtain ⟨a, cap, rfl⟩ := hU.len
  cases hh : hasB l id
  · have HH := Lib.hid hh
    have hR := Lib.hid (show topB l id = -1 by unfold topB; rw [hh]; rfl)
    clear hh
    go_enter Tryz.func12, Tryz.ntmps12
    go_wp2_with fail
    refine (has_any l _ id hl hz _ hU).mono ?_
    rintro e w' ⟨rfl, hb⟩
    rw [HH.out]
    go_wp2_with fail
    go_ret
    exact ⟨ret_int hR.out.symm, hb⟩
  have HH := Lib.hid hh
  have hR := Lib.hid (show topB l id = topF l id by unfold topB; rw [hh]; rfl)
  obtain ⟨h0, h1, hRP⟩ := (hasB_iff l id).1 hh
  obtain ⟨K, rfl⟩ := Int.eq_ofNat_of_zero_le h0
  have hkl : K < l.length := by omega
  clear hh
  go_enter Tryz.func12, Tryz.ntmps12
  go_wp2_with fail
  refine (has_any l _ _ hl hz _ hU).mono ?_
  rintro e w' ⟨rfl, hbW⟩
  rw [HH.out]
  have hUW := hU.kept hbW
  go_wp2_with fail
  go_loop [1] (fun i => ∃ k : Nat, k < l.length ∧ i = .int .i64 k ∧ Hid (topF l k = topF l (K : Nat))) (fun i => dep l (intOf i))
  case atStart => exact ⟨K, hkl, rfl, Lib.hid rfl⟩
  case round =>
    obtain ⟨k, hk, rfl, hA⟩ := hrel
    obtain ⟨b, o, cap', va, vk, hv, hb, c0, c1, c2, c3, c4, hat, hks⟩ := hUW.at hk
    cases hv
    have hp := Lib.hid (paOf_at hk)
    have hpl := (hRP.node k _ (List.getElem?_eq_getElem hk)).2
    have hd := Lib.hid (dep_lt hRP (k := (k : Int)) (by omega) (by omega))
    generalize l[k] = x at *
    have hk0 : (0 : Int) ≤ (k : Int) := by omega
    have hk1 : (k : Int) < (l.length : Int) := by omega
    by_cases h2 : 0 ≤ x.pa
    · obtain ⟨p, hpp⟩ := Int.eq_ofNat_of_zero_le h2
      rw [hpp] at c3
      have hN := Lib.hid (show topF l p = topF l (K : Nat) by rw [← hA.out, topF_go hRP hk0 hk1 (by rw [hp.out]; exact h2), hp.out, hpp])
      have hD := Lib.hid (show dep l (p : Int) < dep l (k : Int) by have := hd.out; rwa [hp.out, hpp] at this)
      have hpl2 : p < l.length := by omega
      clear h2 hpp hpl
      have h2 : (0 : Int) ≤ (p : Int) := by omega
      go_wp2_with fail
      go_round
      case rel => exact ⟨p, hpl2, rfl, hN⟩
      case measure => simp [intOf]; exact hD.out
    · have h2' : decide (0 ≤ x.pa) = false := decide_eq_false h2
      have hN := Lib.hid (show topF l (K : Nat) = k by rw [← hA.out]; exact topF_end hRP hk0 hk1 (by rw [hp.out]; omega))
      go_wp2_with fail
      go_ret
      exact ⟨ret_int (by rw [hR.out, hN.out]), hbW⟩
set_option maxHeartbeats 4000000 in
set_option maxRecDepth 100000 in
theorem refTop_any (l : List Nd) (v : Value) (K : Nat) (hkl : K < l.length) (hRP : RightP l) (w : World) (hUW : Nodes l v w) :
    Calls Tryz.prog 21 #[v, .int .i64 K] w fun e w' => e = .returned (.int .i64 (topF l K)) ∧ w = w' := by
  obtain ⟨a, cap, rfl⟩ := hUW.len
  go_enter Tryz.func21, Tryz.ntmps21
  go_wp2_with fail
  go_loop [1] (fun i => ∃ k : Nat, k < l.length ∧ i = .int .i64 k ∧ Hid (topF l k = topF l (K : Nat))) (fun i => dep l (intOf i))
  case atStart => exact ⟨K, hkl, rfl, Lib.hid rfl⟩
  case round =>
    obtain ⟨k, hk, rfl, hA⟩ := hrel
    obtain ⟨b, o, cap', va, vk, hv, hb, c0, c1, c2, c3, c4, hat, hks⟩ := hUW.at hk
    cases hv
    have hp := Lib.hid (paOf_at hk)
    have hpl := (hRP.node k _ (List.getElem?_eq_getElem hk)).2
    have hd := Lib.hid (dep_lt hRP (k := (k : Int)) (by omega) (by omega))
    generalize l[k] = x at *
    have hk0 : (0 : Int) ≤ (k : Int) := by omega
    have hk1 : (k : Int) < (l.length : Int) := by omega
    by_cases h2 : 0 ≤ x.pa
    · obtain ⟨p, hpp⟩ := Int.eq_ofNat_of_zero_le h2
      rw [hpp] at c3
      have hN := Lib.hid (show topF l p = topF l (K : Nat) by rw [← hA.out, topF_go hRP hk0 hk1 (by rw [hp.out]; exact h2), hp.out, hpp])
      have hD := Lib.hid (show dep l (p : Int) < dep l (k : Int) by have := hd.out; rwa [hp.out, hpp] at this)
      have hpl2 : p < l.length := by omega
      clear h2 hpp hpl
      have h2 : (0 : Int) ≤ (p : Int) := by omega
      go_wp2_with fail
      go_round
      case rel => exact ⟨p, hpl2, rfl, hN⟩
      case measure => simp [intOf]; exact hD.out
    · have h2' : decide (0 ≤ x.pa) = false := decide_eq_false h2
      have hN := Lib.hid (show topF l (K : Nat) = k by rw [← hA.out]; exact topF_end hRP hk0 hk1 (by rw [hp.out]; omega))
      go_wp2_with fail
      go_ret
      exact ⟨ret_int hN.out.symm, rfl⟩
set_option maxHeartbeats 4000000 in
set_option maxRecDepth 100000 in
theorem up_any (l : List Nd) (v : Value) (id : Int) (s : ByteArray) (hl : l.length ≤ 1000000000000000000) (hz : ∀ x ∈ l, Fits x) (w : World) (hU : Nodes l v w) :
    Calls Tryz.prog 38 #[v, .int .i64 id, .string s] w fun e w' => e = .returned (.int .i64 (upB l id s)) ∧ Below w.heap.size w w' := by
  obtain ⟨a, cap, rfl⟩ := hU.len
  cases hh : hasB l id
  · have HH := Lib.hid hh
    have hR := Lib.hid (show upB l id s = -1 by unfold upB; rw [hh]; rfl)
    clear hh
    go_enter Tryz.func38, Tryz.ntmps38
    go_wp2_with fail
    refine (has_any l _ id hl hz _ hU).mono ?_
    rintro e w' ⟨rfl, hb⟩
    rw [HH.out]
    go_wp2_with fail
    go_ret
    exact ⟨ret_int hR.out.symm, hb⟩
  have HH := Lib.hid hh
  have hR := Lib.hid (show upB l id s = nearF l s (paOf l id) by unfold upB; rw [hh]; rfl)
  obtain ⟨h0, h1, hRP⟩ := (hasB_iff l id).1 hh
  obtain ⟨K, rfl⟩ := Int.eq_ofNat_of_zero_le h0
  have hkl : K < l.length := by omega
  clear hh
  go_enter Tryz.func38, Tryz.ntmps38
  go_wp2_with fail
  refine (has_any l _ _ hl hz _ hU).mono ?_
  rintro e w' ⟨rfl, hbW⟩
  rw [HH.out]
  have hUW := hU.kept hbW
  obtain ⟨bK, oK, capK, vaK, vkK, hvK, hbK, g0, g1, g2, g3, g4, _, _⟩ := hUW.at hkl
  cases hvK
  have hpaK := Lib.hid (paOf_at hkl)
  have hpK := (hRP.node K _ (List.getElem?_eq_getElem hkl)).2
  generalize l[K] = y at *
  have hK0 : (0 : Int) ≤ (K : Int) := by omega
  have hK1 : (K : Int) < (l.length : Int) := by omega
  go_wp2_with fail
  go_loop [7] (fun i => ∃ z : Int, -1 ≤ z ∧ z < l.length ∧ i = .int .i64 z ∧ Hid (nearF l s z = nearF l s (paOf l (K : Nat)))) (fun i => dep l (intOf i))
  case atStart => exact ⟨_, hpK.1, hpK.2, rfl, Lib.hid (by rw [hpaK.out])⟩
  case round =>
    obtain ⟨z, hz0, hz1, rfl, hA⟩ := hrel
    by_cases h2 : 0 ≤ z
    case neg =>
      have h2' : decide (0 ≤ z) = false := decide_eq_false h2
      have hN := Lib.hid (show nearF l s (paOf l (K : Nat)) = z by rw [← hA.out, nearF_neg l s (by omega)]; omega)
      have hz' : z = -1 := by omega
      subst hz'
      go_wp2_with fail
      go_ret
      exact ⟨ret_int (by rw [hR.out, hN.out]), hbW⟩
    obtain ⟨k, rfl⟩ := Int.eq_ofNat_of_zero_le h2
    have hk : k < l.length := by omega
    obtain ⟨b, o, cap', va, vk, hv, hb, c0, c1, c2, c3, c4, hat, hks⟩ := hUW.at hk
    cases hv
    have hp := Lib.hid (paOf_at hk)
    have hnm := Lib.hid (nmOf_at hk)
    have hpl := (hRP.node k _ (List.getElem?_eq_getElem hk)).2
    have hd := Lib.hid (dep_lt hRP (k := (k : Int)) (by omega) (by omega))
    generalize l[k] = x at *
    have hk0 : (0 : Int) ≤ (k : Int) := by omega
    have hk1 : (k : Int) < (l.length : Int) := by omega
    have hD := Lib.hid (show dep l x.pa < dep l (k : Int) by have := hd.out; rwa [hp.out] at this)
    obtain ⟨hpl1, hpl2⟩ := hpl
    by_cases h3 : x.nm = s
    · have hN := Lib.hid (show nearF l s (paOf l (K : Nat)) = k by rw [← hA.out]; exact nearF_hit hRP hk0 hk1 (by rw [hnm.out]; exact h3))
      have hq := sTrue h3
      have hq2 : (x.nm.toList != s.toList) = false := by rw [bne, hq]; rfl
      clear h3
      go_wp2_with fail
      go_ret
      exact ⟨ret_int (by rw [hR.out, hN.out]), hbW⟩
    · have hN := Lib.hid (show nearF l s x.pa = nearF l s (paOf l (K : Nat)) by rw [← hA.out, nearF_go hRP hk0 hk1 (by rw [hnm.out]; exact h3), hp.out])
      have hq := sFalse h3
      have hq2 : (x.nm.toList != s.toList) = true := by rw [bne, hq]; rfl
      clear h3
      go_wp2_with fail
      go_round
      case rel => exact ⟨x.pa, hpl1, hpl2, rfl, hN⟩
      case measure => simp [intOf]; exact hD.out
set_option maxHeartbeats 4000000 in
set_option maxRecDepth 100000 in
theorem refUp_any (l : List Nd) (v : Value) (K : Nat) (s : ByteArray) (hkl : K < l.length) (hRP : RightP l) (w : World) (hUW : Nodes l v w) :
    Calls Tryz.prog 50 #[v, .int .i64 K, .string s] w fun e w' => e = .returned (.int .i64 (nearF l s (paOf l K))) ∧ w = w' := by
  obtain ⟨a, cap, rfl⟩ := hUW.len
  obtain ⟨bK, oK, capK, vaK, vkK, hvK, hbK, g0, g1, g2, g3, g4, _, _⟩ := hUW.at hkl
  cases hvK
  have hpaK := Lib.hid (paOf_at hkl)
  have hpK := (hRP.node K _ (List.getElem?_eq_getElem hkl)).2
  generalize l[K] = y at *
  have hK0 : (0 : Int) ≤ (K : Int) := by omega
  have hK1 : (K : Int) < (l.length : Int) := by omega
  go_enter Tryz.func50, Tryz.ntmps50
  go_wp2_with fail
  go_loop [7] (fun i => ∃ z : Int, -1 ≤ z ∧ z < l.length ∧ i = .int .i64 z ∧ Hid (nearF l s z = nearF l s (paOf l (K : Nat)))) (fun i => dep l (intOf i))
  case atStart => exact ⟨_, hpK.1, hpK.2, rfl, Lib.hid (by rw [hpaK.out])⟩
  case round =>
    obtain ⟨z, hz0, hz1, rfl, hA⟩ := hrel
    by_cases h2 : 0 ≤ z
    case neg =>
      have h2' : decide (0 ≤ z) = false := decide_eq_false h2
      have hN := Lib.hid (show nearF l s (paOf l (K : Nat)) = z by rw [← hA.out, nearF_neg l s (by omega)]; omega)
      have hz' : z = -1 := by omega
      subst hz'
      go_wp2_with fail
      go_ret
      exact ⟨ret_int hN.out.symm, rfl⟩
    obtain ⟨k, rfl⟩ := Int.eq_ofNat_of_zero_le h2
    have hk : k < l.length := by omega
    obtain ⟨b, o, cap', va, vk, hv, hb, c0, c1, c2, c3, c4, hat, hks⟩ := hUW.at hk
    cases hv
    have hp := Lib.hid (paOf_at hk)
    have hnm := Lib.hid (nmOf_at hk)
    have hpl := (hRP.node k _ (List.getElem?_eq_getElem hk)).2
    have hd := Lib.hid (dep_lt hRP (k := (k : Int)) (by omega) (by omega))
    generalize l[k] = x at *
    have hk0 : (0 : Int) ≤ (k : Int) := by omega
    have hk1 : (k : Int) < (l.length : Int) := by omega
    have hD := Lib.hid (show dep l x.pa < dep l (k : Int) by have := hd.out; rwa [hp.out] at this)
    obtain ⟨hpl1, hpl2⟩ := hpl
    by_cases h3 : x.nm = s
    · have hN := Lib.hid (show nearF l s (paOf l (K : Nat)) = k by rw [← hA.out]; exact nearF_hit hRP hk0 hk1 (by rw [hnm.out]; exact h3))
      have hq := sTrue h3
      have hq2 : (x.nm.toList != s.toList) = false := by rw [bne, hq]; rfl
      clear h3
      go_wp2_with fail
      go_ret
      exact ⟨ret_int hN.out.symm, rfl⟩
    · have hN := Lib.hid (show nearF l s x.pa = nearF l s (paOf l (K : Nat)) by rw [← hA.out, nearF_go hRP hk0 hk1 (by rw [hnm.out]; exact h3), hp.out])
      have hq := sFalse h3
      have hq2 : (x.nm.toList != s.toList) = true := by rw [bne, hq]; rfl
      clear h3
      go_wp2_with fail
      go_round
      case rel => exact ⟨x.pa, hpl1, hpl2, rfl, hN⟩
      case measure => simp [intOf]; exact hD.out
set_option maxHeartbeats 4000000 in
set_option maxRecDepth 100000 in
theorem refWithin_any (l : List Nd) (v : Value) (K : Nat) (s : Int) (hkl : K < l.length) (hRP : RightP l) (w : World) (hUW : Nodes l v w) :
    Calls Tryz.prog 75 #[v, .int .i64 K, .int .i64 s] w fun e w' => e = .returned (.bool (withinF l s (paOf l K))) ∧ w = w' := by
  obtain ⟨a, cap, rfl⟩ := hUW.len
  obtain ⟨bK, oK, capK, vaK, vkK, hvK, hbK, g0, g1, g2, g3, g4, _, _⟩ := hUW.at hkl
  cases hvK
  have hpaK := Lib.hid (paOf_at hkl)
  have hpK := (hRP.node K _ (List.getElem?_eq_getElem hkl)).2
  generalize l[K] = y at *
  have hK0 : (0 : Int) ≤ (K : Int) := by omega
  have hK1 : (K : Int) < (l.length : Int) := by omega
  go_enter Tryz.func75, Tryz.ntmps75
  go_wp2_with fail
  go_loop [7] (fun i => ∃ z : Int, -1 ≤ z ∧ z < l.length ∧ i = .int .i64 z ∧ Hid (withinF l s z = withinF l s (paOf l (K : Nat)))) (fun i => dep l (intOf i))
  case atStart => exact ⟨_, hpK.1, hpK.2, rfl, Lib.hid (by rw [hpaK.out])⟩
  case round =>
    obtain ⟨z, hz0, hz1, rfl, hA⟩ := hrel
    by_cases h2 : 0 ≤ z
    case neg =>
      have h2' : decide (0 ≤ z) = false := decide_eq_false h2
      have hN := Lib.hid (show withinF l s (paOf l (K : Nat)) = false by rw [← hA.out, withinF_neg l s (by omega)])
      have hz' : z = -1 := by omega
      subst hz'
      go_wp2_with fail
      go_ret
      exact ⟨ret_bool hN.out.symm, rfl⟩
    obtain ⟨k, rfl⟩ := Int.eq_ofNat_of_zero_le h2
    have hk : k < l.length := by omega
    obtain ⟨b, o, cap', va, vk, hv, hb, c0, c1, c2, c3, c4, hat, hks⟩ := hUW.at hk
    cases hv
    have hp := Lib.hid (paOf_at hk)
    have hnm := Lib.hid (nmOf_at hk)
    have hpl := (hRP.node k _ (List.getElem?_eq_getElem hk)).2
    have hd := Lib.hid (dep_lt hRP (k := (k : Int)) (by omega) (by omega))
    generalize l[k] = x at *
    have hk0 : (0 : Int) ≤ (k : Int) := by omega
    have hk1 : (k : Int) < (l.length : Int) := by omega
    have hD := Lib.hid (show dep l x.pa < dep l (k : Int) by have := hd.out; rwa [hp.out] at this)
    obtain ⟨hpl1, hpl2⟩ := hpl
    by_cases h3 : (k : Int) = s
    · have hN := Lib.hid (show withinF l s (paOf l (K : Nat)) = true by rw [← hA.out]; exact withinF_hit hRP hk0 hk1 h3)
      have hq := (show ((k : Int) == s) = true by rw [h3]; exact beq_self_eq_true _)
      clear h3
      go_wp2_with fail
      go_ret
      exact ⟨ret_bool hN.out.symm, rfl⟩
    · have hN := Lib.hid (show withinF l s x.pa = withinF l s (paOf l (K : Nat)) by rw [← hA.out, withinF_go hRP hk0 hk1 h3, hp.out])
      have hq := intNe h3
      clear h3
      go_wp2_with fail
      go_round
      case rel => exact ⟨x.pa, hpl1, hpl2, rfl, hN⟩
      case measure => simp [intOf]; exact hD.out
end Go.Proofs.YtafbghlldlconaaGreat

/-
  A SLICE OF ONE-CELL ELEMENTS (texts, numbers, pointers) THAT THE CALL ITSELF BUILDS, told by its list of cells.
-/
namespace Go.Proofs.YtafbghlldlconaaGreat
set_option linter.unusedVariables false
set_option linter.unusedSimpArgs false
open Go.RowKit

/-- the value v is a slice of one-cell elements of type T that holds xs, made since 'base' blocks lay -/
def OV (base : Nat) (T : TypeId) (xs : List Value) (v : Value) (w : World) : Prop := w.ownsRow base T 1 v xs.length xs
theorem OV.nil (base : Nat) (T : TypeId) (w : World) : OV base T [] (.slice none 0 0) w := World.ownsRow_nil w base _ _
theorem OV.alloc {base : Nat} {T : TypeId} {l : List Value} {v : Value} {w : World} (h : OV base T l v w) (o : Obj) : OV base T l v (w.alloc o) := World.ownsRow.alloc h o
theorem OV.form {base : Nat} {T : TypeId} {l : List Value} {v : Value} {w : World} (h : OV base T l v w) : ∃ a cap, v = .slice a l.length cap ∧ (a = none → l = []) := by
  obtain ⟨_, ⟨rfl, hn⟩ | ⟨g, cap, cur, rfl, _⟩⟩ := h
  · exact ⟨none, 0, by rw [hn], fun _ => List.length_eq_zero_iff.1 hn⟩
  · exact ⟨_, _, rfl, fun h => by cases h⟩
theorem OV.kept {base : Nat} {T : TypeId} {l : List Value} {v : Value} {w w' : World} (h : OV base T l v w) (hb : Below w.heap.size w w') : OV base T l v w' := by
  obtain ⟨h1, ⟨rfl, hn⟩ | ⟨g, cap, cur, rfl, h2, h3, h4⟩⟩ := h
  · exact ⟨h1, .inl ⟨rfl, hn⟩⟩
  · refine ⟨h1, .inr ⟨g, cap, cur, rfl, h2, ?_, h4⟩⟩
    have hlt : g < w.heap.size := by
      rcases Nat.lt_or_ge g w.heap.size with h | h
      · exact h
      · rw [Array.getElem?_eq_none h] at h3; cases h3
    rw [hb.block g hlt]; exact h3
theorem OV.cell {base : Nat} {T : TypeId} {l : List Value} {a : Addr} {n cap : Nat} {w : World} (h : OV base T l (.slice (some a) n cap) w) : ∀ j u, l[j]? = some u → w.cell? (a.add j) = some u := by
  intro j u hu
  obtain ⟨_, ⟨h1, hn⟩ | ⟨g, cap', cur, h1, h2, h3, h4, h5, h6, h7⟩⟩ := h
  · cases h1
  · cases h1
    have hj : j < l.length := (List.getElem?_eq_some_iff.1 hu).1
    rw [addr_add, Nat.zero_add]
    simp only [World.cell?, h3]
    rw [← h7, List.getElem?_take_of_lt (by omega)] at hu
    simpa using hu
theorem OV.at {base : Nat} {T : TypeId} {l : List Value} {v : Value} {w : World} (h : OV base T l v w) (hn : l ≠ []) : ∃ g cap, v = .slice (some ⟨g, 0, none⟩) l.length cap ∧ base ≤ g ∧ ∀ j u, l[j]? = some u → w.cell? ⟨g, j, none⟩ = some u := by
  have h0 := h
  obtain ⟨_, ⟨rfl, h1⟩ | ⟨g, cap, cur, rfl, h2, _⟩⟩ := h
  · exact absurd (List.length_eq_zero_iff.1 h1) hn
  · refine ⟨g, cap, rfl, h2, fun j u hu => ?_⟩
    have := h0.cell j u hu
    rwa [addr_add, Nat.zero_add] at this
theorem ov_below {base : Nat} {T : TypeId} {l : List Value} {w w' : World} {v : Value} (h : OV base T l v w) (hg : w.grownBy w' v.ownBlock) (hb : base ≤ w.heap.size) : Below base w w' :=
  (Below.refl base w).grown hg hb (fun k hk => (h.lt k hk).1)

/-- 'out = append(out, u)': the element lies in a block of its own, laid just ahead -/
theorem wpList_append_cell {W : World} {ops : Array Oper} {rest : List Oper} {o : Oper} {a : Act} {Q : Exit → Act → World → Prop} (hgd : o.guard = none) (s x : Operand) (S T : TypeId) {z : Value} {bytes : Nat}
    (ho : o.op = .call { callee := .builtin .append, args := #[s, x], argTypes := #[S, S] }) (hS : Tryz.prog.underlying S = some (.slice T))
    (hinfo : (Tryz.prog.info? T).map (fun i => (i.zero, i.size, i.bytes)) = some (some z, 1, bytes)) (hz : z.cells.size = 1) (hby : bytes ≤ 4096)
    {base : Nat} {l : List Value} {v : Value} (hs : a.eval s = v) (hx : a.eval x = .slice (some ⟨W.heap.size, 0, none⟩) 1 1) (u : Value) (hu : u.oneCell' = true)
    (hown : OV base T l v W) (hlen : l.length < 17179869184) (hbase : base ≤ W.heap.size)
    (h : ∀ v' w', OV base T (l ++ [u]) v' w' → Below base W w' → wpList Tryz.prog ops Q rest (a.put o.dst v') w') : wpList Tryz.prog ops Q (o :: rest) a (W.alloc (.cells #[u] T)) := by
  obtain ⟨i0, hi, hz0, hz1, hz2⟩ := info_parts hinfo
  refine wpList_append_own _ hgd s x S ho base T i0 z 1 bytes hS hi hz0 hz1 hz2 hz (by decide) v l.length l hs (World.ownsRow.alloc hown _) ⟨W.heap.size, 0, none⟩ 1 1 [u] hx rfl ?_ ?_ ?_ ?_ ?_ ?_
  · intro j y hj
    match j, hj with
    | 0, hj => simp at hj; subst hj; simp [addr_add]
  · intro y hy; simp at hy; subst hy; exact hu
  · unfold maxLen; omega
  · have : (l.length + 1) * bytes ≤ (l.length + 1) * 4096 := Nat.mul_le_mul_left _ hby
    omega
  · simp; omega
  · intro v' w1 h1 h2 _
    refine h v' w1 ?_ (((Below.refl base W).alloc hbase _).trans (ov_below (World.ownsRow.alloc hown _) h2 (by simp; omega)))
    unfold OV
    rw [List.length_append]
    exact h1
end Go.Proofs.YtafbghlldlconaaGreat

/-
  THE ORDER OF A RIGHT DOCUMENT: tree.order: the walk.
-/
namespace Go.Proofs.YtafbghlldlconaaGreat
set_option linter.unusedVariables false
set_option linter.unusedSimpArgs false
open Go.RowKit PT

def ints (t : List Int) : List Value := t.map (Value.int .i64)
/-- 'out = append(out, l...)' of one-cell elements -/
theorem wpList_append_row {W : World} {ops : Array Oper} {rest : List Oper} {o : Oper} {a : Act} {Q : Exit → Act → World → Prop} (hgd : o.guard = none) (s x : Operand) (S T : TypeId) {z : Value} {bytes : Nat}
    (ho : o.op = .call { callee := .builtin .append, args := #[s, x], argTypes := #[S, S] }) (hS : Tryz.prog.underlying S = some (.slice T))
    (hinfo : (Tryz.prog.info? T).map (fun i => (i.zero, i.size, i.bytes)) = some (some z, 1, bytes)) (hz : z.cells.size = 1) (hby : bytes ≤ 4096)
    {base : Nat} {l : List Value} {v : Value} (hs : a.eval s = v) {ad : Addr} {cap : Nat} {m : Nat} {news : List Value} (hx : a.eval x = .slice (some ad) m cap) (hm : news.length = m)
    (hnews : ∀ j u, news[j]? = some u → W.cell? (ad.add j) = some u) (hu : ∀ u ∈ news, u.oneCell' = true)
    (hown : OV base T l v W) (hlen : l.length + news.length < 17179869184) (hbase : base ≤ W.heap.size)
    (h : ∀ v' w', OV base T (l ++ news) v' w' → Below base W w' → wpList Tryz.prog ops Q rest (a.put o.dst v') w') : wpList Tryz.prog ops Q (o :: rest) a W := by
  subst hm
  obtain ⟨i0, hi, hz0, hz1, hz2⟩ := info_parts hinfo
  refine wpList_append_own _ hgd s x S ho base T i0 z 1 bytes hS hi hz0 hz1 hz2 hz (by decide) v l.length l hs hown ad news.length cap news hx (by omega) hnews hu ?_ ?_ hbase ?_
  · unfold maxLen; omega
  · have : (l.length + news.length) * bytes ≤ (l.length + news.length) * 4096 := Nat.mul_le_mul_left _ hby
    omega
  · intro v' w1 h1 h2 _
    refine h v' w1 ?_ (ov_below hown h2 hbase)
    unfold OV
    rw [List.length_append]
    exact h1
theorem info_i64 : (Tryz.prog.info? 3).map (fun i => (i.zero, i.size, i.bytes)) = some (some (.int .i64 0), 1, 8) := by kernel_rfl
theorem ints_one (t : List Int) : ∀ u ∈ ints t, u.oneCell' = true := by
  intro u hu
  obtain ⟨c, _, rfl⟩ := List.mem_map.1 hu
  rfl
theorem ord_pre {l : List Nd} (h : RightP l) {K k : Nat} (hK : K < l.length) : ((K : Int) :: ((ksOf l K).take k).flatMap (ord l)).length ≤ l.length := by
  have h1 := ord_len h (k := (K : Int)) (by omega) (by omega)
  rw [ord_eq h (by omega) (by omega)] at h1
  have h2 : ((ksOf l K).take k).flatMap (ord l) ++ ((ksOf l K).drop k).flatMap (ord l) = (ksOf l K).flatMap (ord l) := by
    rw [← List.flatMap_append, List.take_append_drop]
  rw [← h2] at h1
  simp only [List.length_cons, List.length_append] at h1 ⊢
  omega
set_option maxHeartbeats 4000000 in
set_option maxRecDepth 100000 in
theorem order_any (l : List Nd) (hRP : RightP l) : ∀ (n K : Nat), K < l.length → l.length + 2 ≤ n + dep l K → ∀ (v : Value) (w : World), (∀ x ∈ l, Fits x) → Nodes l v w →
    Calls Tryz.prog 32 #[v, .int .i64 K] w fun e w' => ∃ vo, e = .returned vo ∧ OV w.heap.size 3 (ints (ord l K)) vo w' ∧ Below w.heap.size w w' := by
  intro n
  induction n with
  | zero => intro K _ hd; have := dep_le l K; omega
  | succ n ih =>
    intro K hK hd v w hz hU
    obtain ⟨a, cap, rfl⟩ := hU.len
    have hmax := hRP.max
    obtain ⟨b, o, cap', va, vk, hv, hb, c0, c1, c2, c3, c4, hat, hks⟩ := hU.at hK
    cases hv
    obtain ⟨_, _, _, z3, _⟩ := hz _ (List.getElem_mem hK)
    have hke := Lib.hid (ksOf_at hK)
    have hkid := Lib.hid (fun (c : Int) (hc : c ∈ ksOf l K) => hRP.kid (k := (K : Int)) (by omega) (by omega) hc)
    have hdk := Lib.hid (fun (c : Int) (hc : c ∈ ksOf l K) => dep_kid hRP (k := (K : Int)) (by omega) (by omega) hc)
    have hoe := Lib.hid (ord_eq hRP (k := (K : Int)) (by omega) (by omega))
    have hpre := Lib.hid (fun k => ord_pre hRP (K := K) (k := k) hK)
    generalize l[K] = x at *
    rw [hke.out] at hkid hdk hoe hpre
    have hK0 : (0 : Int) ≤ (K : Int) := by omega
    have hK1 : (K : Int) < (l.length : Int) := by omega
    have hb0 := (Below.refl w.heap.size w).alloc (Nat.le_refl _) (.cells #[.int .i64 K] 3)
    have hlit : OV w.heap.size 3 (ints [(K : Int)]) (.slice (some ⟨w.heap.size, 0, none⟩) 1 1) (w.alloc (.cells #[.int .i64 K] 3)) := World.ownsRow_lit w #[.int .i64 K] 1 (Nat.le_refl _) (by unfold maxLen; omega) rfl
    have hs0 : w.heap.size ≤ (w.alloc (.cells #[.int .i64 K] 3)).heap.size := by simp
    replace c4 := cellK hb0 hb c4
    replace c3 := cellK hb0 hb c3
    obtain ⟨ka, kcap, rfl⟩ := hks.len
    go_enter Tryz.func32, Tryz.ntmps32
    go_upto_region 2 with fail
    generalize World.alloc _ _ = W0 at hb0 hlit hs0 c3 c4 ⊢
    go_wp2_with fail
    go_loopw [5, 16] (fun vo i wr => ∃ k : Nat, k ≤ x.ks.length ∧ i = .int .i64 k ∧ OV w.heap.size 3 (ints ((K : Int) :: (x.ks.take k).flatMap (ord l))) vo wr ∧ Below w.heap.size w wr) (fun _ i _ => x.ks.length - (intOf i).toNat)
    case atStart => exact ⟨0, Nat.zero_le _, rfl, by simpa using hlit, hb0⟩
    case round =>
      obtain ⟨k, hk, rfl, hov, hbel⟩ := hrel
      have hsz := hbel.size
      by_cases hlt : k < x.ks.length
      · have hUr := hU.kept hbel
        obtain ⟨kb, ko, kcap', kv, khb, kc0⟩ := (hks.kept hbel).at hlt
        cases kv
        have hmem := List.getElem_mem hlt
        have hk0 : (0 : Int) ≤ (k : Int) := by omega
        have hk1 : (k : Int) < (x.ks.length : Int) := by omega
        have htk := Lib.hid (show (x.ks.take (k + 1)).flatMap (ord l) = (x.ks.take k).flatMap (ord l) ++ ord l x.ks[k] by
          rw [List.take_add_one, List.getElem?_eq_getElem hlt, List.flatMap_append]; simp)
        generalize x.ks[k] = c at *
        obtain ⟨d0, d1, _⟩ := hkid.out c hmem
        have hdc := hdk.out c hmem
        obtain ⟨q, rfl⟩ := Int.eq_ofNat_of_zero_le d0
        have hq : q < l.length := by omega
        have hq9 := Lib.hid (show l.length + 2 ≤ n + dep l (q : Int) by omega)
        have hp1 := hpre.out k
        have hol := ord_len hRP (k := (q : Int)) (by omega) (by omega)
        clear hdc
        go_wp2_with fail
        refine (ih q hq hq9.out _ _ hz hUr).mono ?_
        rintro e w' ⟨vo2, rfl, hov2, hb5⟩
        have hovW := hov.kept hb5
        have hbW := hbel.trans (hb5.mono hsz)
        have hgW := hbW.size
        have hne : ints (ord l (q : Int)) ≠ [] := by rw [ord_eq hRP (by omega) (by omega)]; simp [ints]
        obtain ⟨g, gcap, rfl, _, hcell⟩ := hov2.at hne
        have hil : (ints (ord l (q : Int))).length = (ord l (q : Int)).length := by simp [ints]
        have hil2 : (ints ((K : Int) :: (x.ks.take k).flatMap (ord l))).length = ((K : Int) :: (x.ks.take k).flatMap (ord l)).length := by simp [ints]
        go_wp2_with (at_builtin; refine wpList_append_row rfl _ _ 39 3 rfl Tryz.underlying39 info_i64 rfl (by decide) rfl rfl hil (fun j u hu => by rw [addr_add, Nat.zero_add]; exact hcell j u hu) (ints_one _) hovW (by rw [hil, hil2]; omega) hgW ?_; intro v' w1 hov3 hb6)
        go_roundw
        case rel => exact ⟨k + 1, by omega, by go_num, by rw [htk.out]; simpa [ints] using hov3, hbW.trans (hb6.mono (by omega))⟩
        case measure => simp [intOf]; omega
      · obtain rfl : k = x.ks.length := by omega
        rw [List.take_of_length_le (Nat.le_refl _)] at hov
        go_wp2_with fail
        go_ret
        exact ⟨_, rfl, by rw [hoe.out]; exact hov, hbel⟩
end Go.Proofs.YtafbghlldlconaaGreat
