import Derived.Test.YtafbghlldlconaaGreatDoorPart3
import Derived.Test.YtafbghlldlconaaGreatDoorPart1
import Derived.Deep.RegionLaw
import Derived.Test.YtafbghlldlconaaGreatDoorPart2
import Derived.Laws.OwnMore
import Derived.Lib.SliceRun
/-
  A NODE BY ITSELF by the document: ref10.alone: the walk.
-/
namespace Go.Proofs.YtafbghlldlconaaGreatDoor
set_option linter.unusedVariables false
set_option linter.unusedSimpArgs false
open Go.RowKit PT

theorem fi_take {l : List At} {k : Nat} (hk : k < l.length) : fi (l.take k) (isN l[k].n) = -1 ↔ fi l (isN l[k].n) = k := by
  have hself : isN l[k].n l[k] = true := decide_eq_true rfl
  constructor
  · intro h
    refine fi_hit hk (fun x hx => ?_) hself
    rcases fi_cases (l.take k) (isN l[k].n) with ⟨_, h2⟩ | ⟨j, _, h2, _⟩
    · exact h2 x hx
    · omega
  · intro h
    rcases fi_cases l (isN l[k].n) with ⟨h2, _⟩ | ⟨j, _, h2, _, h3⟩
    · omega
    · have : j = k := by omega
      subst this
      exact fi_none h3
set_option maxHeartbeats 4000000 in
set_option maxRecDepth 100000 in
theorem alone_any (x : Nd) (va vk : Value) (hl : x.ats.length ≤ 1000000000000000) (hk : x.ks.length ≤ 1000000000000000000) (hns : x.nm.size ≤ 140737488351232) (ht : x.tx.size ≤ 140737488351232) (w : World) (hU : Atts x.ats va w) (hV : Nums x.ks vk w) (hz : ∀ a ∈ x.ats, a.n.size ≤ 140737488351232 ∧ a.v.size ≤ 140737488351232) :
    Calls Tryz.prog 107 #[NdV x va vk] w fun e w' => e = .returned (.bool (oneB x)) ∧ Below w.heap.size w w' := by
  have hb0 := (Below.refl w.heap.size w).alloc (Nat.le_refl _) (.cells #[.string x.nm, .string x.tx, va, .int .i64 x.pa, vk] 54)
  have hn0 := Go.heap_alloc_new w (.cells #[.string x.nm, .string x.tx, va, .int .i64 x.pa, vk] 54)
  have hs0 : (w.alloc (.cells #[.string x.nm, .string x.tx, va, .int .i64 x.pa, vk] 54)).heap.size = w.heap.size + 1 := by simp
  have hU0 := hU.kept hb0
  obtain ⟨a, cap, rfl⟩ := hU.len
  obtain ⟨ka, kcap, rfl⟩ := hV.len
  unfold NdV
  have hO : oneB x = if x.nm = ⟨#[]⟩ then decide (x.ats.length = 0) && (decide (x.ks.length = 0) && decide (x.tx.size ≤ 4000)) else nmB x.nm.data.toList && (decide (x.tx.size = 0) && (decide (x.ats.length ≤ 40) && (List.range x.ats.length).all (atB x.ats))) := rfl
  by_cases h0 : x.nm.size = 0
  · rw [if_pos (size0.2 h0)] at hO
    have HO := Lib.hid hO
    clear hO
    have h0i : ((x.nm.size : Int) == 0) = true := by rw [h0]; rfl
    by_cases c1 : x.ats.length = 0
    · by_cases c2 : x.ks.length = 0
      · by_cases c3 : x.tx.size ≤ 4000
        · have hR := Lib.hid (show oneB x = true by rw [HO.out, decide_eq_true c1, decide_eq_true c2, decide_eq_true c3]; rfl)
          have c3' : (x.tx.size : Int) ≤ 4000 := by omega
          rw [c1, c2] at hb0 ⊢
          clear c1 c2
          go_enter Tryz.func107, Tryz.ntmps107
          go_wp2_with fail
          go_ret
          exact ⟨ret_bool hR.out.symm, hb0⟩
        · have hR := Lib.hid (show oneB x = false by rw [HO.out, decide_eq_true c1, decide_eq_true c2, decide_eq_false c3]; rfl)
          have c3' : decide ((x.tx.size : Int) ≤ 4000) = false := decide_eq_false (by omega)
          rw [c1, c2] at hb0 ⊢
          clear c1 c2
          go_enter Tryz.func107, Tryz.ntmps107
          go_wp2_with fail
          go_ret
          exact ⟨ret_bool hR.out.symm, hb0⟩
      · have hR := Lib.hid (show oneB x = false by rw [HO.out, decide_eq_true c1, decide_eq_false c2]; rfl)
        have c2' : ((x.ks.length : Int) == 0) = false := intNe (by omega)
        rw [c1] at hb0 ⊢
        clear c1
        go_enter Tryz.func107, Tryz.ntmps107
        go_wp2_with fail
        go_ret
        exact ⟨ret_bool hR.out.symm, hb0⟩
    · have hR := Lib.hid (show oneB x = false by rw [HO.out, decide_eq_false c1]; rfl)
      have c1' : ((x.ats.length : Int) == 0) = false := intNe (by omega)
      go_enter Tryz.func107, Tryz.ntmps107
      go_wp2_with fail
      go_ret
      exact ⟨ret_bool hR.out.symm, hb0⟩
  · rw [if_neg (fun e => h0 (size0.1 e))] at hO
    have HO := Lib.hid hO
    have h0i : ((x.nm.size : Int) == 0) = false := intNe (by omega)
    clear hO
    cases hnm : nmB x.nm.data.toList
    · have hR := Lib.hid (show oneB x = false by rw [HO.out, hnm]; rfl)
      have HN := Lib.hid hnm
      clear hnm
      go_enter Tryz.func107, Tryz.ntmps107
      go_upto_region 1 with fail
      generalize World.alloc _ _ = W0 at hb0 hn0 hU0 hs0 ⊢
      obtain ⟨x0, x1, x2, x3, x4, f0, f1, f2, f3, f4⟩ := five_of hn0
      go_wp2_with fail
      refine (refName10_any x.nm hns _).mono ?_
      rintro e w' ⟨rfl, rfl⟩
      rw [HN.out]
      go_wp2_with fail
      go_ret
      exact ⟨ret_bool hR.out.symm, hb0⟩
    · have HN := Lib.hid hnm
      by_cases d1 : x.tx.size = 0
      · have d1' : decide ((0 : Int) < (x.tx.size : Int)) = false := decide_eq_false (by omega)
        have d1'' : decide (0 < x.tx.size) = false := decide_eq_false (by omega)
        by_cases d2 : x.ats.length ≤ 40
        · have HO2 := Lib.hid (show oneB x = (List.range x.ats.length).all (atB x.ats) by rw [HO.out, hnm, decide_eq_true d1, decide_eq_true d2]; rfl)
          have d2' : decide ((40 : Int) < (x.ats.length : Int)) = false := decide_eq_false (by omega)
          clear hnm HO
          go_enter Tryz.func107, Tryz.ntmps107
          go_upto_region 1 with fail
          generalize World.alloc _ _ = W0 at hb0 hn0 hU0 hs0 ⊢
          obtain ⟨x0, x1, x2, x3, x4, f0, f1, f2, f3, f4⟩ := five_of hn0
          have hx0 : w.heap.size < W0.heap.size := by omega
          clear hs0
          go_wp2_with fail
          refine (refName10_any x.nm hns _).mono ?_
          rintro e w' ⟨rfl, rfl⟩
          rw [HN.out]
          go_wp2_with fail
          go_loopw [3] (fun i wr => ∃ k : Nat, k ≤ x.ats.length ∧ i = .int .i64 k ∧ Hid (∀ j, j < k → atB x.ats j = true) ∧ Below W0.heap.size W0 wr) (fun i _ => x.ats.length - (intOf i).toNat)
          case atStart => exact ⟨0, Nat.zero_le _, rfl, Lib.hid (fun j hj => by omega), Below.refl _ _⟩
          case round =>
            obtain ⟨k, hk', rfl, hA, hbel⟩ := hrel
            have hsz := hbel.size
            by_cases hlt : k < x.ats.length
            · have hUr := hU0.kept hbel
              obtain ⟨b, o, cap', hv, hcap, hb, hc0, hc1⟩ := hUr.at hlt
              cases hv
              have hy := Lib.hid (show atB x.ats k = (nmB x.ats[k].n.data.toList && (decide (x.ats[k].v.size ≤ 4000) && decide (fi (x.ats.take k) (isN x.ats[k].n) = -1))) by unfold atB; rw [List.getElem?_eq_getElem hlt])
              obtain ⟨hyn, hyv⟩ := hz _ (List.getElem_mem hlt)
              have hft := Lib.hid (fi_take hlt)
              have hF := Lib.hid (fun (h : atB x.ats k = false) => show oneB x = false from HO2.out.trans (by
                rw [List.all_eq_false]
                exact ⟨k, List.mem_range.2 hlt, by rw [h]; exact Bool.false_ne_true⟩))
              have hN := Lib.hid (fun (h : atB x.ats k = true) => show ∀ j, j < k + 1 → atB x.ats j = true from fun j hj => by
                by_cases e : j = k
                · rw [e]; exact h
                · exact hA.out j (by omega))
              generalize x.ats[k] = y at *
              have q0 := cellK hbel hx0 x0
              have q2 := cellK hbel hx0 x2
              have hk0 : (0 : Int) ≤ (k : Int) := by omega
              have hk1 : (k : Int) < (x.ats.length : Int) := by omega
              have hl9 : x.ats.length ≤ 1000000000000000 := by omega
              cases hnn : nmB y.n.data.toList
              · have hR := Lib.hid (hF.out (by rw [hy.out, hnn]; rfl))
                have HNN := Lib.hid hnn
                clear hnn
                go_wp2_with fail
                first | go_quiet ((go_at_call 145; exact Calls.quiet_of_same ((refName10_any y.n hyn _).mono fun _ _ h => ⟨h.1.trans (by rw [HNN.out]), h.2.symm⟩))) | fail
                go_wp2_with fail
                go_ret
                exact ⟨ret_bool hR.out.symm, (hb0.trans (hbel.mono (by omega))).trans ((below_draws wr _).mono (by omega))⟩
              · have HNN := Lib.hid hnn
                by_cases h4 : y.v.size ≤ 4000
                · have h4' : decide ((4000 : Int) < (y.v.size : Int)) = false := decide_eq_false (by omega)
                  obtain ⟨z, hfz⟩ : ∃ z, fi x.ats (isN y.n) = z := ⟨_, rfl⟩
                  have HF := Lib.hid hfz
                  by_cases hfi : z = (k : Int)
                  · have hN2 := Lib.hid (hN.out (by rw [hy.out, hnn, decide_eq_true h4, decide_eq_true (hft.out.2 (hfz.trans hfi))]; rfl))
                    subst hfi
                    clear hfz hnn h4
                    go_wp2_with fail
                    first | go_quiet ((first | (go_at_call 145; exact Calls.quiet_of_same ((refName10_any y.n hyn _).mono fun _ _ h => ⟨h.1.trans (by rw [HNN.out]), h.2.symm⟩)) | (go_at_call 109; exact Calls.quiet_of_same ((refFind10_any x.ats _ y.n hl9 _ (hUr.kept (below_draws _ _))).mono fun _ _ h => ⟨h.1.trans (by rw [HF.out]), h.2.symm⟩)))) | fail
                    go_wp2_with fail
                    go_roundw
                    case rel => exact ⟨k + 1, by omega, by go_num, hN2, hbel.trans ((below_draws wr _).mono hsz)⟩
                    case measure => simp [intOf]; omega
                  · have hR := Lib.hid (hF.out (by rw [hy.out, decide_eq_false (show ¬ fi (x.ats.take k) (isN y.n) = -1 from fun e => hfi (hfz.symm.trans (hft.out.1 e)))]; simp))
                    have hzk : (z != (k : Int)) = true := by rw [bne, intNe hfi]; rfl
                    have hzk2 : (z == (k : Int)) = false := intNe hfi
                    clear hfz hnn h4 hfi
                    go_wp2_with fail
                    first | go_quiet ((first | (go_at_call 145; exact Calls.quiet_of_same ((refName10_any y.n hyn _).mono fun _ _ h => ⟨h.1.trans (by rw [HNN.out]), h.2.symm⟩)) | (go_at_call 109; exact Calls.quiet_of_same ((refFind10_any x.ats _ y.n hl9 _ (hUr.kept (below_draws _ _))).mono fun _ _ h => ⟨h.1.trans (by rw [HF.out]), h.2.symm⟩)))) | fail
                    go_wp2_with fail
                    go_ret
                    exact ⟨ret_bool hR.out.symm, (hb0.trans (hbel.mono (by omega))).trans ((below_draws wr _).mono (by omega))⟩
                · have h4' : (4000 : Int) < (y.v.size : Int) := by omega
                  have hR := Lib.hid (hF.out (by rw [hy.out, decide_eq_false h4]; simp))
                  clear hnn h4
                  go_wp2_with fail
                  first | go_quiet ((go_at_call 145; exact Calls.quiet_of_same ((refName10_any y.n hyn _).mono fun _ _ h => ⟨h.1.trans (by rw [HNN.out]), h.2.symm⟩))) | fail
                  go_wp2_with fail
                  go_ret
                  exact ⟨ret_bool hR.out.symm, (hb0.trans (hbel.mono (by omega))).trans ((below_draws wr _).mono (by omega))⟩
            · obtain rfl : k = x.ats.length := by omega
              have hR := Lib.hid (show oneB x = true from HO2.out.trans (List.all_eq_true.2 fun j hj => hA.out j (List.mem_range.1 hj)))
              have q2 := cellK hbel hx0 x2
              go_wp2_with fail
              go_ret
              exact ⟨ret_bool hR.out.symm, hb0.trans (hbel.mono (by omega))⟩
        · have hR := Lib.hid (show oneB x = false by rw [HO.out, hnm, decide_eq_true d1, decide_eq_false d2]; rfl)
          have d2' : (40 : Int) < (x.ats.length : Int) := by omega
          clear hnm
          go_enter Tryz.func107, Tryz.ntmps107
          go_upto_region 1 with fail
          generalize World.alloc _ _ = W0 at hb0 hn0 hU0 hs0 ⊢
          obtain ⟨x0, x1, x2, x3, x4, f0, f1, f2, f3, f4⟩ := five_of hn0
          go_wp2_with fail
          refine (refName10_any x.nm hns _).mono ?_
          rintro e w' ⟨rfl, rfl⟩
          rw [HN.out]
          go_wp2_with fail
          go_ret
          exact ⟨ret_bool hR.out.symm, hb0⟩
      · have hR := Lib.hid (show oneB x = false by rw [HO.out, hnm, decide_eq_false d1]; rfl)
        have d1' : (0 : Int) < (x.tx.size : Int) := by omega
        have d1'' : 0 < x.tx.size := by omega
        clear hnm
        go_enter Tryz.func107, Tryz.ntmps107
        go_upto_region 1 with fail
        generalize World.alloc _ _ = W0 at hb0 hn0 hU0 hs0 ⊢
        obtain ⟨x0, x1, x2, x3, x4, f0, f1, f2, f3, f4⟩ := five_of hn0
        go_wp2_with fail
        refine (refName10_any x.nm hns _).mono ?_
        rintro e w' ⟨rfl, rfl⟩
        rw [HN.out]
        go_wp2_with fail
        go_ret
        exact ⟨ret_bool hR.out.symm, hb0⟩
end Go.Proofs.YtafbghlldlconaaGreatDoor

/-
  RIGHT DOCUMENTS by the document: ref10.count, ref10.Right: the walks.
-/
namespace Go.Proofs.YtafbghlldlconaaGreatDoor
set_option linter.unusedVariables false
set_option linter.unusedSimpArgs false
open Go.RowKit PT

theorem count_snoc {l : List Int} {k : Nat} (n : Int) (hk : k < l.length) : (l.take (k + 1)).count n = (l.take k).count n + if l[k] = n then 1 else 0 := by
  rw [List.take_add_one, List.count_append, List.getElem?_eq_getElem hk]
  by_cases h : l[k] = n
  · rw [if_pos h]; simp [h]
  · rw [if_neg h]; simp [h]
set_option maxHeartbeats 4000000 in
set_option maxRecDepth 100000 in
theorem count_at (l : List Int) (v : Value) (n : Int) (hl : l.length ≤ 1000000000000000000) (w : World) (hV : Nums l v w) :
    Calls Tryz.prog 108 #[v, .int .i64 n] w fun e w' => e = .returned (.int .i64 (l.count n)) ∧ w = w' := by
  obtain ⟨a, cap, rfl⟩ := hV.len
  go_enter Tryz.func108, Tryz.ntmps108
  go_wp2_with fail
  go_loop [5, 6] (fun c i => ∃ k m : Nat, k ≤ l.length ∧ i = .int .i64 k ∧ c = .int .i64 m ∧ m ≤ k ∧ Hid ((l.take k).count n = m)) (fun _ i => l.length - (intOf i).toNat)
  case atStart => exact ⟨0, 0, Nat.zero_le _, rfl, rfl, Nat.le_refl _, Lib.hid (by simp)⟩
  case round =>
    obtain ⟨k, m, hk, rfl, rfl, hm, hA⟩ := hrel
    by_cases hlt : k < l.length
    · obtain ⟨b, o, cap', hv, hb, hc0⟩ := hV.at hlt
      cases hv
      have hs := count_snoc n hlt
      rw [hA.out] at hs
      have HS := Lib.hid hs
      clear hs
      generalize l[k] = x at *
      by_cases h : x = n
      · have hN := Lib.hid (HS.out.trans (by rw [if_pos h]))
        subst h
        clear HS
        go_wp2_with fail
        go_round
        case rel => exact ⟨k + 1, m + 1, by omega, by go_num, by go_num, by omega, hN⟩
        case measure => simp [intOf]; omega
      · have hN := Lib.hid (HS.out.trans (by rw [if_neg h]))
        have hq : (x == n) = false := intNe h
        clear HS
        go_wp2_with fail
        go_round
        case rel => exact ⟨k + 1, m, by omega, by go_num, rfl, by omega, hN⟩
        case measure => simp [intOf]; omega
    · obtain rfl : k = l.length := by omega
      have hN := Lib.hid (show l.count n = m by have := hA.out; rwa [List.take_of_length_le (Nat.le_refl _)] at this)
      go_wp2_with fail
      go_ret
      exact ⟨ret_int (by rw [hN.out]), rfl⟩
/-- sizes of a document's texts and rows -/
def Fits (x : Nd) : Prop := x.nm.size ≤ 140737488351232 ∧ x.tx.size ≤ 140737488351232 ∧ x.ats.length ≤ 1000000000000000 ∧ x.ks.length ≤ 1000000000000000 ∧ ∀ a ∈ x.ats, a.n.size ≤ 140737488351232 ∧ a.v.size ≤ 140737488351232
/-- a node of a right document, by the document -/
def okR (l : List Nd) (j : Nat) : Prop := ∀ x, l[j]? = some x → (oneB x = true ∧ -1 ≤ x.pa ∧ x.pa < l.length) ∧ (0 ≤ x.pa → (ksOf l x.pa).count (j : Int) = 1) ∧ ∀ c ∈ x.ks, 0 ≤ c ∧ c < l.length ∧ paOf l c = j
theorem RightP.okR {l : List Nd} (h : RightP l) (j : Nat) : okR l j := fun x hx => ⟨h.node j x hx, h.once j x hx, h.kids j x hx⟩
set_option maxHeartbeats 4000000 in
set_option maxRecDepth 100000 in
theorem refRight_any (l : List Nd) (v : Value) (hl : l.length ≤ 1000000000000000000) (hz : ∀ x ∈ l, Fits x) (w : World) (hU : Nodes l v w) :
    Calls Tryz.prog 68 #[v] w fun e w' => e = .returned (.bool (rightB l)) ∧ Below w.heap.size w w' := by
  have hz2 : ∀ x ∈ l, x.ks.length ≤ 1000000000000000000 := fun x hx => Nat.le_trans (hz x hx).2.2.2.1 (by omega)
  obtain ⟨a, cap, rfl⟩ := hU.len
  by_cases h0 : l.length < 1
  · have hR := Lib.hid (rightB_no (fun h : RightP l => by have := h.pos; omega))
    have h0' : (l.length : Int) < 1 := by omega
    go_enter Tryz.func68, Tryz.ntmps68
    go_wp2_with fail
    go_ret
    exact ⟨ret_bool hR.out.symm, Below.refl _ _⟩
  have h0' : decide ((l.length : Int) < 1) = false := decide_eq_false (by omega)
  by_cases h1 : 400 < l.length
  · have hR := Lib.hid (rightB_no (fun h : RightP l => by have := h.max; omega))
    have h1' : (400 : Int) < (l.length : Int) := by omega
    go_enter Tryz.func68, Tryz.ntmps68
    go_wp2_with fail
    go_ret
    exact ⟨ret_bool hR.out.symm, Below.refl _ _⟩
  have h1' : decide ((400 : Int) < (l.length : Int)) = false := decide_eq_false (by omega)
  have hpos : 0 < l.length := by omega
  obtain ⟨b, o, cap', va, vk, hv, hb, c0, c1, c2, c3, c4, hat, hks⟩ := hU.at hpos
  cases hv
  have hx0 : l[0]? = some l[0] := List.getElem?_eq_getElem hpos
  have hTop := Lib.hid (fun (h : RightP l) => h.top _ hx0)
  have hTop2 := Lib.hid (fun (h : l[0].nm.size ≠ 0 ∧ l[0].pa = -1) => show ∀ x, l[0]? = some x → x.nm.size ≠ 0 ∧ x.pa = -1 from fun x hx => by rw [hx0] at hx; cases hx; exact h)
  have hp0 : (0 : Int) < (l.length : Int) := by omega
  rw [Nat.zero_mul, Nat.add_zero] at c0 c1 c2 c3 c4
  clear hx0 hat hks c1 c2 c4
  generalize l[0] = y at *
  by_cases h2 : y.nm.size = 0
  · have hR := Lib.hid (rightB_no (fun h : RightP l => (hTop.out h).1 h2))
    have h2' : ((y.nm.size : Int) == 0) = true := by rw [h2]; rfl
    clear h2
    go_enter Tryz.func68, Tryz.ntmps68
    go_wp2_with fail
    go_ret
    exact ⟨ret_bool hR.out.symm, Below.refl _ _⟩
  have h2' : ((y.nm.size : Int) == 0) = false := intNe (by omega)
  by_cases h3 : y.pa = -1
  case neg =>
    have hR := Lib.hid (rightB_no (fun h : RightP l => h3 (hTop.out h).2))
    have h3' : (y.pa == -1) = false := intNe h3
    have h3'' : (y.pa != -1) = true := by rw [bne, h3']; rfl
    clear h2 h3
    go_enter Tryz.func68, Tryz.ntmps68
    go_wp2_with fail
    go_ret
    exact ⟨ret_bool hR.out.symm, Below.refl _ _⟩
  have hTT := Lib.hid (hTop2.out ⟨h2, h3⟩)
  rw [h3] at c3
  clear hTop hTop2 h2 h3
  go_enter Tryz.func68, Tryz.ntmps68
  go_wp2_with fail
  go_loopw [3] (fun i wr => ∃ k : Nat, k ≤ l.length ∧ i = .int .i64 k ∧ Hid (∀ j, j < k → okR l j) ∧ Below w.heap.size w wr) (fun i _ => l.length - (intOf i).toNat)
  case atStart => exact ⟨0, Nat.zero_le _, rfl, Lib.hid (fun j hj => by omega), Below.refl _ _⟩
  case round =>
    obtain ⟨k, hk, rfl, hA, hbel⟩ := hrel
    have hsz := hbel.size
    by_cases hlt : k < l.length
    · have hUr := hU.kept hbel
      obtain ⟨b, o, cap', va, vk, hv, hb, c0, c1, c2, c3, c4, hat, hks⟩ := hUr.at hlt
      cases hv
      obtain ⟨z0, z1, z2, _, z4⟩ := hz _ (List.getElem_mem hlt)
      have z3 := hz2 _ (List.getElem_mem hlt)
      have hxk : l[k]? = some l[k] := List.getElem?_eq_getElem hlt
      have hF := Lib.hid (fun (h : ¬ ((oneB l[k] = true ∧ -1 ≤ l[k].pa ∧ l[k].pa < l.length) ∧ (0 ≤ l[k].pa → (ksOf l l[k].pa).count (k : Int) = 1) ∧ ∀ c ∈ l[k].ks, 0 ≤ c ∧ c < l.length ∧ paOf l c = k)) => rightB_no (fun H : RightP l => h (H.okR k _ hxk)))
      have hN := Lib.hid (fun (h : ((oneB l[k] = true ∧ -1 ≤ l[k].pa ∧ l[k].pa < l.length) ∧ (0 ≤ l[k].pa → (ksOf l l[k].pa).count (k : Int) = 1) ∧ ∀ c ∈ l[k].ks, 0 ≤ c ∧ c < l.length ∧ paOf l c = k)) => show ∀ j, j < k + 1 → okR l j from fun j hj => by
        by_cases e : j = k
        · intro x hx
          subst e
          rw [hxk] at hx
          cases hx
          exact h
        · exact hA.out j (by omega))
      generalize l[k] = x at *
      have hk0 : (0 : Int) ≤ (k : Int) := by omega
      have hk1 : (k : Int) < (l.length : Int) := by omega
      cases h4 : oneB x
      · have hR := Lib.hid (hF.out (fun h => by rw [h4] at h; exact Bool.false_ne_true h.1.1))
        have HF := Lib.hid h4
        clear h4
        go_wp2_with fail
        refine (alone_any x va vk z2 z3 z0 z1 _ hat hks z4).mono ?_
        rintro e w' ⟨rfl, hb5⟩
        rw [HF.out]
        go_wp2_with fail
        go_ret
        exact ⟨ret_bool hR.out.symm, hbel.trans (hb5.mono (by omega))⟩
      · have HF := Lib.hid h4
        by_cases h5 : x.pa < -1
        · have hR := Lib.hid (hF.out (fun h => by omega))
          clear h4
          go_wp2_with fail
          refine (alone_any x va vk z2 z3 z0 z1 _ hat hks z4).mono ?_
          rintro e w' ⟨rfl, hb5⟩
          rw [HF.out]
          go_wp2_with fail
          go_ret
          exact ⟨ret_bool hR.out.symm, hbel.trans (hb5.mono (by omega))⟩
        have h5' : decide (x.pa < -1) = false := decide_eq_false h5
        by_cases h6 : (l.length : Int) ≤ x.pa
        · have hR := Lib.hid (hF.out (fun h => by omega))
          clear h4
          go_wp2_with fail
          refine (alone_any x va vk z2 z3 z0 z1 _ hat hks z4).mono ?_
          rintro e w' ⟨rfl, hb5⟩
          rw [HF.out]
          go_wp2_with fail
          go_ret
          exact ⟨ret_bool hR.out.symm, hbel.trans (hb5.mono (by omega))⟩
        have h6' : decide ((l.length : Int) ≤ x.pa) = false := decide_eq_false h6
        by_cases h7 : 0 ≤ x.pa
        · obtain ⟨p, hp⟩ := Int.eq_ofNat_of_zero_le h7
          have hpl : p < l.length := by omega
          have hke := Lib.hid (show ksOf l x.pa = l[p].ks by rw [hp]; exact ksOf_at hpl)
          have zp := hz2 _ (List.getElem_mem hpl)
          have HP := Lib.hid hp
          clear hp
          go_wp2_with fail
          refine (alone_any x va vk z2 z3 z0 z1 _ hat hks z4).mono ?_
          rintro e w' ⟨rfl, hb5⟩
          rw [HF.out]
          have hbW := hbel.trans (hb5.mono (by omega))
          have hUW := hU.kept hbW
          replace hat := hat.kept hb5
          replace hks := hks.kept hb5
          replace c0 := cellK hb5 hb c0
          replace c1 := cellK hb5 hb c1
          replace c2 := cellK hb5 hb c2
          replace c3 := cellK hb5 hb c3
          replace c4 := cellK hb5 hb c4
          obtain ⟨ka, kcap, rfl⟩ := hks.len
          obtain ⟨b9, o9, cap9, va9, vk9, hv9, hb9, g0, g1, g2, g3, g4, _, hks9⟩ := hUW.at hpl
          cases hv9
          generalize l[p] = yp at *
          have hp0 : (0 : Int) ≤ (p : Int) := by omega
          have hp1 : (p : Int) < (l.length : Int) := by omega
          rw [HP.out] at h5' h6' c3 ⊢
          by_cases h8 : yp.ks.count (k : Int) = 1
          case neg =>
            have hR := Lib.hid (hF.out (fun h => by have := h.2.1 h7; rw [hke.out] at this; exact h8 this))
            have h8' : ((yp.ks.count (k : Int) : Int) == 1) = false := intNe (by omega)
            have h8'' : ((yp.ks.count (k : Int) : Int) != 1) = true := by rw [bne, h8']; rfl
            go_wp2_with fail
            refine (count_at yp.ks vk9 k zp _ hks9).mono ?_
            rintro e w7 ⟨rfl, rfl⟩
            go_wp2_with fail
            go_ret
            exact ⟨ret_bool hR.out.symm, hbW⟩
          have hcnt := Lib.hid (show 0 ≤ x.pa → (ksOf l x.pa).count (k : Int) = 1 from fun _ => by rw [hke.out]; exact h8)
          go_wp2_with fail
          refine (count_at yp.ks vk9 k zp _ hks9).mono ?_
          rintro e w7 ⟨rfl, rfl⟩
          rw [h8]
          go_wp2_with fail
          go_loop [5] (fun i => ∃ m : Nat, m ≤ x.ks.length ∧ i = .int .i64 m ∧ Hid (∀ c ∈ x.ks.take m, 0 ≤ c ∧ c < l.length ∧ paOf l c = k)) (fun i => x.ks.length - (intOf i).toNat)
          case atStart => exact ⟨0, Nat.zero_le _, rfl, Lib.hid (by simp)⟩
          case round =>
            obtain ⟨m, hm, rfl, hB⟩ := hrel
            by_cases hlm : m < x.ks.length
            · obtain ⟨kb, ko, kcap', kv, khb, kc0⟩ := hks.at hlm
              cases kv
              have hmem := List.getElem_mem hlm
              have hBT := Lib.hid (fun h => take_mem_snoc (P := fun c : Int => 0 ≤ c ∧ c < l.length ∧ paOf l c = k) hlm hB.out h)
              generalize x.ks[m] = c at *
              have hm0 : (0 : Int) ≤ (m : Int) := by omega
              have hm1 : (m : Int) < (x.ks.length : Int) := by omega
              by_cases e1 : c < 0
              · have hR := Lib.hid (hF.out (fun h => by have := (h.2.2 c hmem).1; omega))
                go_wp2_with fail
                go_ret
                exact ⟨ret_bool hR.out.symm, hbW⟩
              have e1' : decide (c < 0) = false := decide_eq_false e1
              by_cases e2 : (l.length : Int) ≤ c
              · have hR := Lib.hid (hF.out (fun h => by have := (h.2.2 c hmem).2.1; omega))
                go_wp2_with fail
                go_ret
                exact ⟨ret_bool hR.out.symm, hbW⟩
              have e2' : decide ((l.length : Int) ≤ c) = false := decide_eq_false e2
              obtain ⟨q, rfl⟩ := Int.eq_ofNat_of_zero_le (show 0 ≤ c by omega)
              have hq : q < l.length := by omega
              obtain ⟨b2, o2, cap2, va2, vk2, hv2, hb2, d0, d1, d2, d3, d4, _, _⟩ := hUW.at hq
              cases hv2
              have hpq := Lib.hid (paOf_at hq)
              generalize l[q] = y2 at *
              have hq0 : (0 : Int) ≤ (q : Int) := by omega
              have hq1 : (q : Int) < (l.length : Int) := by omega
              by_cases e3 : y2.pa = k
              · have hBN := Lib.hid (hBT.out ⟨by omega, by omega, by rw [hpq.out, e3]⟩)
                rw [e3] at d3
                clear e3
                go_wp2_with fail
                exact ⟨⟨m + 1, by omega, by go_num, hBN⟩, by simp [intOf]; omega⟩
              · have hR := Lib.hid (hF.out (fun h => by have := (h.2.2 _ hmem).2.2; rw [hpq.out] at this; exact e3 this))
                have e3' : (y2.pa == (k : Int)) = false := intNe e3
                have e3'' : (y2.pa != (k : Int)) = true := by rw [bne, e3']; rfl
                clear e3
                go_wp2_with fail
                go_ret
                exact ⟨ret_bool hR.out.symm, hbW⟩
            · obtain rfl : m = x.ks.length := by omega
              have hNN := Lib.hid (hN.out ⟨⟨h4, by omega, by omega⟩, hcnt.out, by have := hB.out; rwa [List.take_of_length_le (Nat.le_refl _)] at this⟩)
              go_wp2_with fail
              go_roundw
              case rel => exact ⟨k + 1, by omega, by go_num, hNN, hbW⟩
              case measure => simp [intOf]; omega
        · have hcnt := Lib.hid (show 0 ≤ x.pa → (ksOf l x.pa).count (k : Int) = 1 from fun h => absurd h h7)
          have h7' : decide (0 ≤ x.pa) = false := decide_eq_false h7
          go_wp2_with fail
          refine (alone_any x va vk z2 z3 z0 z1 _ hat hks z4).mono ?_
          rintro e w' ⟨rfl, hb5⟩
          rw [HF.out]
          have hbW := hbel.trans (hb5.mono (by omega))
          have hUW := hU.kept hbW
          replace hat := hat.kept hb5
          replace hks := hks.kept hb5
          replace c0 := cellK hb5 hb c0
          replace c1 := cellK hb5 hb c1
          replace c2 := cellK hb5 hb c2
          replace c3 := cellK hb5 hb c3
          replace c4 := cellK hb5 hb c4
          obtain ⟨ka, kcap, rfl⟩ := hks.len
          go_wp2_with fail
          go_loop [5] (fun i => ∃ m : Nat, m ≤ x.ks.length ∧ i = .int .i64 m ∧ Hid (∀ c ∈ x.ks.take m, 0 ≤ c ∧ c < l.length ∧ paOf l c = k)) (fun i => x.ks.length - (intOf i).toNat)
          case atStart => exact ⟨0, Nat.zero_le _, rfl, Lib.hid (by simp)⟩
          case round =>
            obtain ⟨m, hm, rfl, hB⟩ := hrel
            by_cases hlm : m < x.ks.length
            · obtain ⟨kb, ko, kcap', kv, khb, kc0⟩ := hks.at hlm
              cases kv
              have hmem := List.getElem_mem hlm
              have hBT := Lib.hid (fun h => take_mem_snoc (P := fun c : Int => 0 ≤ c ∧ c < l.length ∧ paOf l c = k) hlm hB.out h)
              generalize x.ks[m] = c at *
              have hm0 : (0 : Int) ≤ (m : Int) := by omega
              have hm1 : (m : Int) < (x.ks.length : Int) := by omega
              by_cases e1 : c < 0
              · have hR := Lib.hid (hF.out (fun h => by have := (h.2.2 c hmem).1; omega))
                go_wp2_with fail
                go_ret
                exact ⟨ret_bool hR.out.symm, hbW⟩
              have e1' : decide (c < 0) = false := decide_eq_false e1
              by_cases e2 : (l.length : Int) ≤ c
              · have hR := Lib.hid (hF.out (fun h => by have := (h.2.2 c hmem).2.1; omega))
                go_wp2_with fail
                go_ret
                exact ⟨ret_bool hR.out.symm, hbW⟩
              have e2' : decide ((l.length : Int) ≤ c) = false := decide_eq_false e2
              obtain ⟨q, rfl⟩ := Int.eq_ofNat_of_zero_le (show 0 ≤ c by omega)
              have hq : q < l.length := by omega
              obtain ⟨b2, o2, cap2, va2, vk2, hv2, hb2, d0, d1, d2, d3, d4, _, _⟩ := hUW.at hq
              cases hv2
              have hpq := Lib.hid (paOf_at hq)
              generalize l[q] = y2 at *
              have hq0 : (0 : Int) ≤ (q : Int) := by omega
              have hq1 : (q : Int) < (l.length : Int) := by omega
              by_cases e3 : y2.pa = k
              · have hBN := Lib.hid (hBT.out ⟨by omega, by omega, by rw [hpq.out, e3]⟩)
                rw [e3] at d3
                clear e3
                go_wp2_with fail
                exact ⟨⟨m + 1, by omega, by go_num, hBN⟩, by simp [intOf]; omega⟩
              · have hR := Lib.hid (hF.out (fun h => by have := (h.2.2 _ hmem).2.2; rw [hpq.out] at this; exact e3 this))
                have e3' : (y2.pa == (k : Int)) = false := intNe e3
                have e3'' : (y2.pa != (k : Int)) = true := by rw [bne, e3']; rfl
                clear e3
                go_wp2_with fail
                go_ret
                exact ⟨ret_bool hR.out.symm, hbW⟩
            · obtain rfl : m = x.ks.length := by omega
              have hNN := Lib.hid (hN.out ⟨⟨h4, by omega, by omega⟩, hcnt.out, by have := hB.out; rwa [List.take_of_length_le (Nat.le_refl _)] at this⟩)
              go_wp2_with fail
              go_roundw
              case rel => exact ⟨k + 1, by omega, by go_num, hNN, hbW⟩
              case measure => simp [intOf]; omega
    · obtain rfl : k = l.length := by omega
      have hUr := hU.kept hbel
      go_wp2_with fail
      go_loop [7] (fun i => ∃ k : Nat, k ≤ l.length ∧ i = .int .i64 k ∧ Hid (∀ i : Nat, i < k → upN l (l.length + 1) i < 0)) (fun i => l.length - (intOf i).toNat)
      case atStart => exact ⟨0, Nat.zero_le _, rfl, Lib.hid (fun j hj => by omega)⟩
      case round =>
        obtain ⟨k, hk, rfl, hC⟩ := hrel
        by_cases hlt : k < l.length
        · have hk1 : (k : Int) < (l.length : Int) := by omega
          have hCN := Lib.hid (fun (h : upN l (l.length + 1) k < 0) => show ∀ i : Nat, i < k + 1 → upN l (l.length + 1) i < 0 from fun j hj => by
            by_cases e : j = k
            · rw [e]; exact h
            · exact hC.out j (by omega))
          have hCF := Lib.hid (fun (h : ¬ upN l (l.length + 1) k < 0) => rightB_no (fun H : RightP l => h (H.climb k hlt)))
          go_wp2_with fail
          go_loop [8, 9] (fun c n => ∃ (m : Nat) (z : Int), m ≤ l.length + 1 ∧ n = .int .i64 m ∧ c = .int .i64 z ∧ z < l.length ∧ Hid (upN l (l.length + 1 - m) z = upN l (l.length + 1) k)) (fun _ n => l.length + 1 - (intOf n).toNat)
          case atStart => exact ⟨0, k, Nat.zero_le _, rfl, rfl, hk1, Lib.hid rfl⟩
          case round =>
            obtain ⟨m, z, hm, rfl, rfl, hzl, hD⟩ := hrel
            by_cases f1 : z < 0
            · have hNN := Lib.hid (hCN.out (by rw [← hD.out, upN_neg l f1]; exact f1))
              have f1' : decide (0 ≤ z) = false := decide_eq_false (by omega)
              go_wp2_with fail
              exact ⟨⟨k + 1, by omega, by go_num, hNN⟩, by simp [intOf]; omega⟩
            have f1' : 0 ≤ z := by omega
            by_cases f2 : m ≤ l.length
            · obtain ⟨q, rfl⟩ := Int.eq_ofNat_of_zero_le f1'
              have hq : q < l.length := by omega
              have hDN := Lib.hid (show upN l (l.length + 1 - (m + 1)) l[q].pa = upN l (l.length + 1) k by
                rw [← hD.out, show l.length + 1 - m = (l.length + 1 - (m + 1)) + 1 by omega, upN_step l f1', paOf_at hq])
              obtain ⟨b2, o2, cap2, va2, vk2, hv2, hb2, d0, d1, d2, d3, d4, _, _⟩ := hUr.at hq
              cases hv2
              have hpal := (hA.out q hq _ (List.getElem?_eq_getElem hq)).1.2.2
              generalize l[q] = y2 at *
              have hq0 : (0 : Int) ≤ (q : Int) := by omega
              have hq1 : (q : Int) < (l.length : Int) := by omega
              have f2' : (m : Int) ≤ (l.length : Int) := by omega
              go_wp2_with fail
              exact ⟨⟨m + 1, y2.pa, by omega, by go_num, rfl, hpal, hDN⟩, by simp [intOf]; omega⟩
            · obtain rfl : m = l.length + 1 := by omega
              have hR := Lib.hid (hCF.out (by rw [← hD.out, Nat.sub_self, show upN l 0 z = z by unfold upN; rfl]; omega))
              have f2' : decide (((l.length + 1 : Nat) : Int) ≤ (l.length : Int)) = false := decide_eq_false (by omega)
              go_wp2_with fail
              go_ret
              exact ⟨ret_bool hR.out.symm, hbel⟩
        · obtain rfl : k = l.length := by omega
          have hR := Lib.hid (rightB_yes (l := l) ⟨hpos, by omega, hTT.out, fun i x hx => (hA.out i (List.getElem?_eq_some_iff.1 hx).1 x hx).1, fun i x hx => (hA.out i (List.getElem?_eq_some_iff.1 hx).1 x hx).2.2, fun i x hx => (hA.out i (List.getElem?_eq_some_iff.1 hx).1 x hx).2.1, hC.out⟩)
          go_wp2_with fail
          go_ret
          exact ⟨ret_bool hR.out.symm, hbel⟩
end Go.Proofs.YtafbghlldlconaaGreatDoor

/-
  DOCUMENTS THAT CAME IN: what the row's reach says of their sizes.
-/
namespace Go.Proofs.YtafbghlldlconaaGreatDoor
set_option linter.unusedVariables false
set_option linter.unusedSimpArgs false
open Go.RowKit

/-- what the row's reach says of a document -/
structure Sized (l : List Nd) : Prop where
  len : l.length * 88 ≤ 140737488351232
  at' : ∀ x ∈ l, x.ats.length * 32 ≤ 140737488351232
  ki' : ∀ x ∈ l, x.ks.length * 8 ≤ 140737488351232
/-- a document that came in -/
structure Came (l : List Nd) (v : Value) (w : World) : Prop where
  nodes : Nodes l v w
  fits : ∀ x ∈ l, Fits x
  sized : Sized l
theorem Came.len {l : List Nd} {v : Value} {w : World} (h : Came l v w) : l.length ≤ 1000000000000000000 := by
  have := h.sized.len
  omega
theorem Came.kept {l : List Nd} {v : Value} {w w' : World} (h : Came l v w) (hb : Below w.heap.size w w') : Came l v w' := ⟨h.nodes.kept hb, h.fits, h.sized⟩
end Go.Proofs.YtafbghlldlconaaGreatDoor

/-
  A DOCUMENT OF ITS OWN: ref10.Copied: the walk.
-/
namespace Go.Proofs.YtafbghlldlconaaGreatDoor
set_option linter.unusedVariables false
set_option linter.unusedSimpArgs false
open Go.RowKit

theorem cpS_kept {b o : Nat} {c0 c1 c2 : Value} {w1 W W' : World} (h : W.cell? ⟨b, o, none⟩ = some c0 ∧ W.cell? ⟨b, o + 1, none⟩ = some c1 ∧ W.cell? ⟨b, o + 3, none⟩ = some c2 ∧ b < w1.heap.size ∧ Below w1.heap.size w1 W) (hb : Below W.heap.size W W') :
    W'.cell? ⟨b, o, none⟩ = some c0 ∧ W'.cell? ⟨b, o + 1, none⟩ = some c1 ∧ W'.cell? ⟨b, o + 3, none⟩ = some c2 ∧ b < w1.heap.size ∧ Below w1.heap.size w1 W' := by
  obtain ⟨h0, h1, h2, he, hbe⟩ := h
  have hs := hbe.size
  exact ⟨cellK hb (by omega) h0, cellK hb (by omega) h1, cellK hb (by omega) h2, he, hbe.trans (hb.mono hs)⟩
theorem cpS_drew {b o : Nat} {c0 c1 c2 : Value} {w1 W : World} (h : W.cell? ⟨b, o, none⟩ = some c0 ∧ W.cell? ⟨b, o + 1, none⟩ = some c1 ∧ W.cell? ⟨b, o + 3, none⟩ = some c2 ∧ b < w1.heap.size ∧ Below w1.heap.size w1 W) :
    W.drew.cell? ⟨b, o, none⟩ = some c0 ∧ W.drew.cell? ⟨b, o + 1, none⟩ = some c1 ∧ W.drew.cell? ⟨b, o + 3, none⟩ = some c2 ∧ b < w1.heap.size ∧ Below w1.heap.size w1 W.drew :=
  cpS_kept h ⟨rfl, rfl, rfl, Nat.le_refl _, fun _ _ => rfl⟩
theorem cpS_alloc {b o : Nat} {c0 c1 c2 : Value} {w1 W : World} (ob : Obj) (h : W.cell? ⟨b, o, none⟩ = some c0 ∧ W.cell? ⟨b, o + 1, none⟩ = some c1 ∧ W.cell? ⟨b, o + 3, none⟩ = some c2 ∧ b < w1.heap.size ∧ Below w1.heap.size w1 W) :
    (W.alloc ob).cell? ⟨b, o, none⟩ = some c0 ∧ (W.alloc ob).cell? ⟨b, o + 1, none⟩ = some c1 ∧ (W.alloc ob).cell? ⟨b, o + 3, none⟩ = some c2 ∧ b < w1.heap.size ∧ Below w1.heap.size w1 (W.alloc ob) :=
  cpS_kept h ((Below.refl W.heap.size W).alloc (Nat.le_refl _) ob)
theorem cpS_at {b o : Nat} {c0 c1 c2 : Value} {w1 W W' : World} (h : W.cell? ⟨b, o, none⟩ = some c0 ∧ W.cell? ⟨b, o + 1, none⟩ = some c1 ∧ W.cell? ⟨b, o + 3, none⟩ = some c2 ∧ b < w1.heap.size ∧ Below w1.heap.size w1 W) (hb : Below w1.heap.size W W') :
    W'.cell? ⟨b, o, none⟩ = some c0 ∧ W'.cell? ⟨b, o + 1, none⟩ = some c1 ∧ W'.cell? ⟨b, o + 3, none⟩ = some c2 ∧ b < w1.heap.size ∧ Below w1.heap.size w1 W' := by
  obtain ⟨h0, h1, h2, he, hbe⟩ := h
  exact ⟨cellK hb he h0, cellK hb he h1, cellK hb he h2, he, hbe.trans hb⟩
/-- a world that has no name gets one -/
theorem name_world {W : World} {g : Nat} {o : Obj} (_h : W.heap[g]? = some o) : ∃ W' : World, W' = W := ⟨W, rfl⟩
theorem grown_none {W w' : World} (h : W.grownBy w' none) : Below W.heap.size W w' := (Below.refl _ W).grown h (Nat.le_refl _) (fun k hk => by cases hk)
set_option maxHeartbeats 4000000 in
set_option maxRecDepth 100000 in
theorem copied_any (l : List Nd) (v : Value) (w : World) (hZ : Sized l) (hU : Nodes l v w) :
    Calls Tryz.prog 28 #[v] w fun e w' => ∃ L vo, e = .returned vo ∧ Hid (L.map (·.1) = l) ∧ ON w.heap.size L vo w' ∧ Below w.heap.size w w' := by
  obtain ⟨a, cap, rfl⟩ := hU.len
  have hll := hZ.len
  go_enter Tryz.func28, Tryz.ntmps28
  go_wp2_with fail
  go_loopw [3, 4] (fun vo i wr => ∃ k L, k ≤ l.length ∧ i = .int .i64 (k : Nat) ∧ Hid (L.map (·.1) = l.take k) ∧ ON w.heap.size L vo wr ∧ Below w.heap.size w wr) (fun _ i _ => l.length - (intOf i).toNat)
  case atStart => exact ⟨0, [], Nat.zero_le _, rfl, Lib.hid rfl, ON.nil _ _, Below.refl _ _⟩
  case round =>
    obtain ⟨k, L, hk, rfl, hL, hON, hbel⟩ := hrel
    have hsz := hbel.size
    by_cases hlt : k < l.length
    · have hUr := hU.kept hbel
      obtain ⟨b, o, cap', va, vk, hv, hb, c0, c1, c2, c3, c4, hat, hks⟩ := hUr.at hlt
      cases hv
      have hza := hZ.at' _ (List.getElem_mem hlt)
      have hzk := hZ.ki' _ (List.getElem_mem hlt)
      have hLk := Lib.hid (show L.map (·.1) ++ [l[k]] = l.take (k + 1) by rw [hL.out, List.take_succ_eq_append_getElem hlt])
      have hLl := Lib.hid (show L.length = k by have := congrArg List.length hL.out; rw [List.length_map, List.length_take] at this; omega)
      generalize l[k] = x at *
      have hk0 : (0 : Int) ≤ (k : Int) := by omega
      have hk1 : (k : Int) < (l.length : Int) := by omega
      have hS1 := And.intro c0 (And.intro c1 (And.intro c3 (And.intro hb (Below.refl wr.heap.size wr))))
      obtain ⟨a1, cap1, rfl⟩ := hat.len
      obtain ⟨a2, cap2, rfl⟩ := hks.len
      go_upto_region 5 with fail
      go_cut [5] (fun s5 wx => ∃ g, s5 = .pointer (some ⟨g, 0, none⟩) ∧ wx.heap[g]? = some (.cells #[.string x.nm, .string x.tx, .slice none 0 0, .int .i64 x.pa, .slice none 0 0] 54 (0, 0)) ∧ wr.heap.size ≤ g ∧ Below wr.heap.size wr wx)
      case first =>
        go_region_held3 (fun W => W.cell? ⟨b, o + k * 5, none⟩ = some (.string x.nm) ∧ W.cell? ⟨b, o + k * 5 + 1, none⟩ = some (.string x.tx) ∧ W.cell? ⟨b, o + k * 5 + 3, none⟩ = some (.int .i64 x.pa) ∧ b < wr.heap.size ∧ Below wr.heap.size wr W) (with_reducible first | assumption | exact cpS_drew (by assumption) | exact cpS_alloc _ (by assumption) | exact cpS_drew (cpS_alloc _ hS1) | exact cpS_alloc _ (cpS_drew hS1) | exact cpS_kept (by assumption) (by assumption) | exact cpS_at (by assumption) (below_re _ _ _ (by assumption)) | exact cpS_at (by assumption) (set5_below _ _ _ _ _ _ _ (by first | assumption | exact Nat.le_refl _))) ((first
          | fail))
        all_goals
          go_wp2_with fail
          go_meet
          exact ⟨_, rfl, Go.heap_alloc_new _ _, Nat.le_refl _, (by assumption : _ ∧ _ ∧ _ ∧ _ ∧ _).2.2.2.2⟩
      case rest =>
        obtain ⟨g, rfl, hg, hgw, hb1⟩ := hcut
        obtain ⟨W1, rfl⟩ := name_world hg
        have hgs := (Array.getElem?_eq_some_iff.1 hg).1
        have hs1 := hb1.size
        obtain ⟨x0, x1, x2, x3, x4, f0, f1, f2, f3, f4⟩ := five_of hg
        have d2 := cellK hb1 hb c2
        have d4 := cellK hb1 hb c4
        have hat1 := hat.kept hb1
        have hks1 := hks.kept hb1
        have hON1 := hON.kept hb1
        have hsb : w.heap.size ≤ W1.heap.size := by omega
        have hby1 : (([] : List At).length + x.ats.length) * 32 ≤ 140737488355328 := by rw [List.length_nil]; omega
        go_upto_region 6 with fail
        go_cut [] (fun wy => ∃ aq capq, wy.heap[g]? = some (.cells #[.string x.nm, .string x.tx, .slice aq x.ats.length capq, .int .i64 x.pa, .slice none 0 0] 54 (0, 0)) ∧ OA w.heap.size x.ats (.slice aq x.ats.length capq) wy ∧ Below wr.heap.size wr wy)
        case first =>
          first | go_region_law ((first
            | (refine step_append_atts (W := W1.drew) (base := w.heap.size) (l := []) rfl _ _ rfl rfl rfl hat1 rfl (World.ownsRow_nil _ _ _ _) hby1 hsb ?_; intro v' w3 hA3 hg3 _; obtain ⟨aq, capq, rfl, _⟩ := own_form hA3; have hb3 : Below W1.heap.size W1 w3 := ((Below.refl _ W1).drew).trans (grown_none hg3); have zz := blk_kept hb3 hg; obtain ⟨_, _, _, _, _, _, _, _, _, _⟩ := five_of zz))) | fail
          all_goals
            go_wp2_with fail
            go_meet
            exact ⟨aq, capq, setCell_heap (i := 2) _ zz, own_set hA3 zz (by decide), (hb1.trans (hb3.mono hs1)).setCell hgw _⟩
        case rest =>
          obtain ⟨aq, capq, hg2, hA2, hb2⟩ := hcut
          obtain ⟨W2, rfl⟩ := name_world hg2
          have hgs2 := (Array.getElem?_eq_some_iff.1 hg2).1
          have hs2 := hb2.size
          clear x0 x1 x2 x3 x4 f0 f1 f2 f3 f4 d2 d4 hat1 hks1 hON1 hg hs1
          obtain ⟨x0, x1, x2, x3, x4, f0, f1, f2, f3, f4⟩ := five_of hg2
          have d4 := cellK hb2 hb c4
          have hks2 := hks.kept hb2
          have hsb2 : w.heap.size ≤ W2.heap.size := by omega
          have hby2 : (([] : List Int).length + x.ks.length) * 8 ≤ 140737488355328 := by rw [List.length_nil]; omega
          go_upto_region 7 with fail
          go_cut [] (fun wy => ∃ aq' capq', wy.heap[g]? = some (.cells #[.string x.nm, .string x.tx, .slice aq x.ats.length capq, .int .i64 x.pa, .slice aq' x.ks.length capq'] 54 (0, 0)) ∧ OA w.heap.size x.ats (.slice aq x.ats.length capq) wy ∧ OI w.heap.size x.ks (.slice aq' x.ks.length capq') wy ∧ Below wr.heap.size wr wy)
          case first =>
            first | go_region_law ((first
              | (refine step_append_nums (W := W2.drew) (base := w.heap.size) (l := []) rfl _ _ rfl rfl rfl hks2 rfl (World.ownsRow_nil _ _ _ _) hby2 hsb2 ?_; intro v' w3 hI3 hg3 _; obtain ⟨ap, capp, rfl, _⟩ := own_form hI3; have hb3 : Below W2.heap.size W2 w3 := ((Below.refl _ W2).drew).trans (grown_none hg3); have hA3 := own_keep hA2 hb3; have zz := blk_kept hb3 hg2; obtain ⟨_, _, _, _, _, _, _, _, _, _⟩ := five_of zz))) | fail
            all_goals
              go_wp2_with fail
              go_meet
              exact ⟨ap, capp, setCell_heap (i := 4) _ zz, own_set hA3 zz (by decide), own_set hI3 zz (by decide), (hb2.trans (hb3.mono hs2)).setCell hgw _⟩
          case rest =>
            obtain ⟨ap, capp, hg3, hA3, hI3, hb3⟩ := hcut
            obtain ⟨W3, rfl⟩ := name_world hg3
            have hs3 := hb3.size
            clear x0 x1 x2 x3 x4 f0 f1 f2 f3 f4 d4 hks2 hA2 hb2
            obtain ⟨x0, x1, x2, x3, x4, f0, f1, f2, f3, f4⟩ := five_of hg3
            have hON3 := hON.kept hb3
            have hby3 : (L.length + 1) * 88 ≤ 140737488355328 := by rw [hLl.out]; omega
            have hsb3 : w.heap.size ≤ W3.heap.size := by omega
            clear f0 f1 f2 f3 f4 c0 c1 c2 c3 c4 hat hks
            go_wp2_with (at_builtin; refine wpList_append_node rfl _ _ rfl rfl rfl x _ _ hON3 hA3 hI3 hby3 hsb3 ?_; intro v5 w5 hON5 hb5)
            go_roundw
            case rel => exact ⟨k + 1, L ++ [(x, _, _)], by omega, by go_num, Lib.hid (by rw [List.map_append, ← hLk.out]; rfl), hON5, (hbel.trans (hb3.mono hsz)).trans hb5⟩
            case measure => simp [intOf]; omega
    · obtain rfl : k = l.length := by omega
      have hR := Lib.hid (show L.map (·.1) = l by rw [hL.out, List.take_of_length_le (Nat.le_refl _)])
      go_wp2_with fail
      go_ret
      exact ⟨L, _, rfl, hR, hON, hbel⟩
/-- what the copy reads -/
theorem copied_nodes (l : List Nd) (v : Value) (w : World) (hC : Came l v w) :
    Calls Tryz.prog 28 #[v] w fun e w' => ∃ vo, e = .returned vo ∧ Came l vo w' ∧ Below w.heap.size w w' :=
  (copied_any l v w hC.sized hC.nodes).mono fun _ _ ⟨L, vo, he, hL, hON, hb⟩ => ⟨vo, he, ⟨by have := hON.nodes; rwa [hL.out] at this, hC.fits, hC.sized⟩, hb⟩
end Go.Proofs.YtafbghlldlconaaGreatDoor

/-
  STATES (api.Ctl): rows that came in, rows that the call itself builds; slices.Clone of both; ref15.Copied.
-/
namespace Go.Proofs.YtafbghlldlconaaGreatDoor
set_option linter.unusedVariables false
set_option linter.unusedSimpArgs false
open Go.RowKit

structure Ct where
  va : ByteArray
  di : Bool
  ty : Bool
  ch : Bool
  dc : Bool
  mi : Bool
  se : Bool
  ds : Bool
  cu : ByteArray
  fi : List Ent
/-- a state, and the value of its files -/
abbrev CtT := Ct × Value
def ctC (t : CtT) : List Value := [.string t.1.va, .bool t.1.di, .bool t.1.ty, .bool t.1.ch, .bool t.1.dc, .bool t.1.mi, .bool t.1.se, .bool t.1.ds, .string t.1.cu, t.2]
def ctV (t : CtT) : Value := .agg #[.string t.1.va, .bool t.1.di, .bool t.1.ty, .bool t.1.ch, .bool t.1.dc, .bool t.1.mi, .bool t.1.se, .bool t.1.ds, .string t.1.cu, t.2]
theorem ctC_len (t : CtT) : (ctC t).length = 10 := rfl
theorem Ents.none_cap {l : List Ent} {w : World} {ao : Option Addr} {m cap : Nat} (h : Ents l (.slice ao m cap) w) : ao = none → m = 0 ∧ cap = 0 := by
  rintro rfl
  rcases h with ⟨rfl, a, cap', hv, hc⟩ | ⟨b, o, cap', hv, _⟩
  · cases hv; exact ⟨rfl, hc rfl⟩
  · cases hv
theorem Ents.src {l : List Ent} {w : World} {ad : Addr} {m cap : Nat} (h : Ents l (.slice (some ad) m cap) w) : ∀ j u, (l.flatMap entCells)[j]? = some u → w.cell? (ad.add j) = some u := by
  rcases h with ⟨rfl, _⟩ | ⟨b, o, cap', hv, _, hc⟩
  · intro j u hu; simp at hu
  · cases hv
    exact flat_src (m := 5) (by omega) entCells_len hc
/-- files whose block is older than 'base', or a row of entries -/
def Fil (base : Nat) (es : List Ent) (v : Value) (w : World) : Prop := Ents es v w ∧ ∀ b o s n c, v = .slice (some ⟨b, o, s⟩) n c → es ≠ [] → b < base ∨ ∃ cur, w.heap[b]? = some (.cells cur 73 (0, 0))
theorem Ents.blk {es : List Ent} {w : World} {b o n c : Nat} {s} (h : Ents es (.slice (some ⟨b, o, s⟩) n c) w) (hn : es ≠ []) : b < w.heap.size := by
  rcases h with ⟨rfl, _⟩ | ⟨b', o', cap', hv, hb, _⟩
  · exact absurd rfl hn
  · cases hv; exact hb
theorem Fil.kept {base : Nat} {es : List Ent} {v : Value} {w w' : World} (h : Fil base es v w) (hb : Below w.heap.size w w') : Fil base es v w' := by
  refine ⟨h.1.kept hb, fun b o s n c hv hn => ?_⟩
  rcases h.2 b o s n c hv hn with h2 | ⟨cur, h2⟩
  · exact .inl h2
  · exact .inr ⟨cur, blk_kept hb h2⟩
theorem Fil.mono {base base' : Nat} {es : List Ent} {v : Value} {w : World} (h : Fil base es v w) (hb : base ≤ base') : Fil base' es v w :=
  ⟨h.1, fun b o s n c hv hn => (h.2 b o s n c hv hn).imp (fun h => Nat.lt_of_lt_of_le h hb) id⟩
theorem Ents.fil {es : List Ent} {v : Value} {w : World} (h : Ents es v w) : Fil w.heap.size es v w := by
  refine ⟨h, fun b o s n c hv hn => .inl ?_⟩
  subst hv
  exact h.blk hn
theorem OE.fil {base base' : Nat} {es : List Ent} {v : Value} {w : World} (h : OE base es v w) : Fil base' es v w := by
  refine ⟨h.ents, fun b o s n c hv hn => .inr ?_⟩
  subst hv
  obtain ⟨_, ⟨hv, _⟩ | ⟨g, cap, cur, hv, h2, h3, _⟩⟩ := h
  · cases hv
  · cases hv; exact ⟨cur, h3⟩
/-- a store into a row of states leaves the files -/
theorem Fil.setT {base : Nat} {es : List Ent} {v u : Value} {w : World} {g i : Nat} {cur : Array Value} {T : TypeId} (hT : 73 ≠ T) (h : Fil base es v w) (hg : w.heap[g]? = some (.cells cur T (0, 0))) (hb : base ≤ g) : Fil base es v (w.setCell ⟨g, i, none⟩ u) := by
  have hne : ∀ b o s n c, v = .slice (some ⟨b, o, s⟩) n c → es ≠ [] → b ≠ g := by
    intro b o s n c hv hn e
    subst e
    rcases h.2 b o s n c hv hn with h2 | ⟨cur', h2⟩
    · omega
    · rw [hg] at h2
      injection h2 with h2
      injection h2 with _ h2
      exact absurd h2.symm hT
  have hk : ∀ b o s n c, v = .slice (some ⟨b, o, s⟩) n c → es ≠ [] → (w.setCell ⟨g, i, none⟩ u).heap[b]? = w.heap[b]? := fun b o s n c hv hn => heap_setCell_other w ⟨g, i, none⟩ b u (hne b o s n c hv hn)
  refine ⟨?_, fun b o s n c hv hn => ?_⟩
  · rcases h.1 with h1 | ⟨b, o, cap, hv, h1, h4⟩
    · exact .inl h1
    · by_cases hn : es = []
      · subst hn; subst hv
        exact .inl ⟨rfl, _, cap, rfl, fun e => by cases e⟩
      · refine .inr ⟨b, o, cap, hv, by simpa [World.setCell] using h1, fun j e he i' u' hu => ?_⟩
        rw [← h4 j e he i' u' hu]
        simp only [World.cell?, hk b o none _ _ hv hn]
  · rw [hk b o s n c hv hn]
    exact h.2 b o s n c hv hn

theorem Fil.set {base : Nat} {es : List Ent} {v u : Value} {w : World} {g i : Nat} {cur : Array Value} (h : Fil base es v w) (hg : w.heap[g]? = some (.cells cur 104 (0, 0))) (hb : base ≤ g) : Fil base es v (w.setCell ⟨g, i, none⟩ u) := h.setT (by decide) hg hb
/-- the value v is a slice of states -/
def CtR (L : List CtT) (v : Value) (w : World) : Prop :=
  (L = [] ∧ ∃ a cap, v = .slice a 0 cap ∧ (a = none → cap = 0)) ∨ ∃ b o cap, v = .slice (some ⟨b, o, none⟩) L.length cap ∧ L.length ≤ cap ∧ b < w.heap.size ∧ ∀ j t, L[j]? = some t → ∀ i u, (ctC t)[i]? = some u → w.cell? ⟨b, o + j * 10 + i, none⟩ = some u
def Ctls (cs : List Ct) (v : Value) (w : World) : Prop := ∃ L : List CtT, L.map (·.1) = cs ∧ CtR L v w ∧ ∀ t ∈ L, Ents t.1.fi t.2 w
/-- states whose files lie in blocks older than 'base' (or in rows of entries) -/
def CtlsB (base : Nat) (cs : List Ct) (v : Value) (w : World) : Prop := ∃ L : List CtT, L.map (·.1) = cs ∧ CtR L v w ∧ ∀ t ∈ L, Fil base t.1.fi t.2 w
theorem Ctls.at_base {cs : List Ct} {v : Value} {w : World} (h : Ctls cs v w) : CtlsB w.heap.size cs v w := by
  obtain ⟨L, h1, h2, h3⟩ := h
  exact ⟨L, h1, h2, fun t ht => (h3 t ht).fil⟩
theorem CtlsB.ctls {base : Nat} {cs : List Ct} {v : Value} {w : World} (h : CtlsB base cs v w) : Ctls cs v w := by
  obtain ⟨L, h1, h2, h3⟩ := h
  exact ⟨L, h1, h2, fun t ht => (h3 t ht).1⟩
theorem grown_below {W w' : World} (h : W.grownBy w' none) : Below W.heap.size W w' := (Below.refl _ W).grown h (Nat.le_refl _) (fun k hk => by cases hk)
theorem CtR.kept {L : List CtT} {v : Value} {w w' : World} (h : CtR L v w) (hb : Below w.heap.size w w') : CtR L v w' := by
  rcases h with h | ⟨b, o, cap, rfl, h0, h1, h4⟩
  · exact .inl h
  · refine .inr ⟨b, o, cap, rfl, h0, by have := hb.size; omega, fun j e he i u hu => ?_⟩
    rw [← h4 j e he i u hu]
    simp only [World.cell?, hb.block b h1]
theorem Ctls.kept {cs : List Ct} {v : Value} {w w' : World} (h : Ctls cs v w) (hb : Below w.heap.size w w') : Ctls cs v w' := by
  obtain ⟨L, h1, h2, h3⟩ := h
  exact ⟨L, h1, h2.kept hb, fun t ht => (h3 t ht).kept hb⟩
theorem CtlsB.kept {base : Nat} {cs : List Ct} {v : Value} {w w' : World} (h : CtlsB base cs v w) (hb : Below w.heap.size w w') : CtlsB base cs v w' := by
  obtain ⟨L, h1, h2, h3⟩ := h
  exact ⟨L, h1, h2.kept hb, fun t ht => (h3 t ht).kept hb⟩
theorem CtR.len {L : List CtT} {v : Value} {w : World} (h : CtR L v w) : ∃ a cap, v = .slice a L.length cap := by
  rcases h with ⟨rfl, a, cap, rfl, _⟩ | ⟨b, o, cap, rfl, _⟩
  · exact ⟨_, _, rfl⟩
  · exact ⟨_, _, rfl⟩
theorem Ctls.len {cs : List Ct} {v : Value} {w : World} (h : Ctls cs v w) : ∃ a cap, v = .slice a cs.length cap := by
  obtain ⟨L, rfl, h2, _⟩ := h
  rw [List.length_map]
  exact h2.len
theorem CtR.none_cap {L : List CtT} {w : World} {ao : Option Addr} {m cap : Nat} (h : CtR L (.slice ao m cap) w) : ao = none → m = 0 ∧ cap = 0 := by
  rintro rfl
  rcases h with ⟨rfl, a, cap', hv, hc⟩ | ⟨b, o, cap', hv, _⟩
  · cases hv; exact ⟨rfl, hc rfl⟩
  · cases hv
theorem CtR.src {L : List CtT} {w : World} {ad : Addr} {m cap : Nat} (h : CtR L (.slice (some ad) m cap) w) : ∀ j u, (L.flatMap ctC)[j]? = some u → w.cell? (ad.add j) = some u := by
  rcases h with ⟨rfl, _⟩ | ⟨b, o, cap', hv, _, _, hc⟩
  · intro j u hu; simp at hu
  · cases hv
    exact flat_src (m := 10) (by omega) ctC_len hc
/-- the ten cells of a state -/
def Ten (b o : Nat) (c : Ct) (vf : Value) (w : World) : Prop :=
  w.cell? ⟨b, o, none⟩ = some (.string c.va) ∧ w.cell? ⟨b, o + 1, none⟩ = some (.bool c.di) ∧ w.cell? ⟨b, o + 2, none⟩ = some (.bool c.ty) ∧ w.cell? ⟨b, o + 3, none⟩ = some (.bool c.ch) ∧ w.cell? ⟨b, o + 4, none⟩ = some (.bool c.dc) ∧
  w.cell? ⟨b, o + 5, none⟩ = some (.bool c.mi) ∧ w.cell? ⟨b, o + 6, none⟩ = some (.bool c.se) ∧ w.cell? ⟨b, o + 7, none⟩ = some (.bool c.ds) ∧ w.cell? ⟨b, o + 8, none⟩ = some (.string c.cu) ∧ w.cell? ⟨b, o + 9, none⟩ = some vf
theorem Ctls.at {cs : List Ct} {v : Value} {w : World} (h : Ctls cs v w) {k : Nat} (hk : k < cs.length) : ∃ b o cap vf, v = .slice (some ⟨b, o, none⟩) cs.length cap ∧ b < w.heap.size ∧ Ten b (o + k * 10) cs[k] vf w ∧ Ents cs[k].fi vf w := by
  obtain ⟨L, rfl, h2, h3⟩ := h
  rw [List.length_map] at hk
  rw [List.length_map, List.getElem_map]
  rcases h2 with ⟨rfl, _⟩ | ⟨b, o, cap, rfl, h0, h1, h4⟩
  · simp at hk
  · have hc := h4 k L[k] (List.getElem?_eq_getElem hk)
    exact ⟨b, o, cap, L[k].2, rfl, h1, ⟨hc 0 _ rfl, hc 1 _ rfl, hc 2 _ rfl, hc 3 _ rfl, hc 4 _ rfl, hc 5 _ rfl, hc 6 _ rfl, hc 7 _ rfl, hc 8 _ rfl, hc 9 _ rfl⟩, h3 _ (List.getElem_mem hk)⟩

/-- a row of states that the call itself has built since 'base' blocks lay -/
structure OC (base : Nat) (L : List CtT) (v : Value) (w : World) : Prop where
  row : w.ownsRow base 104 10 v L.length (L.flatMap ctC)
  fil : ∀ t ∈ L, Fil base t.1.fi t.2 w
theorem OC.nil (base : Nat) (w : World) : OC base [] (.slice none 0 0) w := ⟨World.ownsRow_nil w base _ _, by simp⟩
theorem OC.kept {base : Nat} {L : List CtT} {v : Value} {w w' : World} (h : OC base L v w) (hb : Below w.heap.size w w') : OC base L v w' := ⟨own_keep h.row hb, fun t ht => (h.fil t ht).kept hb⟩
theorem OC.ctr {base : Nat} {L : List CtT} {v : Value} {w : World} (h : OC base L v w) : CtR L v w := by
  by_cases hl : L = []
  · subst hl
    obtain ⟨a, cap, rfl, hc⟩ := own_form h.row
    exact .inl ⟨rfl, a, cap, rfl, hc⟩
  · obtain ⟨g, cap, rfl, hn, _, hg, hc⟩ := own_cell h.row (by rw [ne_eq, ← List.length_eq_zero_iff, flat_size ctC_len]; have := List.length_pos_iff.2 hl; omega)
    refine .inr ⟨g, 0, cap, rfl, hn, hg, fun j t ht i u hu => ?_⟩
    rw [Nat.zero_add]
    exact hc _ _ (flat_get ctC_len L j t ht i u hu)
theorem OC.ctls {base : Nat} {L : List CtT} {v : Value} {w : World} (h : OC base L v w) : Ctls (L.map (·.1)) v w := ⟨L, rfl, h.ctr, fun t ht => (h.fil t ht).1⟩
theorem OC.blk {base : Nat} {L : List CtT} {v : Value} {w : World} (h : OC base L v w) (hl : L ≠ []) : ∃ g cap cur, v = .slice (some ⟨g, 0, none⟩) L.length cap ∧ base ≤ g ∧ w.heap[g]? = some (.cells cur 104 (0, 0)) := by
  obtain ⟨_, ⟨rfl, h1⟩ | ⟨g, cap, cur, rfl, h2, h3, _⟩⟩ := h.row
  · exact absurd (List.length_eq_zero_iff.1 h1) hl
  · exact ⟨g, cap, cur, rfl, h2, h3⟩
theorem flat_set {α : Type} {f : α → List Value} {m : Nat} (hf : ∀ x, (f x).length = m) : ∀ (es : List α) (k : Nat) (e e' : α) (i : Nat) (u : Value), es[k]? = some e → i < m → f e' = (f e).set i u → (es.set k e').flatMap f = (es.flatMap f).set (k * m + i) u
  | [], _, _, _, _, _, h, _, _ => by simp at h
  | x :: r, 0, e, e', i, u, h, hi, he => by
    simp at h; subst h
    rw [List.set_cons_zero, List.flatMap_cons, List.flatMap_cons, he, Nat.zero_mul, Nat.zero_add, List.set_append_left _ _ (by rw [hf]; exact hi)]
  | x :: r, k + 1, e, e', i, u, h, hi, he => by
    simp at h
    rw [List.set_cons_succ, List.flatMap_cons, List.flatMap_cons, flat_set hf r k e e' i u h hi he, List.set_append_right _ _ (by rw [hf, Nat.add_mul]; omega), hf, show (k + 1) * m + i - m = k * m + i by rw [Nat.add_mul]; omega]
/-- a store of one field -/
theorem OC.set {base : Nat} {L : List CtT} {g n cap : Nat} {w : World} (h : OC base L (.slice (some ⟨g, 0, none⟩) n cap) w) {k i : Nat} {t t' : CtT} {u : Value} (hk : L[k]? = some t) (hi : i < 10) (he : ctC t' = (ctC t).set i u) (hf : Fil base t'.1.fi t'.2 w) :
    OC base (L.set k t') (.slice (some ⟨g, 0, none⟩) n cap) (w.setCell ⟨g, k * 10 + i, none⟩ u) ∧ Below base w (w.setCell ⟨g, k * 10 + i, none⟩ u) := by
  have hl : L ≠ [] := by rintro rfl; simp at hk
  obtain ⟨g', cap', cur, hv, hb, hg⟩ := h.blk hl
  cases hv
  refine ⟨⟨?_, fun q hq => ?_⟩, (Below.refl base w).setCell hb _⟩
  · have := (World.ownsRow.stored h.row (k * 10 + i) u).1
    rw [← flat_set ctC_len L k t t' i u hk hi he] at this
    rw [List.length_set]
    exact this
  · rcases List.mem_or_eq_of_mem_set hq with hq | rfl
    · exact (h.fil q hq).set hg hb
    · exact hf.set hg hb

theorem info_ctl : (Tryz.prog.info? 104).map (fun i => (i.zero, i.size, i.bytes)) = some (some (.agg #[.string ⟨#[]⟩, .bool false, .bool false, .bool false, .bool false, .bool false, .bool false, .bool false, .string ⟨#[]⟩, .slice none 0 0]), 10, 64) := by kernel_rfl
/-- sizes of states that came in -/
structure SizedC (cs : List Ct) : Prop where
  len : cs.length * 64 ≤ 140737488351232
  fi' : ∀ c ∈ cs, c.fi.length * 72 ≤ 140737488351232
theorem CtR.one {L : List CtT} {w : World} (h : ∀ t ∈ L, Ents t.1.fi t.2 w) : ∀ u ∈ L.flatMap ctC, u.oneCell' = true := by
  intro u hu
  obtain ⟨t, ht, hc⟩ := List.mem_flatMap.1 hu
  obtain ⟨a, cap, hv⟩ := (h t ht).len
  simp only [ctC, List.mem_cons, List.not_mem_nil, or_false, hv] at hc
  rcases hc with rfl | rfl | rfl | rfl | rfl | rfl | rfl | rfl | rfl | rfl <;> rfl
/-- 'append(out, l...)', where out is empty -/
theorem wpList_append_ctls {W : World} {ops : Array Oper} {rest : List Oper} {o : Oper} {a : Act} {Q : Exit → Act → World → Prop} (hgd : o.guard = none) (s x : Operand)
    (ho : o.op = .call { callee := .builtin .append, args := #[s, x], argTypes := #[23, 23] })
    {base : Nat} {L : List CtT} {v : Value} (hs : a.eval s = v) {ao : Option Addr} {m cap : Nat} (hx : a.eval x = .slice ao m cap) (hL : CtR L (.slice ao m cap) W) (hE : ∀ t ∈ L, Ents t.1.fi t.2 W) (hF : ∀ t ∈ L, Fil base t.1.fi t.2 W) (hm : m = L.length)
    (hown : W.ownsRow base 104 10 v 0 []) (hby : L.length * 64 ≤ 140737488355328) (hbase : base ≤ W.heap.size)
    (h : ∀ v' w', OC base L v' w' → W.grownBy w' v.ownBlock → Below base W w' → wpList Tryz.prog ops Q rest (a.put o.dst v') w') (hvb : ∀ g, v.ownBlock = some g → ∃ cur, W.heap[g]? = some (.cells cur 104 (0, 0))) : wpList Tryz.prog ops Q (o :: rest) a W := by
  subst hm
  refine wpList_append_any hgd s x 23 104 ho Tryz.underlying23 info_ctl rfl (by decide) (n := 0) (xs := []) (news := L.flatMap ctC) hs hx hL.none_cap (flat_size ctC_len L) (fun ad had => ?_) (CtR.one hE) hown (by unfold maxLen; omega) (by rw [Nat.zero_add]; exact hby) hbase fun v' w' h1 h2 => h v' w' ⟨?_, fun t ht => ?_⟩ h2 (own_below hown h2 hbase)
  · subst had; exact hL.src
  · rw [Nat.zero_add, List.nil_append] at h1
    exact h1
  · obtain ⟨h3, h4⟩ := hF t ht
    have hbk : ∀ b o s n c, t.2 = .slice (some ⟨b, o, s⟩) n c → t.1.fi ≠ [] → w'.heap[b]? = W.heap[b]? := by
      intro b o s n c hv hn
      refine h2.block b (by rw [hv] at h3; exact h3.blk hn) (fun e => ?_)
      obtain ⟨cur, hg⟩ := hvb b e.symm
      rcases h4 b o s n c hv hn with h5 | ⟨cur', h5⟩
      · have := (hown.lt b e.symm).1
        omega
      · rw [hg] at h5
        injection h5 with h5
        injection h5 with _ h5
        exact absurd h5 (by decide)
    refine ⟨?_, fun b o s n c hv hn => ?_⟩
    · rcases h3 with h1 | ⟨b, o, cap, hv, h1, h6⟩
      · exact .inl h1
      · by_cases hn : t.1.fi = []
        · rw [hn] at hv ⊢
          exact .inl ⟨rfl, _, cap, hv, fun e => by cases e⟩
        · refine .inr ⟨b, o, cap, hv, Nat.lt_of_lt_of_le h1 h2.size, fun j e he i' u' hu => ?_⟩
          rw [← h6 j e he i' u' hu]
          simp only [World.cell?, hbk b o none _ _ hv hn]
    · rw [hbk b o s n c hv hn]
      exact h4 b o s n c hv hn
set_option maxHeartbeats 1000000 in
set_option maxRecDepth 100000 in
theorem refCopied15_at (cs : List Ct) (v : Value) (w : World) {base : Nat} (hbase : base ≤ w.heap.size) (hZ : SizedC cs) (hU : CtlsB base cs v w) :
    Calls Tryz.prog 29 #[v] w fun e w' => ∃ L vo, e = .returned vo ∧ Hid (L.map (·.1) = cs) ∧ OC base L vo w' ∧ Below w.heap.size w w' := by
  obtain ⟨L, hL, h2, h3⟩ := hU
  have HL := Lib.hid hL
  have hz := hZ.len
  rw [← hL, List.length_map] at hz
  have hby : L.length * 64 ≤ 140737488355328 := by omega
  obtain ⟨a, cap, rfl⟩ := h2.len
  clear hL hZ hz
  go_enter Tryz.func29, Tryz.ntmps29
  go_wp2_with (at_builtin; refine wpList_append_ctls rfl _ _ rfl rfl rfl h2 (fun t ht => (h3 t ht).1) h3 rfl (World.ownsRow_nil _ base _ _) hby hbase ?_ (fun g e => by cases e); intro v' w' hOC hgr hb)
  go_ret
  exact ⟨L, _, rfl, HL, hOC, grown_below hgr⟩
theorem refCopied15_any (cs : List Ct) (v : Value) (w : World) (hZ : SizedC cs) (hU : Ctls cs v w) :
    Calls Tryz.prog 29 #[v] w fun e w' => ∃ L vo, e = .returned vo ∧ Hid (L.map (·.1) = cs) ∧ OC w.heap.size L vo w' ∧ Below w.heap.size w w' := refCopied15_at cs v w (Nat.le_refl _) hZ hU.at_base
end Go.Proofs.YtafbghlldlconaaGreatDoor

/-
  A CONTROL's VALUE: control.attr, control.Value, ref14.Value: the walks.
-/
namespace Go.Proofs.YtafbghlldlconaaGreatDoor
set_option linter.unusedVariables false
set_option linter.unusedSimpArgs false
open Go.RowKit PT

def vAt : ByteArray := ⟨#[118, 97, 108, 117, 101]⟩
def pathS : ByteArray := ⟨#[67, 58, 92, 102, 97, 107, 101, 112, 97, 116, 104, 92]⟩
def fstF : List Ent → ByteArray
  | [] => ⟨#[]⟩
  | x :: _ => pathS ++ x.fn
def valF (k : Int) (c : Ct) (ats : List At) : ByteArray :=
  if modeF k = 1 then c.va else if modeF k = 3 then (atO ats vAt).getD ⟨#[111, 110]⟩ else if modeF k = 2 then (atO ats vAt).getD ⟨#[]⟩ else if modeF k = 4 then fstF c.fi else if pushB k = true then (atO ats vAt).getD ⟨#[]⟩ else ⟨#[]⟩
theorem mode4 {k : Int} (h : modeF k = 4) : k = 18 := by
  unfold modeF at h
  split at h
  · omega
  · split at h
    · omega
    · split at h
      · omega
      · split at h
        · assumption
        · omega
set_option maxHeartbeats 1000000 in
set_option maxRecDepth 100000 in
theorem ctlAttrFn_any (x : At) (s : ByteArray) (B : Nat) (w : World) (hB : B < w.heap.size) (hc : w.cell? ⟨B, 0, none⟩ = some (.string s)) :
    Calls Tryz.prog 167 #[atV x, .pointer (some ⟨B, 0, none⟩)] w fun e w' => e = .returned (.bool (isN s x)) ∧ Below w.heap.size w w' := by
  unfold atV
  have hb0 := (Below.refl w.heap.size w).alloc (Nat.le_refl _) (.cells #[.string x.n, .string x.v] 117)
  by_cases h : x.n = s
  · have hR := Lib.hid (show isN s x = true from decide_eq_true h)
    have hq := sTrue h
    clear h
    go_enter Tryz.func167, Tryz.ntmps167
    go_wp2_with fail
    go_ret
    exact ⟨ret_bool hR.out.symm, hb0⟩
  · have hR := Lib.hid (show isN s x = false from decide_eq_false h)
    have hq := sFalse h
    clear h
    go_enter Tryz.func167, Tryz.ntmps167
    go_wp2_with fail
    go_ret
    exact ⟨ret_bool hR.out.symm, hb0⟩
set_option maxHeartbeats 1000000 in
set_option maxRecDepth 100000 in
theorem ctlAttr_any (l : List At) (u : Value) (s : ByteArray) (hl : l.length ≤ 1000000000000000) (w : World) (hU : Atts l u w) :
    Calls Tryz.prog 135 #[u, .string s] w fun e w' => e = .returned (atT (atO l s)) ∧ Below w.heap.size w w' := by
  have hb0 := (Below.refl w.heap.size w).alloc (Nat.le_refl _) (.cells #[.string s] 9)
  have hn0 := Go.heap_alloc_new w (.cells #[.string s] 9)
  have hs0 : (w.alloc (.cells #[.string s] 9)).heap.size = w.heap.size + 1 := by simp
  have hU0 := hU.kept hb0
  have hc0 : (w.alloc (.cells #[.string s] 9)).cell? ⟨w.heap.size, 0, none⟩ = some (.string s) := by simp only [World.cell?, hn0]; rfl
  have hp : ∀ W, Below (w.alloc (.cells #[.string s] 9)).heap.size (w.alloc (.cells #[.string s] 9)) W → ∀ x ∈ l, Calls Tryz.prog 167 (#[atV x] ++ #[.pointer (some ⟨w.heap.size, 0, none⟩)]) W fun e w' => e = .returned (.bool (isN s x)) ∧ Below W.heap.size W w' := by
    intro W hW x hx
    have hWs := hW.size
    exact ctlAttrFn_any x s w.heap.size W (by omega) (cellK hW (by omega) hc0)
  have HP := Lib.hid hp
  obtain ⟨a, cap, rfl⟩ := hU.len
  have hcase := fi_cases l (isN s)
  clear hp hs0
  rcases hcase with ⟨h, _⟩ | ⟨k, hk, h, _⟩
  · have hR := Lib.hid (show atO l s = none from atO_none h)
    have H := Lib.hid h
    clear h
    go_enter Tryz.func135, Tryz.ntmps135
    go_wp2_with fail
    refine (indexFuncA_any l (isN s) _ 167 #[.pointer (some ⟨w.heap.size, 0, none⟩)] (enters_of Tryz.func167 (by kernel_rfl) rfl) hl _ hU0 HP.out).mono ?_
    rintro e w2 ⟨rfl, hb2⟩
    rw [H.out]
    go_wp2_with fail
    go_ret2
    exact ⟨by rw [hR.out]; rfl, bs hb0 hb2⟩
  · have hR := Lib.hid (show atO l s = some l[k].v from atO_some hk h)
    have H := Lib.hid h
    obtain ⟨b, o, cap', hv, _, hb, e0, e1⟩ := hU0.at hk
    cases hv
    have hk0 : (0 : Int) ≤ (k : Int) := by omega
    have hk1 : (k : Int) < (l.length : Int) := by omega
    generalize l[k] = x at *
    clear h
    go_enter Tryz.func135, Tryz.ntmps135
    go_wp2_with fail
    refine (indexFuncA_any l (isN s) _ 167 #[.pointer (some ⟨w.heap.size, 0, none⟩)] (enters_of Tryz.func167 (by kernel_rfl) rfl) hl _ hU0 HP.out).mono ?_
    rintro e w2 ⟨rfl, hb2⟩
    rw [H.out]
    have g0 := cellK hb2 hb e0
    have g1 := cellK hb2 hb e1
    go_wp2_with fail
    go_ret2
    exact ⟨by rw [hR.out]; rfl, bs hb0 hb2⟩
theorem ctv_box {T : TypeId} {c : Ct} {a : Option Addr} {cap : Nat} {w : World} : ∀ W, W = w.alloc (.cells #[.string c.va, .bool c.di, .bool c.ty, .bool c.ch, .bool c.dc, .bool c.mi, .bool c.se, .bool c.ds, .string c.cu, .slice a c.fi.length cap] T) →
    W.cell? ⟨w.heap.size, 0, none⟩ = some (.string c.va) ∧ W.cell? ⟨w.heap.size, 9, none⟩ = some (.slice a c.fi.length cap) ∧ W.heap.size = w.heap.size + 1 ∧ Below w.heap.size w W := by
  rintro W rfl
  have hn := Go.heap_alloc_new w (.cells #[.string c.va, .bool c.di, .bool c.ty, .bool c.ch, .bool c.dc, .bool c.mi, .bool c.se, .bool c.ds, .string c.cu, .slice a c.fi.length cap] T)
  refine ⟨?_, ?_, by simp, (Below.refl w.heap.size w).alloc (Nat.le_refl _) _⟩
  · simp only [World.cell?, hn]; rfl
  · simp only [World.cell?, hn]; rfl
set_option maxHeartbeats 2000000 in
set_option maxRecDepth 100000 in
theorem ctlValue_any (k : Int) (h0 : 0 ≤ k) (h1 : k ≤ 35) (c : Ct) (vf : Value) (ats : List At) (va : Value) (hl : ats.length ≤ 1000000000000000) (hF : modeF k = 4 → ∀ x ∈ c.fi, x.fn.size ≤ 140737488351232) (w : World) (hE : Ents c.fi vf w) (hA : Atts ats va w) :
    Calls Tryz.prog 101 #[.int .i64 k, ctV (c, vf), va] w fun e w' => e = .returned (.string (valF k c ats)) ∧ Below w.heap.size w w' := by
  obtain ⟨a1, cap1, rfl⟩ := hE.len
  obtain ⟨a2, cap2, rfl⟩ := hA.len
  obtain ⟨c0, c9, hs1, hb1⟩ := ctv_box (T := 104) (c := c) (a := a1) (cap := cap1) (w := w) _ rfl
  have hE1 := hE.kept hb1
  have hA1 := hA.kept hb1
  have hm := modeF_cases k
  have hV := show valF k c ats = (if modeF k = 1 then c.va else if modeF k = 3 then (atO ats vAt).getD ⟨#[111, 110]⟩ else if modeF k = 2 then (atO ats vAt).getD ⟨#[]⟩ else if modeF k = 4 then fstF c.fi else if pushB k = true then (atO ats vAt).getD ⟨#[]⟩ else ⟨#[]⟩) from rfl
  have h18 : modeF k = 4 → pushB k = false := fun h => by rw [mode4 h]; rfl
  unfold ctV
  obtain ⟨ov, hov⟩ : ∃ ov, atO ats vAt = ov := ⟨_, rfl⟩
  have HO := Lib.hid hov
  rw [hov] at hV
  clear hov
  rcases hm with hm | hm | hm | hm | hm
  · rw [hm] at hV
    have HM := Lib.hid hm
    clear h18 hm
    cases hp : pushB k
    · rw [hp] at hV
      have hR := Lib.hid hV
      have HP := Lib.hid hp
      clear hV hp
      go_enter Tryz.func101, Tryz.ntmps101
      go_wp2_with fail
      generalize World.alloc _ _ = W1 at c0 c9 hs1 hb1 hE1 hA1 ⊢
      refine (ctlAttr_any ats _ vAt hl _ hA1).mono ?_
      rw [HO.out]
      unfold atT
      rintro e w2 ⟨rfl, hb2⟩
      go_wp2_with fail
      refine (kindsMode_any k h0 h1 _).mono ?_
      rintro e w3 ⟨rfl, rfl⟩
      rw [HM.out]
      go_wp2_with fail
      refine (ctlButton_any k h0 h1 _).mono ?_
      rintro e w3 ⟨rfl, rfl⟩
      rw [HP.out]
      go_wp2_with fail
      go_ret
      exact ⟨by rw [hR.out]; rfl, bs hb1 hb2⟩
    · rw [hp] at hV
      have hR := Lib.hid hV
      have HP := Lib.hid hp
      clear hV hp
      go_enter Tryz.func101, Tryz.ntmps101
      go_wp2_with fail
      generalize World.alloc _ _ = W1 at c0 c9 hs1 hb1 hE1 hA1 ⊢
      refine (ctlAttr_any ats _ vAt hl _ hA1).mono ?_
      rw [HO.out]
      unfold atT
      rintro e w2 ⟨rfl, hb2⟩
      go_wp2_with fail
      refine (kindsMode_any k h0 h1 _).mono ?_
      rintro e w3 ⟨rfl, rfl⟩
      rw [HM.out]
      go_wp2_with fail
      refine (ctlButton_any k h0 h1 _).mono ?_
      rintro e w3 ⟨rfl, rfl⟩
      rw [HP.out]
      go_wp2_with fail
      go_ret
      exact ⟨by rw [hR.out]; rfl, bs hb1 hb2⟩
  · rw [hm] at hV
    have HM := Lib.hid hm
    have hR := Lib.hid hV
    clear h18 hm hV
    go_enter Tryz.func101, Tryz.ntmps101
    go_wp2_with fail
    generalize World.alloc _ _ = W1 at c0 c9 hs1 hb1 hE1 hA1 ⊢
    refine (ctlAttr_any ats _ vAt hl _ hA1).mono ?_
    rw [HO.out]
    unfold atT
    rintro e w2 ⟨rfl, hb2⟩
    have d0 := cellK hb2 (by omega) c0
    go_wp2_with fail
    refine (kindsMode_any k h0 h1 _).mono ?_
    rintro e w3 ⟨rfl, rfl⟩
    rw [HM.out]
    go_wp2_with fail
    go_ret
    exact ⟨by rw [hR.out]; rfl, bs hb1 hb2⟩
  · rw [hm] at hV
    have HM := Lib.hid hm
    have hR := Lib.hid hV
    clear h18 hm hV
    go_enter Tryz.func101, Tryz.ntmps101
    go_wp2_with fail
    generalize World.alloc _ _ = W1 at c0 c9 hs1 hb1 hE1 hA1 ⊢
    refine (ctlAttr_any ats _ vAt hl _ hA1).mono ?_
    rw [HO.out]
    unfold atT
    rintro e w2 ⟨rfl, hb2⟩
    go_wp2_with fail
    refine (kindsMode_any k h0 h1 _).mono ?_
    rintro e w3 ⟨rfl, rfl⟩
    rw [HM.out]
    go_wp2_with fail
    go_ret
    exact ⟨by rw [hR.out]; rfl, bs hb1 hb2⟩
  · rw [hm] at hV
    have HM := Lib.hid hm
    clear h18 hm
    cases ov with
    | none =>
      have hR := Lib.hid hV
      clear hV
      go_enter Tryz.func101, Tryz.ntmps101
      go_wp2_with fail
      generalize World.alloc _ _ = W1 at c0 c9 hs1 hb1 hE1 hA1 ⊢
      refine (ctlAttr_any ats _ vAt hl _ hA1).mono ?_
      rw [HO.out]
      unfold atT
      rintro e w2 ⟨rfl, hb2⟩
      go_wp2_with fail
      refine (kindsMode_any k h0 h1 _).mono ?_
      rintro e w3 ⟨rfl, rfl⟩
      rw [HM.out]
      go_wp2_with fail
      go_ret
      exact ⟨by rw [hR.out]; rfl, bs hb1 hb2⟩
    | some s =>
      have hR := Lib.hid hV
      clear hV
      go_enter Tryz.func101, Tryz.ntmps101
      go_wp2_with fail
      generalize World.alloc _ _ = W1 at c0 c9 hs1 hb1 hE1 hA1 ⊢
      refine (ctlAttr_any ats _ vAt hl _ hA1).mono ?_
      rw [HO.out]
      unfold atT
      rintro e w2 ⟨rfl, hb2⟩
      go_wp2_with fail
      refine (kindsMode_any k h0 h1 _).mono ?_
      rintro e w3 ⟨rfl, rfl⟩
      rw [HM.out]
      go_wp2_with fail
      go_ret
      exact ⟨by rw [hR.out]; rfl, bs hb1 hb2⟩
  · rw [hm] at hV
    have HM := Lib.hid hm
    have HP := Lib.hid (h18 hm)
    clear h18 hm
    by_cases hf : c.fi.length = 0
    · have hf1 : c.fi = [] := List.length_eq_zero_iff.1 hf
      rw [show fstF c.fi = ⟨#[]⟩ by rw [hf1]; rfl] at hV
      have hR := Lib.hid hV
      have hq : decide ((0 : Int) < (c.fi.length : Int)) = false := decide_eq_false (by omega)
      have hq3 : decide (0 < c.fi.length) = false := decide_eq_false (by omega)
      have hq4 : ¬ (0 < c.fi.length) := by omega
      clear hV hf hf1
      go_enter Tryz.func101, Tryz.ntmps101
      go_wp2_with fail
      generalize World.alloc _ _ = W1 at c0 c9 hs1 hb1 hA1 ⊢
      refine (ctlAttr_any ats _ vAt hl _ hA1).mono ?_
      rw [HO.out]
      unfold atT
      rintro e w2 ⟨rfl, hb2⟩
      have d9 := cellK hb2 (by omega) c9
      go_wp2_with fail
      refine (kindsMode_any k h0 h1 _).mono ?_
      rintro e w3 ⟨rfl, rfl⟩
      rw [HM.out]
      go_wp2_with fail
      refine (ctlButton_any k h0 h1 _).mono ?_
      rintro e w3 ⟨rfl, rfl⟩
      rw [HP.out]
      go_wp2_with fail
      go_ret
      exact ⟨by rw [hR.out]; rfl, bs hb1 hb2⟩
    · obtain ⟨x, r, hx⟩ : ∃ x r, c.fi = x :: r := by
        cases he : c.fi with
        | nil => rw [he] at hf; exact absurd rfl hf
        | cons x r => exact ⟨x, r, rfl⟩
      have hpos : 0 < c.fi.length := by omega
      have hsz := hF HM.out x (by rw [hx]; exact List.mem_cons_self ..)
      obtain ⟨b, o, c1, hv, hb, e0, e1, e2, e3, e4⟩ := hE1.five hpos
      cases hv
      have hx0 : c.fi[0] = x := by simp [hx]
      rw [hx0] at e0 e1 e2 e3 e4
      rw [hx] at hV
      have hR := Lib.hid hV
      have hq : (0 : Int) < (c.fi.length : Int) := by omega
      have hq2 : decide ((0 : Int) < (c.fi.length : Int)) = true := decide_eq_true hq
      clear hV hf hx hx0
      go_enter Tryz.func101, Tryz.ntmps101
      go_wp2_with fail
      generalize World.alloc _ _ = W1 at *
      refine (ctlAttr_any ats _ vAt hl _ hA1).mono ?_
      rw [HO.out]
      unfold atT
      rintro e w2 ⟨rfl, hb2⟩
      have d9 := cellK hb2 (by omega) c9
      have g0 := cellK hb2 hb e0
      have g1 := cellK hb2 hb e1
      have g2 := cellK hb2 hb e2
      have g3 := cellK hb2 hb e3
      have g4 := cellK hb2 hb e4
      go_wp2_with fail
      refine (kindsMode_any k h0 h1 _).mono ?_
      rintro e w3 ⟨rfl, rfl⟩
      rw [HM.out]
      go_wp2_with fail
      refine (ctlButton_any k h0 h1 _).mono ?_
      rintro e w3 ⟨rfl, rfl⟩
      rw [HP.out]
      go_wp2_with fail
      go_ret
      exact ⟨by rw [hR.out]; rfl, bs hb1 hb2⟩
set_option maxHeartbeats 2000000 in
set_option maxRecDepth 100000 in
theorem refValue14_any (k : Int) (h0 : 0 ≤ k) (h1 : k ≤ 35) (c : Ct) (vf : Value) (ats : List At) (va : Value) (hl : ats.length ≤ 1000000000000000) (hF : modeF k = 4 → ∀ x ∈ c.fi, x.fn.size ≤ 140737488351232) (w : World) (hE : Ents c.fi vf w) (hA : Atts ats va w) :
    Calls Tryz.prog 77 #[.int .i64 k, ctV (c, vf), va] w fun e w' => e = .returned (.string (valF k c ats)) ∧ Below w.heap.size w w' := by
  obtain ⟨a1, cap1, rfl⟩ := hE.len
  obtain ⟨a2, cap2, rfl⟩ := hA.len
  obtain ⟨c0, c9, hs1, hb1⟩ := ctv_box (T := 104) (c := c) (a := a1) (cap := cap1) (w := w) _ rfl
  have hE1 := hE.kept hb1
  have hA1 := hA.kept hb1
  have hm := modeF_cases k
  have hV := show valF k c ats = (if modeF k = 1 then c.va else if modeF k = 3 then (atO ats vAt).getD ⟨#[111, 110]⟩ else if modeF k = 2 then (atO ats vAt).getD ⟨#[]⟩ else if modeF k = 4 then fstF c.fi else if pushB k = true then (atO ats vAt).getD ⟨#[]⟩ else ⟨#[]⟩) from rfl
  have h18 : modeF k = 4 → pushB k = false := fun h => by rw [mode4 h]; rfl
  unfold ctV
  obtain ⟨ov, hov⟩ : ∃ ov, atO ats vAt = ov := ⟨_, rfl⟩
  have HO := Lib.hid hov
  rw [hov] at hV
  clear hov
  rcases hm with hm | hm | hm | hm | hm
  · rw [hm] at hV
    have HM := Lib.hid hm
    clear h18 hm
    cases hp : pushB k
    · rw [hp] at hV
      have hR := Lib.hid hV
      have HP := Lib.hid hp
      clear hV hp
      go_enter Tryz.func77, Tryz.ntmps77
      go_wp2_with fail
      generalize World.alloc _ _ = W1 at c0 c9 hs1 hb1 hE1 hA1 ⊢
      refine (refAttr14_any ats _ vAt hl _ hA1).mono ?_
      rw [HO.out]
      unfold atT
      rintro e w2 ⟨rfl, hw2⟩
      subst hw2
      have hb2 := Below.refl W1.heap.size W1
      go_wp2_with fail
      refine (refMode_any k h0 h1 _).mono ?_
      rintro e w3 ⟨rfl, rfl⟩
      rw [HM.out]
      go_wp2_with fail
      refine (refPushes_any k h0 h1 _).mono ?_
      rintro e w3 ⟨rfl, rfl⟩
      rw [HP.out]
      go_wp2_with fail
      go_ret
      exact ⟨by rw [hR.out]; rfl, bs hb1 hb2⟩
    · rw [hp] at hV
      have hR := Lib.hid hV
      have HP := Lib.hid hp
      clear hV hp
      go_enter Tryz.func77, Tryz.ntmps77
      go_wp2_with fail
      generalize World.alloc _ _ = W1 at c0 c9 hs1 hb1 hE1 hA1 ⊢
      refine (refAttr14_any ats _ vAt hl _ hA1).mono ?_
      rw [HO.out]
      unfold atT
      rintro e w2 ⟨rfl, hw2⟩
      subst hw2
      have hb2 := Below.refl W1.heap.size W1
      go_wp2_with fail
      refine (refMode_any k h0 h1 _).mono ?_
      rintro e w3 ⟨rfl, rfl⟩
      rw [HM.out]
      go_wp2_with fail
      refine (refPushes_any k h0 h1 _).mono ?_
      rintro e w3 ⟨rfl, rfl⟩
      rw [HP.out]
      go_wp2_with fail
      go_ret
      exact ⟨by rw [hR.out]; rfl, bs hb1 hb2⟩
  · rw [hm] at hV
    have HM := Lib.hid hm
    have hR := Lib.hid hV
    clear h18 hm hV
    go_enter Tryz.func77, Tryz.ntmps77
    go_wp2_with fail
    generalize World.alloc _ _ = W1 at c0 c9 hs1 hb1 hE1 hA1 ⊢
    refine (refAttr14_any ats _ vAt hl _ hA1).mono ?_
    rw [HO.out]
    unfold atT
    rintro e w2 ⟨rfl, hw2⟩
    subst hw2
    have hb2 := Below.refl W1.heap.size W1
    have d0 := cellK hb2 (by omega) c0
    go_wp2_with fail
    refine (refMode_any k h0 h1 _).mono ?_
    rintro e w3 ⟨rfl, rfl⟩
    rw [HM.out]
    go_wp2_with fail
    go_ret
    exact ⟨by rw [hR.out]; rfl, bs hb1 hb2⟩
  · rw [hm] at hV
    have HM := Lib.hid hm
    have hR := Lib.hid hV
    clear h18 hm hV
    go_enter Tryz.func77, Tryz.ntmps77
    go_wp2_with fail
    generalize World.alloc _ _ = W1 at c0 c9 hs1 hb1 hE1 hA1 ⊢
    refine (refAttr14_any ats _ vAt hl _ hA1).mono ?_
    rw [HO.out]
    unfold atT
    rintro e w2 ⟨rfl, hw2⟩
    subst hw2
    have hb2 := Below.refl W1.heap.size W1
    go_wp2_with fail
    refine (refMode_any k h0 h1 _).mono ?_
    rintro e w3 ⟨rfl, rfl⟩
    rw [HM.out]
    go_wp2_with fail
    go_ret
    exact ⟨by rw [hR.out]; rfl, bs hb1 hb2⟩
  · rw [hm] at hV
    have HM := Lib.hid hm
    clear h18 hm
    cases ov with
    | none =>
      have hR := Lib.hid hV
      clear hV
      go_enter Tryz.func77, Tryz.ntmps77
      go_wp2_with fail
      generalize World.alloc _ _ = W1 at c0 c9 hs1 hb1 hE1 hA1 ⊢
      refine (refAttr14_any ats _ vAt hl _ hA1).mono ?_
      rw [HO.out]
      unfold atT
      rintro e w2 ⟨rfl, hw2⟩
      subst hw2
      have hb2 := Below.refl W1.heap.size W1
      go_wp2_with fail
      refine (refMode_any k h0 h1 _).mono ?_
      rintro e w3 ⟨rfl, rfl⟩
      rw [HM.out]
      go_wp2_with fail
      go_ret
      exact ⟨by rw [hR.out]; rfl, bs hb1 hb2⟩
    | some s =>
      have hR := Lib.hid hV
      clear hV
      go_enter Tryz.func77, Tryz.ntmps77
      go_wp2_with fail
      generalize World.alloc _ _ = W1 at c0 c9 hs1 hb1 hE1 hA1 ⊢
      refine (refAttr14_any ats _ vAt hl _ hA1).mono ?_
      rw [HO.out]
      unfold atT
      rintro e w2 ⟨rfl, hw2⟩
      subst hw2
      have hb2 := Below.refl W1.heap.size W1
      go_wp2_with fail
      refine (refMode_any k h0 h1 _).mono ?_
      rintro e w3 ⟨rfl, rfl⟩
      rw [HM.out]
      go_wp2_with fail
      go_ret
      exact ⟨by rw [hR.out]; rfl, bs hb1 hb2⟩
  · rw [hm] at hV
    have HM := Lib.hid hm
    have HP := Lib.hid (h18 hm)
    clear h18 hm
    by_cases hf : c.fi.length = 0
    · have hf1 : c.fi = [] := List.length_eq_zero_iff.1 hf
      rw [show fstF c.fi = ⟨#[]⟩ by rw [hf1]; rfl] at hV
      have hR := Lib.hid hV
      have hq : decide ((0 : Int) < (c.fi.length : Int)) = false := decide_eq_false (by omega)
      have hq3 : decide (0 < c.fi.length) = false := decide_eq_false (by omega)
      have hq4 : ¬ (0 < c.fi.length) := by omega
      clear hV hf hf1
      go_enter Tryz.func77, Tryz.ntmps77
      go_wp2_with fail
      generalize World.alloc _ _ = W1 at c0 c9 hs1 hb1 hA1 ⊢
      refine (refAttr14_any ats _ vAt hl _ hA1).mono ?_
      rw [HO.out]
      unfold atT
      rintro e w2 ⟨rfl, hw2⟩
      subst hw2
      have hb2 := Below.refl W1.heap.size W1
      have d9 := cellK hb2 (by omega) c9
      go_wp2_with fail
      refine (refMode_any k h0 h1 _).mono ?_
      rintro e w3 ⟨rfl, rfl⟩
      rw [HM.out]
      go_wp2_with fail
      go_ret
      exact ⟨by rw [hR.out]; rfl, bs hb1 hb2⟩
    · obtain ⟨x, r, hx⟩ : ∃ x r, c.fi = x :: r := by
        cases he : c.fi with
        | nil => rw [he] at hf; exact absurd rfl hf
        | cons x r => exact ⟨x, r, rfl⟩
      have hpos : 0 < c.fi.length := by omega
      have hsz := hF HM.out x (by rw [hx]; exact List.mem_cons_self ..)
      obtain ⟨b, o, c1, hv, hb, e0, e1, e2, e3, e4⟩ := hE1.five hpos
      cases hv
      have hx0 : c.fi[0] = x := by simp [hx]
      rw [hx0] at e0 e1 e2 e3 e4
      rw [hx] at hV
      have hR := Lib.hid hV
      have hq : (0 : Int) < (c.fi.length : Int) := by omega
      have hq2 : decide ((0 : Int) < (c.fi.length : Int)) = true := decide_eq_true hq
      clear hV hf hx hx0
      go_enter Tryz.func77, Tryz.ntmps77
      go_wp2_with fail
      generalize World.alloc _ _ = W1 at *
      refine (refAttr14_any ats _ vAt hl _ hA1).mono ?_
      rw [HO.out]
      unfold atT
      rintro e w2 ⟨rfl, hw2⟩
      subst hw2
      have hb2 := Below.refl W1.heap.size W1
      have d9 := cellK hb2 (by omega) c9
      have g0 := cellK hb2 hb e0
      have g1 := cellK hb2 hb e1
      have g2 := cellK hb2 hb e2
      have g3 := cellK hb2 hb e3
      have g4 := cellK hb2 hb e4
      go_wp2_with fail
      refine (refMode_any k h0 h1 _).mono ?_
      rintro e w3 ⟨rfl, rfl⟩
      rw [HM.out]
      go_wp2_with fail
      go_ret
      exact ⟨by rw [hR.out]; rfl, bs hb1 hb2⟩
end Go.Proofs.YtafbghlldlconaaGreatDoor
