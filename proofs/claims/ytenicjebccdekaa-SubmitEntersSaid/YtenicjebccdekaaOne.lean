/-
  A NODE BY ITSELF: tree.one, ref10.alone: the walks.
-/
import Derived.Test.YtenicjebccdekaaNames
import Derived.Test.YtenicjebccdekaaAttrs
import Derived.Test.YtenicjebccdekaaSteps
namespace Go.Proofs.Ytenicjebccdekaa
set_option linter.unusedVariables false
set_option linter.unusedSimpArgs false
open Go.RowKit PT

/-- is an attribute right, at its place? -/
def atB (l : List At) (i : Nat) : Bool := match l[i]? with
  | none => true
  | some a => nmB a.n.data.toList && (decide (a.v.size ≤ 4000) && decide (fi (l.take i) (isN a.n) = -1))
/-- may a node be, by itself? -/
def oneB (x : Nd) : Bool :=
  if x.nm = ⟨#[]⟩ then decide (x.ats.length = 0) && (decide (x.ks.length = 0) && decide (x.tx.size ≤ 4000))
  else nmB x.nm.data.toList && (decide (x.tx.size = 0) && (decide (x.ats.length ≤ 40) && (List.range x.ats.length).all (atB x.ats)))
theorem size0 {s : ByteArray} : s = ⟨#[]⟩ ↔ s.size = 0 := by
  constructor
  · rintro rfl; rfl
  · intro h
    apply ByteArray.ext
    exact Array.eq_empty_of_size_eq_zero h
theorem emp_yes {s : ByteArray} (h : s.size = 0) : (s.toList == []) = true := by rw [size0.2 h, ByteArray.toList_eq]; rfl
theorem emp_no {s : ByteArray} (h : s.size ≠ 0) : (s.toList == []) = false := by
  rw [beq_eq_false_iff_ne, ByteArray.toList_eq]
  intro e
  have := congrArg List.length e
  rw [size_list, List.length_nil] at this
  omega
theorem empt_no {s : ByteArray} (h : s.size ≠ 0) : s.toList.isEmpty = false := by
  rw [ByteArray.toList_eq]
  cases hl : s.data.toList with
  | nil => have := congrArg List.length hl; rw [size_list, List.length_nil] at this; omega
  | cons _ _ => rfl
theorem empt_yes {s : ByteArray} (h : s.size = 0) : s.toList.isEmpty = true := by rw [size0.2 h, ByteArray.toList_eq]; rfl
/-- the places of a row's cells, n cells each -/
def szAt (n : Nat) (l : List At) : Prop := l.length ≤ n ∧ ∀ a ∈ l, a.n.size ≤ 140737488351232 ∧ a.v.size ≤ 140737488351232
theorem take_world {Q : Exit → Act → World → Prop} {e : Exit} {a : Act} {W : World} (S : World → Prop) (h : S W) (k : S W → Q e a W) : Q e a W := k h
theorem oneS_kept {e c : Nat} {x0 x2 y0 y1 : Value} {w1 W W' : World}
    (h : W.cell? ⟨e, 0, none⟩ = some x0 ∧ W.cell? ⟨e, 2, none⟩ = some x2 ∧ W.cell? ⟨c, 0, none⟩ = some y0 ∧ W.cell? ⟨c, 1, none⟩ = some y1 ∧ e < w1.heap.size ∧ c < w1.heap.size ∧ Below w1.heap.size w1 W) (hb : Below W.heap.size W W') :
    W'.cell? ⟨e, 0, none⟩ = some x0 ∧ W'.cell? ⟨e, 2, none⟩ = some x2 ∧ W'.cell? ⟨c, 0, none⟩ = some y0 ∧ W'.cell? ⟨c, 1, none⟩ = some y1 ∧ e < w1.heap.size ∧ c < w1.heap.size ∧ Below w1.heap.size w1 W' := by
  obtain ⟨h0, h2, k0, k1, he, hc, hbe⟩ := h
  have hs := hbe.size
  exact ⟨cellK hb (by omega) h0, cellK hb (by omega) h2, cellK hb (by omega) k0, cellK hb (by omega) k1, he, hc, hbe.trans (hb.mono hs)⟩
theorem oneS_drew {e c : Nat} {x0 x2 y0 y1 : Value} {w1 W : World}
    (h : W.cell? ⟨e, 0, none⟩ = some x0 ∧ W.cell? ⟨e, 2, none⟩ = some x2 ∧ W.cell? ⟨c, 0, none⟩ = some y0 ∧ W.cell? ⟨c, 1, none⟩ = some y1 ∧ e < w1.heap.size ∧ c < w1.heap.size ∧ Below w1.heap.size w1 W) :
    W.drew.cell? ⟨e, 0, none⟩ = some x0 ∧ W.drew.cell? ⟨e, 2, none⟩ = some x2 ∧ W.drew.cell? ⟨c, 0, none⟩ = some y0 ∧ W.drew.cell? ⟨c, 1, none⟩ = some y1 ∧ e < w1.heap.size ∧ c < w1.heap.size ∧ Below w1.heap.size w1 W.drew := oneS_kept h ⟨rfl, rfl, rfl, Nat.le_refl _, fun _ _ => rfl⟩
set_option maxHeartbeats 4000000 in
set_option maxRecDepth 100000 in
theorem one_any (x : Nd) (va vk : Value) (hl : x.ats.length ≤ 1000000000000000) (hk : x.ks.length ≤ 1000000000000000000) (ht : x.tx.size ≤ 140737488351232) (w : World) (hU : Atts x.ats va w) (hV : Nums x.ks vk w) (hz : ∀ a ∈ x.ats, a.v.size ≤ 140737488351232) :
    Calls Try.prog 97 #[NdV x va vk] w fun e w' => e = .returned (.bool (oneB x)) ∧ Below w.heap.size w w' := by
  have hb0 := (Below.refl w.heap.size w).alloc (Nat.le_refl _) (.cells #[.string x.nm, .string x.tx, va, .int .i64 x.pa, vk] 35)
  have hn0 := Go.heap_alloc_new w (.cells #[.string x.nm, .string x.tx, va, .int .i64 x.pa, vk] 35)
  have hs0 : (w.alloc (.cells #[.string x.nm, .string x.tx, va, .int .i64 x.pa, vk] 35)).heap.size = w.heap.size + 1 := by simp
  have hU0 := hU.kept hb0
  obtain ⟨a, cap, rfl⟩ := hU.len
  obtain ⟨ka, kcap, rfl⟩ := hV.len
  unfold NdV
  have hO : oneB x = if x.nm = ⟨#[]⟩ then decide (x.ats.length = 0) && (decide (x.ks.length = 0) && decide (x.tx.size ≤ 4000)) else nmB x.nm.data.toList && (decide (x.tx.size = 0) && (decide (x.ats.length ≤ 40) && (List.range x.ats.length).all (atB x.ats))) := rfl
  by_cases h0 : x.nm.size = 0
  · have he := emp_yes h0
    have he2 := empt_yes h0
    rw [if_pos (size0.2 h0)] at hO
    have HO := Lib.hid hO
    clear hO
    by_cases c1 : x.ats.length = 0
    · by_cases c2 : x.ks.length = 0
      · by_cases c3 : x.tx.size ≤ 4000
        · have hR := Lib.hid (show oneB x = true by rw [HO.out, decide_eq_true c1, decide_eq_true c2, decide_eq_true c3]; rfl)
          have c3' : (x.tx.size : Int) ≤ 4000 := by omega
          rw [c1, c2] at hb0 ⊢
          clear h0 c1 c2
          go_enter Try.func97, Try.ntmps97
          go_wp2_with fail
          go_ret
          exact ⟨ret_bool hR.out.symm, hb0⟩
        · have hR := Lib.hid (show oneB x = false by rw [HO.out, decide_eq_true c1, decide_eq_true c2, decide_eq_false c3]; rfl)
          have c3' : decide ((x.tx.size : Int) ≤ 4000) = false := decide_eq_false (by omega)
          rw [c1, c2] at hb0 ⊢
          clear h0 c1 c2
          go_enter Try.func97, Try.ntmps97
          go_wp2_with fail
          go_ret
          exact ⟨ret_bool hR.out.symm, hb0⟩
      · have hR := Lib.hid (show oneB x = false by rw [HO.out, decide_eq_true c1, decide_eq_false c2]; rfl)
        have c2' : ((x.ks.length : Int) == 0) = false := intNe (by omega)
        rw [c1] at hb0 ⊢
        clear h0 c1
        go_enter Try.func97, Try.ntmps97
        go_wp2_with fail
        go_ret
        exact ⟨ret_bool hR.out.symm, hb0⟩
    · have hR := Lib.hid (show oneB x = false by rw [HO.out, decide_eq_false c1]; rfl)
      have c1' : ((x.ats.length : Int) == 0) = false := intNe (by omega)
      clear h0
      go_enter Try.func97, Try.ntmps97
      go_wp2_with fail
      go_ret
      exact ⟨ret_bool hR.out.symm, hb0⟩
  · have he := emp_no h0
    have he2 := empt_no h0
    rw [if_neg (fun e => h0 (size0.1 e))] at hO
    have HO := Lib.hid hO
    clear hO h0
    cases hnm : nmB x.nm.data.toList
    · have hR := Lib.hid (show oneB x = false by rw [HO.out, hnm]; rfl)
      have HN := Lib.hid hnm
      clear hnm
      go_enter Try.func97, Try.ntmps97
      go_upto_region 1 with fail
      generalize World.alloc _ _ = W0 at hb0 hn0 hU0 hs0 ⊢
      obtain ⟨x0, x1, x2, x3, x4, f0, f1, f2, f3, f4⟩ := five_of hn0
      go_wp2_with fail
      refine (named_any x.nm _).mono ?_
      rintro e w' ⟨rfl, rfl⟩
      rw [HN.out]
      go_wp2_with fail
      go_ret
      exact ⟨ret_bool hR.out.symm, hb0⟩
    · have HN := Lib.hid hnm
      by_cases d1 : x.tx.size = 0
      · have de := emp_yes d1
        have de2 := empt_yes d1
        by_cases d2 : x.ats.length ≤ 40
        · have HO2 := Lib.hid (show oneB x = (List.range x.ats.length).all (atB x.ats) by rw [HO.out, hnm, decide_eq_true d1, decide_eq_true d2]; rfl)
          have d2' : decide ((40 : Int) < (x.ats.length : Int)) = false := decide_eq_false (by omega)
          have d1' : (x.tx.toList != []) = false := by rw [bne, de]; rfl
          clear hnm d1 HO
          go_enter Try.func97, Try.ntmps97
          go_upto_region 1 with fail
          generalize World.alloc _ _ = W0 at hb0 hn0 hU0 hs0 ⊢
          obtain ⟨x0, x1, x2, x3, x4, f0, f1, f2, f3, f4⟩ := five_of hn0
          have hx0 : w.heap.size < W0.heap.size := by omega
          clear hs0
          go_wp2_with fail
          refine (named_any x.nm _).mono ?_
          rintro e w' ⟨rfl, rfl⟩
          rw [HN.out]
          go_wp2_with fail
          go_loopw [42] (fun i wr => ∃ k : Nat, k ≤ x.ats.length ∧ i = .int .i64 k ∧ Hid (∀ j, j < k → atB x.ats j = true) ∧ Below W0.heap.size W0 wr) (fun i _ => x.ats.length - (intOf i).toNat)
          case atStart => exact ⟨0, Nat.zero_le _, rfl, Lib.hid (fun j hj => by omega), Below.refl _ _⟩
          case round =>
            obtain ⟨k, hk', rfl, hA, hbel⟩ := hrel
            have hsz := hbel.size
            by_cases hlt : k < x.ats.length
            · obtain ⟨b, o, cap', hv, hcap, hb, hc0, hc1⟩ := (hU0.kept hbel).at hlt
              cases hv
              have hy := Lib.hid (show atB x.ats k = (nmB x.ats[k].n.data.toList && (decide (x.ats[k].v.size ≤ 4000) && decide (fi (x.ats.take k) (isN x.ats[k].n) = -1))) by unfold atB; rw [List.getElem?_eq_getElem hlt])
              have hTk := ((hU0.kept hbel).take (i := k) hlt)
              have hvz := hz _ (List.getElem_mem hlt)
              have hF := Lib.hid (fun (h : atB x.ats k = false) => show oneB x = false from HO2.out.trans (by
                rw [List.all_eq_false]
                exact ⟨k, List.mem_range.2 hlt, by rw [h]; exact Bool.false_ne_true⟩))
              have hN := Lib.hid (fun (h : atB x.ats k = true) => show ∀ j, j < k + 1 → atB x.ats j = true from fun j hj => by
                by_cases e : j = k
                · rw [e]; exact h
                · exact hA.out j (by omega))
              generalize x.ats[k] = y at *
              have q0 := cellK hbel hx0 x0
              have q2 := cellK hbel hx0 x2
              have hn1 := Go.heap_alloc_new wr (.cells #[.string y.n, .string y.v] 65)
              have hba := (Below.refl wr.heap.size wr).alloc (Nat.le_refl _) (.cells #[.string y.n, .string y.v] 65)
              have hs1 : (wr.alloc (.cells #[.string y.n, .string y.v] 65)).heap.size = wr.heap.size + 1 := by simp
              have hT1 := hTk.kept hba
              have hbel1 := hbel.trans (hba.mono hsz)
              have p0 := cellK hba (by omega) q0
              have p2 := cellK hba (by omega) q2
              have hk0 : (0 : Int) ≤ (k : Int) := by omega
              have hk1 : (k : Int) ≤ (x.ats.length : Int) := by omega
              have hk2 : (k : Int) ≤ (cap : Int) := by omega
              go_upto_region 8 with fail
              generalize World.alloc _ _ = W1 at hn1 hba hs1 hT1 hbel1 p0 p2 ⊢
              have p3 : W1.cell? ⟨wr.heap.size, 0, none⟩ = some (.string y.n) := by simp [World.cell?, hn1]
              have p4 : W1.cell? ⟨wr.heap.size, 1, none⟩ = some (.string y.v) := by simp [World.cell?, hn1]
              have hbw := hb0.trans (hbel1.mono (by omega))
              have hw1 : w.heap.size < W1.heap.size := by omega
              have hw2 : wr.heap.size < W1.heap.size := by omega
              have hbel1s := hbel1.size
              clear hs1 hn1 q0 q2 hc0 hc1 hTk hba hbel
              cases hnn : nmB y.n.data.toList
              · have hR := Lib.hid (hF.out (by rw [hy.out, hnn]; rfl))
                have HNN := Lib.hid hnn
                clear hnn
                first | go_quiet ((go_at_call 119; exact Calls.quiet_of_same ((named_any y.n _).mono fun _ _ h => ⟨h.1.trans (by rw [HNN.out]), h.2.symm⟩))) | fail
                go_wp2_with fail
                go_ret
                exact ⟨ret_bool hR.out.symm, hbw.trans ((below_draws W1 _).mono (by omega))⟩
              · have HNN := Lib.hid hnn
                by_cases h4 : y.v.size ≤ 4000
                · have h4' : decide ((4000 : Int) < (y.v.size : Int)) = false := decide_eq_false (by omega)
                  have hS1 := And.intro p0 (And.intro p2 (And.intro p3 (And.intro p4 (And.intro hw1 (And.intro hw2 (Below.refl W1.heap.size W1))))))
                  have hfc := fi_cases (x.ats.take k) (isN y.n)
                  have HFI := Lib.hid (Eq.refl (fi (x.ats.take k) (isN y.n)))
                  rcases hfc with ⟨hfi, _⟩ | ⟨j, _, hfi, _⟩
                  · have hN2 := Lib.hid (hN.out (by rw [hy.out, hnn, decide_eq_true h4, decide_eq_true hfi]; rfl))
                    have HF := Lib.hid hfi
                    clear hfi hnn h4
                    go_region_held3 (fun W => W.cell? ⟨w.heap.size, 0, none⟩ = some (.string x.nm) ∧ W.cell? ⟨w.heap.size, 2, none⟩ = some (.slice (some ⟨b, o, none⟩) x.ats.length cap) ∧ W.cell? ⟨wr.heap.size, 0, none⟩ = some (.string y.n) ∧ W.cell? ⟨wr.heap.size, 1, none⟩ = some (.string y.v) ∧ w.heap.size < W1.heap.size ∧ wr.heap.size < W1.heap.size ∧ Below W1.heap.size W1 W) (with_reducible first | assumption | exact oneS_drew (by assumption) | exact oneS_kept (by assumption) (by assumption)) ((first
                      | (go_at_call 119; (with_reducible refine (named_any y.n _).mono ?_); rintro e w' ⟨rfl, rfl⟩; rw [HNN.out])
                      | (go_at_call 115; refine (find_at (x.ats.take k) _ y.n (by rw [List.length_take]; omega) _ (hT1.kept (by assumption : _ ∧ _ ∧ _ ∧ _ ∧ _ ∧ _ ∧ _).2.2.2.2.2.2)).mono ?_; rintro e w5 ⟨rfl, hb5⟩; rw [HF.out])))
                    refine take_world (fun W => W.cell? ⟨w.heap.size, 0, none⟩ = some (.string x.nm) ∧ W.cell? ⟨w.heap.size, 2, none⟩ = some (.slice (some ⟨b, o, none⟩) x.ats.length cap) ∧ W.cell? ⟨wr.heap.size, 0, none⟩ = some (.string y.n) ∧ W.cell? ⟨wr.heap.size, 1, none⟩ = some (.string y.v) ∧ w.heap.size < W1.heap.size ∧ wr.heap.size < W1.heap.size ∧ Below W1.heap.size W1 W) (by assumption) ?_
                    rintro ⟨_, _, _, _, _, _, hb9⟩
                    go_wp2_with fail
                    go_roundw
                    case rel => exact ⟨k + 1, by omega, by go_num, hN2, hbel1.trans (hb9.mono hbel1s)⟩
                    case measure => simp [intOf]; omega
                  · have hR := Lib.hid (hF.out (by rw [hy.out, decide_eq_false (show ¬ fi (x.ats.take k) (isN y.n) = -1 by rw [hfi]; omega)]; simp))
                    have HF := Lib.hid hfi
                    clear hfi hnn h4
                    go_region_held3 (fun W => W.cell? ⟨w.heap.size, 0, none⟩ = some (.string x.nm) ∧ W.cell? ⟨w.heap.size, 2, none⟩ = some (.slice (some ⟨b, o, none⟩) x.ats.length cap) ∧ W.cell? ⟨wr.heap.size, 0, none⟩ = some (.string y.n) ∧ W.cell? ⟨wr.heap.size, 1, none⟩ = some (.string y.v) ∧ w.heap.size < W1.heap.size ∧ wr.heap.size < W1.heap.size ∧ Below W1.heap.size W1 W) (with_reducible first | assumption | exact oneS_drew (by assumption) | exact oneS_kept (by assumption) (by assumption)) ((first
                      | (go_at_call 119; (with_reducible refine (named_any y.n _).mono ?_); rintro e w' ⟨rfl, rfl⟩; rw [HNN.out])
                      | (go_at_call 115; refine (find_at (x.ats.take k) _ y.n (by rw [List.length_take]; omega) _ (hT1.kept (by assumption : _ ∧ _ ∧ _ ∧ _ ∧ _ ∧ _ ∧ _).2.2.2.2.2.2)).mono ?_; rintro e w5 ⟨rfl, hb5⟩; rw [HF.out])))
                    refine take_world (fun W => W.cell? ⟨w.heap.size, 0, none⟩ = some (.string x.nm) ∧ W.cell? ⟨w.heap.size, 2, none⟩ = some (.slice (some ⟨b, o, none⟩) x.ats.length cap) ∧ W.cell? ⟨wr.heap.size, 0, none⟩ = some (.string y.n) ∧ W.cell? ⟨wr.heap.size, 1, none⟩ = some (.string y.v) ∧ w.heap.size < W1.heap.size ∧ wr.heap.size < W1.heap.size ∧ Below W1.heap.size W1 W) (by assumption) ?_
                    rintro ⟨_, _, _, _, _, _, hb9⟩
                    go_wp2_with fail
                    go_ret
                    exact ⟨ret_bool hR.out.symm, hbw.trans (hb9.mono (by omega))⟩
                · have h4' : (4000 : Int) < (y.v.size : Int) := by omega
                  have hR := Lib.hid (hF.out (by rw [hy.out, decide_eq_false h4]; simp))
                  clear hnn h4
                  first | go_quiet ((go_at_call 119; exact Calls.quiet_of_same ((named_any y.n _).mono fun _ _ h => ⟨h.1.trans (by rw [HNN.out]), h.2.symm⟩))) | fail
                  go_wp2_with fail
                  go_ret
                  exact ⟨ret_bool hR.out.symm, hbw.trans ((below_draws W1 _).mono (by omega))⟩
            · obtain rfl : k = x.ats.length := by omega
              have hR := Lib.hid (show oneB x = true from HO2.out.trans (List.all_eq_true.2 fun j hj => hA.out j (List.mem_range.1 hj)))
              go_wp2_with fail
              go_ret
              exact ⟨ret_bool hR.out.symm, hb0.trans (hbel.mono (by omega))⟩
        · have hR := Lib.hid (show oneB x = false by rw [HO.out, hnm, decide_eq_true d1, decide_eq_false d2]; rfl)
          have d2' : (40 : Int) < (x.ats.length : Int) := by omega
          have d1' : (x.tx.toList != []) = false := by rw [bne, de]; rfl
          clear hnm d1
          go_enter Try.func97, Try.ntmps97
          go_upto_region 1 with fail
          generalize World.alloc _ _ = W0 at hb0 hn0 hU0 hs0 ⊢
          obtain ⟨x0, x1, x2, x3, x4, f0, f1, f2, f3, f4⟩ := five_of hn0
          go_wp2_with fail
          refine (named_any x.nm _).mono ?_
          rintro e w' ⟨rfl, rfl⟩
          rw [HN.out]
          go_wp2_with fail
          go_ret
          exact ⟨ret_bool hR.out.symm, hb0⟩
      · have hR := Lib.hid (show oneB x = false by rw [HO.out, hnm, decide_eq_false d1]; rfl)
        have de := emp_no d1
        have de2 := empt_no d1
        have d1' : (x.tx.toList != []) = true := by rw [bne, de]; rfl
        clear hnm
        go_enter Try.func97, Try.ntmps97
        go_upto_region 1 with fail
        generalize World.alloc _ _ = W0 at hb0 hn0 hU0 hs0 ⊢
        obtain ⟨x0, x1, x2, x3, x4, f0, f1, f2, f3, f4⟩ := five_of hn0
        go_wp2_with fail
        refine (named_any x.nm _).mono ?_
        rintro e w' ⟨rfl, rfl⟩
        rw [HN.out]
        go_wp2_with fail
        go_ret
        exact ⟨ret_bool hR.out.symm, hb0⟩
end Go.Proofs.Ytenicjebccdekaa
