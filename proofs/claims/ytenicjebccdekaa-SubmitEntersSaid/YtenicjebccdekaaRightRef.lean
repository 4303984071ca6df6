/-
  RIGHT DOCUMENTS by the document: ref10.count, ref10.Right: the walks.
-/
import Derived.Test.YtenicjebccdekaaPlainRight
import Derived.Test.YtenicjebccdekaaAlone
namespace Go.Proofs.Ytenicjebccdekaa
set_option linter.unusedVariables false
set_option linter.unusedSimpArgs false
open Go.RowKit PT

theorem count_snoc {l : List Int} {k : Nat} (n : Int) (hk : k < l.length) : (l.take (k + 1)).count n = (l.take k).count n + if l[k] = n then 1 else 0 := by
  rw [List.take_add_one, List.count_append, List.getElem?_eq_getElem hk]
  by_cases h : l[k] = n
  · rw [if_pos h]; simp [h]
  · rw [if_neg h]; simp [h]
set_option maxHeartbeats 4000000 in
set_option maxRecDepth 100000 in
theorem count_at (l : List Int) (v : Value) (n : Int) (hl : l.length ≤ 1000000000000000000) (w : World) (hV : Nums l v w) :
    Calls Try.prog 72 #[v, .int .i64 n] w fun e w' => e = .returned (.int .i64 (l.count n)) ∧ w = w' := by
  obtain ⟨a, cap, rfl⟩ := hV.len
  go_enter Try.func72, Try.ntmps72
  go_wp2_with fail
  go_loop [5, 6] (fun c i => ∃ k m : Nat, k ≤ l.length ∧ i = .int .i64 k ∧ c = .int .i64 m ∧ m ≤ k ∧ Hid ((l.take k).count n = m)) (fun _ i => l.length - (intOf i).toNat)
  case atStart => exact ⟨0, 0, Nat.zero_le _, rfl, rfl, Nat.le_refl _, Lib.hid (by simp)⟩
  case round =>
    obtain ⟨k, m, hk, rfl, rfl, hm, hA⟩ := hrel
    by_cases hlt : k < l.length
    · obtain ⟨b, o, cap', hv, hb, hc0⟩ := hV.at hlt
      cases hv
      have hs := count_snoc n hlt
      rw [hA.out] at hs
      have HS := Lib.hid hs
      clear hs
      generalize l[k] = x at *
      by_cases h : x = n
      · have hN := Lib.hid (HS.out.trans (by rw [if_pos h]))
        subst h
        clear HS
        go_wp2_with fail
        go_round
        case rel => exact ⟨k + 1, m + 1, by omega, by go_num, by go_num, by omega, hN⟩
        case measure => simp [intOf]; omega
      · have hN := Lib.hid (HS.out.trans (by rw [if_neg h]))
        have hq : (x == n) = false := intNe h
        clear HS
        go_wp2_with fail
        go_round
        case rel => exact ⟨k + 1, m, by omega, by go_num, rfl, by omega, hN⟩
        case measure => simp [intOf]; omega
    · obtain rfl : k = l.length := by omega
      have hN := Lib.hid (show l.count n = m by have := hA.out; rwa [List.take_of_length_le (Nat.le_refl _)] at this)
      go_wp2_with fail
      go_ret
      exact ⟨ret_int (by rw [hN.out]), rfl⟩
/-- sizes of a document's texts and rows -/
def Fits (x : Nd) : Prop := x.nm.size ≤ 140737488351232 ∧ x.tx.size ≤ 140737488351232 ∧ x.ats.length ≤ 1000000000000000 ∧ x.ks.length ≤ 1000000000000000 ∧ ∀ a ∈ x.ats, a.n.size ≤ 140737488351232 ∧ a.v.size ≤ 140737488351232
/-- a node of a right document, by the document -/
def okR (l : List Nd) (j : Nat) : Prop := ∀ x, l[j]? = some x → (oneB x = true ∧ -1 ≤ x.pa ∧ x.pa < l.length) ∧ (0 ≤ x.pa → (ksOf l x.pa).count (j : Int) = 1) ∧ ∀ c ∈ x.ks, 0 ≤ c ∧ c < l.length ∧ paOf l c = j
theorem RightP.okR {l : List Nd} (h : RightP l) (j : Nat) : okR l j := fun x hx => ⟨h.node j x hx, h.once j x hx, h.kids j x hx⟩
set_option maxHeartbeats 4000000 in
set_option maxRecDepth 100000 in
theorem refRight_any (l : List Nd) (v : Value) (hl : l.length ≤ 1000000000000000000) (hz : ∀ x ∈ l, Fits x) (w : World) (hU : Nodes l v w) :
    Calls Try.prog 25 #[v] w fun e w' => e = .returned (.bool (rightB l)) ∧ Below w.heap.size w w' := by
  have hz2 : ∀ x ∈ l, x.ks.length ≤ 1000000000000000000 := fun x hx => Nat.le_trans (hz x hx).2.2.2.1 (by omega)
  obtain ⟨a, cap, rfl⟩ := hU.len
  by_cases h0 : l.length < 1
  · have hR := Lib.hid (rightB_no (fun h : RightP l => by have := h.pos; omega))
    have h0' : (l.length : Int) < 1 := by omega
    go_enter Try.func25, Try.ntmps25
    go_wp2_with fail
    go_ret
    exact ⟨ret_bool hR.out.symm, Below.refl _ _⟩
  have h0' : decide ((l.length : Int) < 1) = false := decide_eq_false (by omega)
  by_cases h1 : 400 < l.length
  · have hR := Lib.hid (rightB_no (fun h : RightP l => by have := h.max; omega))
    have h1' : (400 : Int) < (l.length : Int) := by omega
    go_enter Try.func25, Try.ntmps25
    go_wp2_with fail
    go_ret
    exact ⟨ret_bool hR.out.symm, Below.refl _ _⟩
  have h1' : decide ((400 : Int) < (l.length : Int)) = false := decide_eq_false (by omega)
  have hpos : 0 < l.length := by omega
  obtain ⟨b, o, cap', va, vk, hv, hb, c0, c1, c2, c3, c4, hat, hks⟩ := hU.at hpos
  cases hv
  have hx0 : l[0]? = some l[0] := List.getElem?_eq_getElem hpos
  have hTop := Lib.hid (fun (h : RightP l) => h.top _ hx0)
  have hTop2 := Lib.hid (fun (h : l[0].nm.size ≠ 0 ∧ l[0].pa = -1) => show ∀ x, l[0]? = some x → x.nm.size ≠ 0 ∧ x.pa = -1 from fun x hx => by rw [hx0] at hx; cases hx; exact h)
  have hp0 : (0 : Int) < (l.length : Int) := by omega
  rw [Nat.zero_mul, Nat.add_zero] at c0 c1 c2 c3 c4
  clear hx0 hat hks c1 c2 c4
  generalize l[0] = y at *
  by_cases h2 : y.nm.size = 0
  · have hR := Lib.hid (rightB_no (fun h : RightP l => (hTop.out h).1 h2))
    have h2' : ((y.nm.size : Int) == 0) = true := by rw [h2]; rfl
    clear h2
    go_enter Try.func25, Try.ntmps25
    go_wp2_with fail
    go_ret
    exact ⟨ret_bool hR.out.symm, Below.refl _ _⟩
  have h2' : ((y.nm.size : Int) == 0) = false := intNe (by omega)
  by_cases h3 : y.pa = -1
  case neg =>
    have hR := Lib.hid (rightB_no (fun h : RightP l => h3 (hTop.out h).2))
    have h3' : (y.pa == -1) = false := intNe h3
    have h3'' : (y.pa != -1) = true := by rw [bne, h3']; rfl
    clear h2 h3
    go_enter Try.func25, Try.ntmps25
    go_wp2_with fail
    go_ret
    exact ⟨ret_bool hR.out.symm, Below.refl _ _⟩
  have hTT := Lib.hid (hTop2.out ⟨h2, h3⟩)
  rw [h3] at c3
  clear hTop hTop2 h2 h3
  go_enter Try.func25, Try.ntmps25
  go_wp2_with fail
  go_loopw [3] (fun i wr => ∃ k : Nat, k ≤ l.length ∧ i = .int .i64 k ∧ Hid (∀ j, j < k → okR l j) ∧ Below w.heap.size w wr) (fun i _ => l.length - (intOf i).toNat)
  case atStart => exact ⟨0, Nat.zero_le _, rfl, Lib.hid (fun j hj => by omega), Below.refl _ _⟩
  case round =>
    obtain ⟨k, hk, rfl, hA, hbel⟩ := hrel
    have hsz := hbel.size
    by_cases hlt : k < l.length
    · have hUr := hU.kept hbel
      obtain ⟨b, o, cap', va, vk, hv, hb, c0, c1, c2, c3, c4, hat, hks⟩ := hUr.at hlt
      cases hv
      obtain ⟨z0, z1, z2, _, z4⟩ := hz _ (List.getElem_mem hlt)
      have z3 := hz2 _ (List.getElem_mem hlt)
      have hxk : l[k]? = some l[k] := List.getElem?_eq_getElem hlt
      have hF := Lib.hid (fun (h : ¬ ((oneB l[k] = true ∧ -1 ≤ l[k].pa ∧ l[k].pa < l.length) ∧ (0 ≤ l[k].pa → (ksOf l l[k].pa).count (k : Int) = 1) ∧ ∀ c ∈ l[k].ks, 0 ≤ c ∧ c < l.length ∧ paOf l c = k)) => rightB_no (fun H : RightP l => h (H.okR k _ hxk)))
      have hN := Lib.hid (fun (h : ((oneB l[k] = true ∧ -1 ≤ l[k].pa ∧ l[k].pa < l.length) ∧ (0 ≤ l[k].pa → (ksOf l l[k].pa).count (k : Int) = 1) ∧ ∀ c ∈ l[k].ks, 0 ≤ c ∧ c < l.length ∧ paOf l c = k)) => show ∀ j, j < k + 1 → okR l j from fun j hj => by
        by_cases e : j = k
        · intro x hx
          subst e
          rw [hxk] at hx
          cases hx
          exact h
        · exact hA.out j (by omega))
      generalize l[k] = x at *
      have hk0 : (0 : Int) ≤ (k : Int) := by omega
      have hk1 : (k : Int) < (l.length : Int) := by omega
      cases h4 : oneB x
      · have hR := Lib.hid (hF.out (fun h => by rw [h4] at h; exact Bool.false_ne_true h.1.1))
        have HF := Lib.hid h4
        clear h4
        go_wp2_with fail
        refine (alone_any x va vk z2 z3 z0 z1 _ hat hks z4).mono ?_
        rintro e w' ⟨rfl, hb5⟩
        rw [HF.out]
        go_wp2_with fail
        go_ret
        exact ⟨ret_bool hR.out.symm, hbel.trans (hb5.mono (by omega))⟩
      · have HF := Lib.hid h4
        by_cases h5 : x.pa < -1
        · have hR := Lib.hid (hF.out (fun h => by omega))
          clear h4
          go_wp2_with fail
          refine (alone_any x va vk z2 z3 z0 z1 _ hat hks z4).mono ?_
          rintro e w' ⟨rfl, hb5⟩
          rw [HF.out]
          go_wp2_with fail
          go_ret
          exact ⟨ret_bool hR.out.symm, hbel.trans (hb5.mono (by omega))⟩
        have h5' : decide (x.pa < -1) = false := decide_eq_false h5
        by_cases h6 : (l.length : Int) ≤ x.pa
        · have hR := Lib.hid (hF.out (fun h => by omega))
          clear h4
          go_wp2_with fail
          refine (alone_any x va vk z2 z3 z0 z1 _ hat hks z4).mono ?_
          rintro e w' ⟨rfl, hb5⟩
          rw [HF.out]
          go_wp2_with fail
          go_ret
          exact ⟨ret_bool hR.out.symm, hbel.trans (hb5.mono (by omega))⟩
        have h6' : decide ((l.length : Int) ≤ x.pa) = false := decide_eq_false h6
        by_cases h7 : 0 ≤ x.pa
        · obtain ⟨p, hp⟩ := Int.eq_ofNat_of_zero_le h7
          have hpl : p < l.length := by omega
          have hke := Lib.hid (show ksOf l x.pa = l[p].ks by rw [hp]; exact ksOf_at hpl)
          have zp := hz2 _ (List.getElem_mem hpl)
          have HP := Lib.hid hp
          clear hp
          go_wp2_with fail
          refine (alone_any x va vk z2 z3 z0 z1 _ hat hks z4).mono ?_
          rintro e w' ⟨rfl, hb5⟩
          rw [HF.out]
          have hbW := hbel.trans (hb5.mono (by omega))
          have hUW := hU.kept hbW
          replace hat := hat.kept hb5
          replace hks := hks.kept hb5
          replace c0 := cellK hb5 hb c0
          replace c1 := cellK hb5 hb c1
          replace c2 := cellK hb5 hb c2
          replace c3 := cellK hb5 hb c3
          replace c4 := cellK hb5 hb c4
          obtain ⟨ka, kcap, rfl⟩ := hks.len
          obtain ⟨b9, o9, cap9, va9, vk9, hv9, hb9, g0, g1, g2, g3, g4, _, hks9⟩ := hUW.at hpl
          cases hv9
          generalize l[p] = yp at *
          have hp0 : (0 : Int) ≤ (p : Int) := by omega
          have hp1 : (p : Int) < (l.length : Int) := by omega
          rw [HP.out] at h5' h6' c3 ⊢
          by_cases h8 : yp.ks.count (k : Int) = 1
          case neg =>
            have hR := Lib.hid (hF.out (fun h => by have := h.2.1 h7; rw [hke.out] at this; exact h8 this))
            have h8' : ((yp.ks.count (k : Int) : Int) == 1) = false := intNe (by omega)
            have h8'' : ((yp.ks.count (k : Int) : Int) != 1) = true := by rw [bne, h8']; rfl
            go_wp2_with fail
            refine (count_at yp.ks vk9 k zp _ hks9).mono ?_
            rintro e w7 ⟨rfl, rfl⟩
            go_wp2_with fail
            go_ret
            exact ⟨ret_bool hR.out.symm, hbW⟩
          have hcnt := Lib.hid (show 0 ≤ x.pa → (ksOf l x.pa).count (k : Int) = 1 from fun _ => by rw [hke.out]; exact h8)
          go_wp2_with fail
          refine (count_at yp.ks vk9 k zp _ hks9).mono ?_
          rintro e w7 ⟨rfl, rfl⟩
          rw [h8]
          go_wp2_with fail
          go_loop [5] (fun i => ∃ m : Nat, m ≤ x.ks.length ∧ i = .int .i64 m ∧ Hid (∀ c ∈ x.ks.take m, 0 ≤ c ∧ c < l.length ∧ paOf l c = k)) (fun i => x.ks.length - (intOf i).toNat)
          case atStart => exact ⟨0, Nat.zero_le _, rfl, Lib.hid (by simp)⟩
          case round =>
            obtain ⟨m, hm, rfl, hB⟩ := hrel
            by_cases hlm : m < x.ks.length
            · obtain ⟨kb, ko, kcap', kv, khb, kc0⟩ := hks.at hlm
              cases kv
              have hmem := List.getElem_mem hlm
              have hBT := Lib.hid (fun h => take_mem_snoc (P := fun c : Int => 0 ≤ c ∧ c < l.length ∧ paOf l c = k) hlm hB.out h)
              generalize x.ks[m] = c at *
              have hm0 : (0 : Int) ≤ (m : Int) := by omega
              have hm1 : (m : Int) < (x.ks.length : Int) := by omega
              by_cases e1 : c < 0
              · have hR := Lib.hid (hF.out (fun h => by have := (h.2.2 c hmem).1; omega))
                go_wp2_with fail
                go_ret
                exact ⟨ret_bool hR.out.symm, hbW⟩
              have e1' : decide (c < 0) = false := decide_eq_false e1
              by_cases e2 : (l.length : Int) ≤ c
              · have hR := Lib.hid (hF.out (fun h => by have := (h.2.2 c hmem).2.1; omega))
                go_wp2_with fail
                go_ret
                exact ⟨ret_bool hR.out.symm, hbW⟩
              have e2' : decide ((l.length : Int) ≤ c) = false := decide_eq_false e2
              obtain ⟨q, rfl⟩ := Int.eq_ofNat_of_zero_le (show 0 ≤ c by omega)
              have hq : q < l.length := by omega
              obtain ⟨b2, o2, cap2, va2, vk2, hv2, hb2, d0, d1, d2, d3, d4, _, _⟩ := hUW.at hq
              cases hv2
              have hpq := Lib.hid (paOf_at hq)
              generalize l[q] = y2 at *
              have hq0 : (0 : Int) ≤ (q : Int) := by omega
              have hq1 : (q : Int) < (l.length : Int) := by omega
              by_cases e3 : y2.pa = k
              · have hBN := Lib.hid (hBT.out ⟨by omega, by omega, by rw [hpq.out, e3]⟩)
                rw [e3] at d3
                clear e3
                go_wp2_with fail
                exact ⟨⟨m + 1, by omega, by go_num, hBN⟩, by simp [intOf]; omega⟩
              · have hR := Lib.hid (hF.out (fun h => by have := (h.2.2 _ hmem).2.2; rw [hpq.out] at this; exact e3 this))
                have e3' : (y2.pa == (k : Int)) = false := intNe e3
                have e3'' : (y2.pa != (k : Int)) = true := by rw [bne, e3']; rfl
                clear e3
                go_wp2_with fail
                go_ret
                exact ⟨ret_bool hR.out.symm, hbW⟩
            · obtain rfl : m = x.ks.length := by omega
              have hNN := Lib.hid (hN.out ⟨⟨h4, by omega, by omega⟩, hcnt.out, by have := hB.out; rwa [List.take_of_length_le (Nat.le_refl _)] at this⟩)
              go_wp2_with fail
              go_roundw
              case rel => exact ⟨k + 1, by omega, by go_num, hNN, hbW⟩
              case measure => simp [intOf]; omega
        · have hcnt := Lib.hid (show 0 ≤ x.pa → (ksOf l x.pa).count (k : Int) = 1 from fun h => absurd h h7)
          have h7' : decide (0 ≤ x.pa) = false := decide_eq_false h7
          go_wp2_with fail
          refine (alone_any x va vk z2 z3 z0 z1 _ hat hks z4).mono ?_
          rintro e w' ⟨rfl, hb5⟩
          rw [HF.out]
          have hbW := hbel.trans (hb5.mono (by omega))
          have hUW := hU.kept hbW
          replace hat := hat.kept hb5
          replace hks := hks.kept hb5
          replace c0 := cellK hb5 hb c0
          replace c1 := cellK hb5 hb c1
          replace c2 := cellK hb5 hb c2
          replace c3 := cellK hb5 hb c3
          replace c4 := cellK hb5 hb c4
          obtain ⟨ka, kcap, rfl⟩ := hks.len
          go_wp2_with fail
          go_loop [5] (fun i => ∃ m : Nat, m ≤ x.ks.length ∧ i = .int .i64 m ∧ Hid (∀ c ∈ x.ks.take m, 0 ≤ c ∧ c < l.length ∧ paOf l c = k)) (fun i => x.ks.length - (intOf i).toNat)
          case atStart => exact ⟨0, Nat.zero_le _, rfl, Lib.hid (by simp)⟩
          case round =>
            obtain ⟨m, hm, rfl, hB⟩ := hrel
            by_cases hlm : m < x.ks.length
            · obtain ⟨kb, ko, kcap', kv, khb, kc0⟩ := hks.at hlm
              cases kv
              have hmem := List.getElem_mem hlm
              have hBT := Lib.hid (fun h => take_mem_snoc (P := fun c : Int => 0 ≤ c ∧ c < l.length ∧ paOf l c = k) hlm hB.out h)
              generalize x.ks[m] = c at *
              have hm0 : (0 : Int) ≤ (m : Int) := by omega
              have hm1 : (m : Int) < (x.ks.length : Int) := by omega
              by_cases e1 : c < 0
              · have hR := Lib.hid (hF.out (fun h => by have := (h.2.2 c hmem).1; omega))
                go_wp2_with fail
                go_ret
                exact ⟨ret_bool hR.out.symm, hbW⟩
              have e1' : decide (c < 0) = false := decide_eq_false e1
              by_cases e2 : (l.length : Int) ≤ c
              · have hR := Lib.hid (hF.out (fun h => by have := (h.2.2 c hmem).2.1; omega))
                go_wp2_with fail
                go_ret
                exact ⟨ret_bool hR.out.symm, hbW⟩
              have e2' : decide ((l.length : Int) ≤ c) = false := decide_eq_false e2
              obtain ⟨q, rfl⟩ := Int.eq_ofNat_of_zero_le (show 0 ≤ c by omega)
              have hq : q < l.length := by omega
              obtain ⟨b2, o2, cap2, va2, vk2, hv2, hb2, d0, d1, d2, d3, d4, _, _⟩ := hUW.at hq
              cases hv2
              have hpq := Lib.hid (paOf_at hq)
              generalize l[q] = y2 at *
              have hq0 : (0 : Int) ≤ (q : Int) := by omega
              have hq1 : (q : Int) < (l.length : Int) := by omega
              by_cases e3 : y2.pa = k
              · have hBN := Lib.hid (hBT.out ⟨by omega, by omega, by rw [hpq.out, e3]⟩)
                rw [e3] at d3
                clear e3
                go_wp2_with fail
                exact ⟨⟨m + 1, by omega, by go_num, hBN⟩, by simp [intOf]; omega⟩
              · have hR := Lib.hid (hF.out (fun h => by have := (h.2.2 _ hmem).2.2; rw [hpq.out] at this; exact e3 this))
                have e3' : (y2.pa == (k : Int)) = false := intNe e3
                have e3'' : (y2.pa != (k : Int)) = true := by rw [bne, e3']; rfl
                clear e3
                go_wp2_with fail
                go_ret
                exact ⟨ret_bool hR.out.symm, hbW⟩
            · obtain rfl : m = x.ks.length := by omega
              have hNN := Lib.hid (hN.out ⟨⟨h4, by omega, by omega⟩, hcnt.out, by have := hB.out; rwa [List.take_of_length_le (Nat.le_refl _)] at this⟩)
              go_wp2_with fail
              go_roundw
              case rel => exact ⟨k + 1, by omega, by go_num, hNN, hbW⟩
              case measure => simp [intOf]; omega
    · obtain rfl : k = l.length := by omega
      have hUr := hU.kept hbel
      go_wp2_with fail
      go_loop [7] (fun i => ∃ k : Nat, k ≤ l.length ∧ i = .int .i64 k ∧ Hid (∀ i : Nat, i < k → upN l (l.length + 1) i < 0)) (fun i => l.length - (intOf i).toNat)
      case atStart => exact ⟨0, Nat.zero_le _, rfl, Lib.hid (fun j hj => by omega)⟩
      case round =>
        obtain ⟨k, hk, rfl, hC⟩ := hrel
        by_cases hlt : k < l.length
        · have hk1 : (k : Int) < (l.length : Int) := by omega
          have hCN := Lib.hid (fun (h : upN l (l.length + 1) k < 0) => show ∀ i : Nat, i < k + 1 → upN l (l.length + 1) i < 0 from fun j hj => by
            by_cases e : j = k
            · rw [e]; exact h
            · exact hC.out j (by omega))
          have hCF := Lib.hid (fun (h : ¬ upN l (l.length + 1) k < 0) => rightB_no (fun H : RightP l => h (H.climb k hlt)))
          go_wp2_with fail
          go_loop [8, 9] (fun c n => ∃ (m : Nat) (z : Int), m ≤ l.length + 1 ∧ n = .int .i64 m ∧ c = .int .i64 z ∧ z < l.length ∧ Hid (upN l (l.length + 1 - m) z = upN l (l.length + 1) k)) (fun _ n => l.length + 1 - (intOf n).toNat)
          case atStart => exact ⟨0, k, Nat.zero_le _, rfl, rfl, hk1, Lib.hid rfl⟩
          case round =>
            obtain ⟨m, z, hm, rfl, rfl, hzl, hD⟩ := hrel
            by_cases f1 : z < 0
            · have hNN := Lib.hid (hCN.out (by rw [← hD.out, upN_neg l f1]; exact f1))
              have f1' : decide (0 ≤ z) = false := decide_eq_false (by omega)
              go_wp2_with fail
              exact ⟨⟨k + 1, by omega, by go_num, hNN⟩, by simp [intOf]; omega⟩
            have f1' : 0 ≤ z := by omega
            by_cases f2 : m ≤ l.length
            · obtain ⟨q, rfl⟩ := Int.eq_ofNat_of_zero_le f1'
              have hq : q < l.length := by omega
              have hDN := Lib.hid (show upN l (l.length + 1 - (m + 1)) l[q].pa = upN l (l.length + 1) k by
                rw [← hD.out, show l.length + 1 - m = (l.length + 1 - (m + 1)) + 1 by omega, upN_step l f1', paOf_at hq])
              obtain ⟨b2, o2, cap2, va2, vk2, hv2, hb2, d0, d1, d2, d3, d4, _, _⟩ := hUr.at hq
              cases hv2
              have hpal := (hA.out q hq _ (List.getElem?_eq_getElem hq)).1.2.2
              generalize l[q] = y2 at *
              have hq0 : (0 : Int) ≤ (q : Int) := by omega
              have hq1 : (q : Int) < (l.length : Int) := by omega
              have f2' : (m : Int) ≤ (l.length : Int) := by omega
              go_wp2_with fail
              exact ⟨⟨m + 1, y2.pa, by omega, by go_num, rfl, hpal, hDN⟩, by simp [intOf]; omega⟩
            · obtain rfl : m = l.length + 1 := by omega
              have hR := Lib.hid (hCF.out (by rw [← hD.out, Nat.sub_self, show upN l 0 z = z by unfold upN; rfl]; omega))
              have f2' : decide (((l.length + 1 : Nat) : Int) ≤ (l.length : Int)) = false := decide_eq_false (by omega)
              go_wp2_with fail
              go_ret
              exact ⟨ret_bool hR.out.symm, hbel⟩
        · obtain rfl : k = l.length := by omega
          have hR := Lib.hid (rightB_yes (l := l) ⟨hpos, by omega, hTT.out, fun i x hx => (hA.out i (List.getElem?_eq_some_iff.1 hx).1 x hx).1, fun i x hx => (hA.out i (List.getElem?_eq_some_iff.1 hx).1 x hx).2.2, fun i x hx => (hA.out i (List.getElem?_eq_some_iff.1 hx).1 x hx).2.1, hC.out⟩)
          go_wp2_with fail
          go_ret
          exact ⟨ret_bool hR.out.symm, hbel⟩
end Go.Proofs.Ytenicjebccdekaa
