/-
  RIGHT DOCUMENTS: tree.Right: the walk.
-/
import Derived.Test.YtenicjebccdekaaRightRef
import Derived.Deep.OwnRows
namespace Go.Proofs.Ytenicjebccdekaa
set_option linter.unusedVariables false
set_option linter.unusedSimpArgs false
open Go.RowKit PT

/-- a row of marks -/
def row (n : Nat) (f : Nat → Bool) : Array Value := ((List.range n).map fun c => Value.bool (f c)).toArray
theorem row_size (n : Nat) (f : Nat → Bool) : (row n f).size = n := by simp [row]
theorem row_get {n : Nat} (f : Nat → Bool) {q : Nat} (hq : q < n) : (row n f)[q]? = some (.bool (f q)) := by simp [row, hq]
theorem row_made (n : Nat) : madeCells #[.bool false] n = row n (fun _ => false) := by
  apply Array.ext_getElem?
  intro j
  by_cases hj : j < n
  · simp [row, madeCells, hj, Nat.mod_one]
  · simp [row, madeCells, hj]
theorem row_set {n : Nat} (f : Nat → Bool) (q : Nat) : (row n f).setIfInBounds q (.bool true) = row n (fun c => decide (c = q) || f c) := by
  apply Array.ext_getElem?
  intro j
  rw [Array.getElem?_setIfInBounds]
  by_cases hj : j < n
  · by_cases e : q = j
    · subst e; rw [if_pos rfl, row_size, if_pos hj, row_get _ hj, decide_eq_true rfl]; rfl
    · rw [if_neg e, row_get _ hj, row_get _ hj, decide_eq_false (fun h => e h.symm)]; rfl
  · rw [Array.getElem?_eq_none (by rw [row_size]; omega), Array.getElem?_eq_none (xs := row n _) (by rw [row_size]; omega)]
    rw [row_size]
    by_cases e : q = j
    · rw [if_pos e, if_neg (by omega)]
    · rw [if_neg e]
/-- a node of a right document, by the program -/
def okP (l : List Nd) (j : Nat) : Prop := ∀ x, l[j]? = some x → (oneB x = true ∧ -1 ≤ x.pa ∧ x.pa < l.length) ∧ (∀ c : Nat, x.ks.count (c : Int) ≤ 1) ∧ ∀ c ∈ x.ks, 0 ≤ c ∧ c < l.length ∧ paOf l c = j
theorem RightP.okP {l : List Nd} (h : RightP l) (j : Nat) : okP l j := fun x hx => ⟨h.node j x hx, ((once_iff l h.kids (fun i x hx => (h.node i x hx).2.2)).1 h.once).1 j x hx, h.kids j x hx⟩
theorem RightP.sum {l : List Nd} (h : RightP l) : paS l l.length = ksS l l.length := ((once_iff l h.kids (fun i x hx => (h.node i x hx).2.2)).1 h.once).2
theorem paS_succ (l : List Nd) (n : Nat) : paS l (n + 1) = paS l n + if 0 ≤ paOf l n then 1 else 0 := rfl
theorem ksS_succ (l : List Nd) (n : Nat) : ksS l (n + 1) = ksS l n + (ksOf l n).length := rfl
theorem make_bool (n : Nat) (hn : n ≤ 400) (W : World) : (Instr.makeSlice 81 (.int .i64 (n : Int)) (.int .i64 (n : Int))).run Try.prog W = .ok (.slice (some ⟨W.heap.size, 0, none⟩) n n) (W.alloc (.cells (row n (fun _ => false)) 4)) := by
  rw [← row_made]
  exact run_make_row' (P := Try.prog) 81 4 (.bool false) 1 (by kernel_rfl) (by kernel_rfl) rfl .i64 .i64 n (by omega) (by omega) W
set_option maxHeartbeats 8000000 in
set_option maxRecDepth 100000 in
theorem right_any (l : List Nd) (v : Value) (hl : l.length ≤ 1000000000000000000) (hz : ∀ x ∈ l, Fits x) (w : World) (hU : Nodes l v w) :
    Calls Try.prog 52 #[v] w fun e w' => e = .returned (.bool (rightB l)) ∧ Below w.heap.size w w' := by
  obtain ⟨a, cap, rfl⟩ := hU.len
  by_cases h0 : l.length = 0
  · have hR := Lib.hid (rightB_no (fun h : RightP l => by have := h.pos; omega))
    have h0' : ((l.length : Int) == 0) = true := by rw [h0]; rfl
    go_enter Try.func52, Try.ntmps52
    go_wp2_with fail
    go_ret
    exact ⟨ret_bool hR.out.symm, Below.refl _ _⟩
  have h0' : ((l.length : Int) == 0) = false := intNe (by omega)
  by_cases h1 : 400 < l.length
  · have hR := Lib.hid (rightB_no (fun h : RightP l => by have := h.max; omega))
    have h1' : (400 : Int) < (l.length : Int) := by omega
    go_enter Try.func52, Try.ntmps52
    go_wp2_with fail
    go_ret
    exact ⟨ret_bool hR.out.symm, Below.refl _ _⟩
  have h1' : decide ((400 : Int) < (l.length : Int)) = false := decide_eq_false (by omega)
  have hpos : 0 < l.length := by omega
  obtain ⟨b, o, cap', va, vk, hv, hb, c0, c1, c2, c3, c4, hat, hks⟩ := hU.at hpos
  cases hv
  have hx0 : l[0]? = some l[0] := List.getElem?_eq_getElem hpos
  have hTop := Lib.hid (fun (h : RightP l) => h.top _ hx0)
  have hTop2 := Lib.hid (fun (h : l[0].nm.size ≠ 0 ∧ l[0].pa = -1) => show ∀ x, l[0]? = some x → x.nm.size ≠ 0 ∧ x.pa = -1 from fun x hx => by rw [hx0] at hx; cases hx; exact h)
  have hp0 : (0 : Int) < (l.length : Int) := by omega
  rw [Nat.zero_mul, Nat.add_zero] at c0 c1 c2 c3 c4
  clear hx0 hat hks c1 c2 c4
  generalize l[0] = y at *
  by_cases h2 : y.nm.size = 0
  · have hR := Lib.hid (rightB_no (fun h : RightP l => (hTop.out h).1 h2))
    have h2' := emp_yes h2
    have h2'' := empt_yes h2
    clear h2
    go_enter Try.func52, Try.ntmps52
    go_wp2_with fail
    go_ret
    exact ⟨ret_bool hR.out.symm, Below.refl _ _⟩
  have h2' := emp_no h2
  have h2'' := empt_no h2
  by_cases h3 : y.pa = -1
  case neg =>
    have hR := Lib.hid (rightB_no (fun h : RightP l => h3 (hTop.out h).2))
    have h3' : (y.pa == -1) = false := intNe h3
    have h3'' : (y.pa != -1) = true := by rw [bne, h3']; rfl
    clear h2 h3
    go_enter Try.func52, Try.ntmps52
    go_wp2_with fail
    go_ret
    exact ⟨ret_bool hR.out.symm, Below.refl _ _⟩
  have hTT := Lib.hid (hTop2.out ⟨h2, h3⟩)
  rw [h3] at c3
  clear hTop hTop2 h2 h3
  have hmk := make_bool l.length (by omega)
  have hn0 := Go.heap_alloc_new w (.cells (row l.length (fun _ => false)) 4)
  have hb0 := (Below.refl w.heap.size w).alloc (Nat.le_refl _) (.cells (row l.length (fun _ => false)) 4)
  have hs0 : (w.alloc (.cells (row l.length (fun _ => false)) 4)).heap.size = w.heap.size + 1 := by simp
  go_enter Try.func52, Try.ntmps52
  go_upto_region 5 with fail
  generalize World.alloc _ _ = W0 at hn0 hb0 hs0 ⊢
  go_wp2_with fail
  go_loopw [3, 39] (fun mt i wr => ∃ (k : Nat) (M : Int) (f : Nat → Bool), k ≤ l.length ∧ i = .int .i64 k ∧ mt = .int .i64 M ∧ M ≤ k ∧ -(1000000000000000 * (k : Int)) ≤ M ∧ Hid (M = (paS l k : Int) - ksS l k) ∧ Hid (∀ j, j < k → okP l j) ∧
    Hid (∀ c, c < l.length → (f c = true ↔ ∃ j, j < k ∧ (c : Int) ∈ ksOf l j)) ∧ wr.heap[w.heap.size]? = some (.cells (row l.length f) 4 (0, 0)) ∧ Below w.heap.size w wr ∧ w.heap.size < wr.heap.size) (fun _ i _ => l.length - (intOf i).toNat)
  case atStart => exact ⟨0, 0, fun _ => false, Nat.zero_le _, rfl, rfl, by omega, by omega, Lib.hid rfl, Lib.hid (fun j hj => by omega), Lib.hid (fun c _ => Iff.intro (fun h => by cases h) (fun h => by obtain ⟨j, hj, _⟩ := h; omega)), hn0, hb0, by omega⟩
  case round =>
    obtain ⟨k, M, f, hk, rfl, rfl, hM1, hM2, hM, hA, hf, hrow, hbel, hgw⟩ := hrel
    have hsz := hbel.size
    by_cases hlt : k < l.length
    · obtain ⟨b, o, cap', va, vk, hv, hb, c0, c1, c2, c3, c4, hat, hks⟩ := hU.at hlt
      cases hv
      replace c0 := cellK hbel hb c0
      replace c1 := cellK hbel hb c1
      replace c2 := cellK hbel hb c2
      replace c3 := cellK hbel hb c3
      replace c4 := cellK hbel hb c4
      have hks0 := hks
      replace hat := hat.kept hbel
      replace hks := hks.kept hbel
      obtain ⟨z0, z1, z2, z3, z4⟩ := hz _ (List.getElem_mem hlt)
      have hxk : l[k]? = some l[k] := List.getElem?_eq_getElem hlt
      have hpak := Lib.hid (paOf_at hlt)
      have hksk := Lib.hid (ksOf_at hlt)
      have hF := Lib.hid (fun (h : ¬ ((oneB l[k] = true ∧ -1 ≤ l[k].pa ∧ l[k].pa < l.length) ∧ (∀ c : Nat, l[k].ks.count (c : Int) ≤ 1) ∧ ∀ c ∈ l[k].ks, 0 ≤ c ∧ c < l.length ∧ paOf l c = k)) => rightB_no (fun H : RightP l => h (H.okP k _ hxk)))
      have hN := Lib.hid (fun (h : ((oneB l[k] = true ∧ -1 ≤ l[k].pa ∧ l[k].pa < l.length) ∧ (∀ c : Nat, l[k].ks.count (c : Int) ≤ 1) ∧ ∀ c ∈ l[k].ks, 0 ≤ c ∧ c < l.length ∧ paOf l c = k)) => show ∀ j, j < k + 1 → okP l j from fun j hj => by
        by_cases e : j = k
        · intro x hx
          subst e
          rw [hxk] at hx
          cases hx
          exact h
        · exact hA.out j (by omega))
      generalize l[k] = x at *
      have hk0 : (0 : Int) ≤ (k : Int) := by omega
      have hk1 : (k : Int) < (l.length : Int) := by omega
      obtain ⟨aa, acap, rfl⟩ := hat.len
      obtain ⟨ka, kcap, rfl⟩ := hks.len
      have hn1 := Go.heap_alloc_new wr (.cells #[.string x.nm, .string x.tx, .slice aa x.ats.length acap, .int .i64 x.pa, .slice ka x.ks.length kcap] 35)
      have hba := (Below.refl wr.heap.size wr).alloc (Nat.le_refl _) (.cells #[.string x.nm, .string x.tx, .slice aa x.ats.length acap, .int .i64 x.pa, .slice ka x.ks.length kcap] 35)
      have hs1 : (wr.alloc (.cells #[.string x.nm, .string x.tx, .slice aa x.ats.length acap, .int .i64 x.pa, .slice ka x.ks.length kcap] 35)).heap.size = wr.heap.size + 1 := by simp
      go_upto_region 8 with fail
      generalize World.alloc _ _ = W1 at hn1 hba hs1 ⊢
      obtain ⟨x0, x1, x2, x3, x4, f0, f1, f2, f3, f4⟩ := five_of hn1
      have hb1 := hbel.trans (hba.mono hsz)
      replace hat := hat.kept hba
      replace hks := hks.kept hba
      cases h4 : oneB x
      · have hR := Lib.hid (hF.out (fun h => by rw [h4] at h; exact Bool.false_ne_true h.1.1))
        have HF := Lib.hid h4
        clear h4
        go_wp2_with fail
        refine (one_any x (.slice aa x.ats.length acap) (.slice ka x.ks.length kcap) z2 (Nat.le_trans z3 (by omega)) z1 _ hat hks (fun a ha => (z4 a ha).2)).mono ?_
        rintro e w' ⟨rfl, hb5⟩
        rw [HF.out]
        go_wp2_with fail
        go_ret
        exact ⟨ret_bool hR.out.symm, hb1.trans (hb5.mono (by omega))⟩
      have HF := Lib.hid h4
      by_cases h5 : x.pa < -1
      · have hR := Lib.hid (hF.out (fun h => by omega))
        clear h4
        go_wp2_with fail
        refine (one_any x (.slice aa x.ats.length acap) (.slice ka x.ks.length kcap) z2 (Nat.le_trans z3 (by omega)) z1 _ hat hks (fun a ha => (z4 a ha).2)).mono ?_
        rintro e w' ⟨rfl, hb5⟩
        have y3 := cellK hb5 (by omega) x3
        rw [HF.out]
        go_wp2_with fail
        go_ret
        exact ⟨ret_bool hR.out.symm, hb1.trans (hb5.mono (by omega))⟩
      have h5' : decide (x.pa < -1) = false := decide_eq_false h5
      by_cases h6 : (l.length : Int) ≤ x.pa
      · have hR := Lib.hid (hF.out (fun h => by omega))
        clear h4
        go_wp2_with fail
        refine (one_any x (.slice aa x.ats.length acap) (.slice ka x.ks.length kcap) z2 (Nat.le_trans z3 (by omega)) z1 _ hat hks (fun a ha => (z4 a ha).2)).mono ?_
        rintro e w' ⟨rfl, hb5⟩
        have y3 := cellK hb5 (by omega) x3
        rw [HF.out]
        go_wp2_with fail
        go_ret
        exact ⟨ret_bool hR.out.symm, hb1.trans (hb5.mono (by omega))⟩
      have h6' : decide ((l.length : Int) ≤ x.pa) = false := decide_eq_false h6
      have hMs : ∃ e : Int, 0 ≤ e ∧ e ≤ 1 ∧ Hid (M + e - x.ks.length = (paS l (k + 1) : Int) - ksS l (k + 1)) ∧ Hid (e = if 0 ≤ x.pa then 1 else 0) := by
        refine ⟨if 0 ≤ x.pa then 1 else 0, by split <;> omega, by split <;> omega, Lib.hid ?_, Lib.hid rfl⟩
        rw [paS_succ, ksS_succ, hpak.out, hksk.out, hM.out]
        split <;> omega
      obtain ⟨e, he0, he1, hME, hee⟩ := hMs
      by_cases h7 : 0 ≤ x.pa
      · have he : e = 1 := by rw [hee.out, if_pos h7]
        subst he
        clear hee
        go_wp2_with fail
        refine (one_any x (.slice aa x.ats.length acap) (.slice ka x.ks.length kcap) z2 (Nat.le_trans z3 (by omega)) z1 _ hat hks (fun a ha => (z4 a ha).2)).mono ?_
        rintro e w' ⟨rfl, hb5⟩
        have y3 := cellK hb5 (by omega) x3
        have y4 := cellK hb5 (by omega) x4
        have hbW := hb1.trans (hb5.mono (by omega))
        have hrW := (hb5.mono (by omega : wr.heap.size ≤ _)).block w.heap.size hgw
        have hrW1 := hba.block w.heap.size hgw
        rw [hrW1, hrow] at hrW
        replace hks := hks.kept hb5
        have hgW := hb5.size
        rw [HF.out]
        go_wp2_with fail
        go_loopw [3, 67] (fun mt i wi => ∃ (m : Nat) (g : Nat → Bool), m ≤ x.ks.length ∧ i = .int .i64 m ∧ mt = .int .i64 (M + 1 - m) ∧ Hid (∀ c ∈ x.ks.take m, 0 ≤ c ∧ c < l.length ∧ paOf l c = k) ∧ Hid (∀ c : Nat, (x.ks.take m).count (c : Int) ≤ 1) ∧
          Hid (∀ c, c < l.length → (g c = true ↔ (∃ j, j < k ∧ (c : Int) ∈ ksOf l j) ∨ (c : Int) ∈ x.ks.take m)) ∧ wi.heap[w.heap.size]? = some (.cells (row l.length g) 4 (0, 0)) ∧ Below w.heap.size w wi ∧ w.heap.size < wi.heap.size) (fun _ i _ => x.ks.length - (intOf i).toNat)
        case atStart => exact ⟨0, f, Nat.zero_le _, rfl, by go_num, Lib.hid (by simp), Lib.hid (by simp), Lib.hid (fun c hc => by rw [hf.out c hc]; simp), hrW, hbW, by omega⟩
        case round =>
          obtain ⟨m, g, hm, rfl, rfl, hB, hC1, hg, hrow2, hbi, hgi⟩ := hrel
          by_cases hlm : m < x.ks.length
          · obtain ⟨kb, ko, kcap', kv, khb, kc0⟩ := (hks0.kept hbi).at hlm
            cases kv
            have hmem := List.getElem_mem hlm
            have hBT := Lib.hid (fun h => take_mem_snoc (P := fun c : Int => 0 ≤ c ∧ c < l.length ∧ paOf l c = k) hlm hB.out h)
            have hcs := Lib.hid (fun c : Int => count_snoc c hlm)
            have hms := Lib.hid (show ∀ c : Int, c ∈ x.ks.take (m + 1) ↔ c ∈ x.ks.take m ∨ c = x.ks[m] from fun c => by
              rw [List.take_add_one, List.mem_append, List.getElem?_eq_getElem hlm]; simp)
            generalize x.ks[m] = c at *
            have hm0 : (0 : Int) ≤ (m : Int) := by omega
            have hm1 : (m : Int) < (x.ks.length : Int) := by omega
            have hz3 : (x.ks.length : Int) ≤ 1000000000000000 := by omega
            by_cases e1 : c < 0
            · have hR := Lib.hid (hF.out (fun h => by have := (h.2.2 c hmem).1; omega))
              go_wp2_with fail
              go_ret
              exact ⟨ret_bool hR.out.symm, hbi⟩
            have e1' : decide (c < 0) = false := decide_eq_false e1
            by_cases e2 : (l.length : Int) ≤ c
            · have hR := Lib.hid (hF.out (fun h => by have := (h.2.2 c hmem).2.1; omega))
              go_wp2_with fail
              go_ret
              exact ⟨ret_bool hR.out.symm, hbi⟩
            have e2' : decide ((l.length : Int) ≤ c) = false := decide_eq_false e2
            obtain ⟨q, rfl⟩ := Int.eq_ofNat_of_zero_le (show 0 ≤ c by omega)
            have hq : q < l.length := by omega
            have u0 : wr.cell? ⟨w.heap.size, q, none⟩ = some (.bool (g q)) := by simp [World.cell?, hrow2, row_get g hq]
            have u1 : wr.frozen? ⟨w.heap.size, q, none⟩ = false := by simp [World.frozen?, hrow2]
            obtain ⟨b2, o2, cap2, va2, vk2, hv2, hb2, d0, d1, d2, d3, d4, _, _⟩ := (hU.kept hbi).at hq
            cases hv2
            have hpq := Lib.hid (paOf_at hq)
            generalize l[q] = y2 at *
            have hq0 : (0 : Int) ≤ (q : Int) := by omega
            have hq1 : (q : Int) < (l.length : Int) := by omega
            cases gq : g q
            · rw [gq] at u0
              by_cases e3 : y2.pa = k
              · have hBN := Lib.hid (hBT.out ⟨by omega, by omega, by rw [hpq.out, e3]⟩)
                have hnq : (q : Int) ∉ x.ks.take m := fun h => by
                  have := (hg.out q hq).2 (.inr h)
                  rw [gq] at this; exact Bool.false_ne_true this
                have hCN := Lib.hid (show ∀ c : Nat, (x.ks.take (m + 1)).count (c : Int) ≤ 1 from fun c => by
                  rw [hcs.out]
                  by_cases e : (q : Int) = c
                  · rw [if_pos e, ← e, List.count_eq_zero.2 hnq]; omega
                  · rw [if_neg e]; exact hC1.out c)
                have hgN := Lib.hid (show ∀ c, c < l.length → ((decide (c = q) || g c) = true ↔ (∃ j, j < k ∧ (c : Int) ∈ ksOf l j) ∨ (c : Int) ∈ x.ks.take (m + 1)) from fun c hc => by
                  rw [hms.out, Bool.or_eq_true, decide_eq_true_iff, hg.out c hc]
                  constructor
                  · rintro (h | h | h)
                    · exact .inr (.inr (by omega))
                    · exact .inl h
                    · exact .inr (.inl h)
                  · rintro (h | h | h)
                    · exact .inr (.inl h)
                    · exact .inr (.inr h)
                    · exact .inl (by omega))
                rw [e3] at d3
                clear e3 gq hnq
                go_wp2_with fail
                exact ⟨⟨m + 1, fun c => decide (c = q) || g c, by omega, by go_num, by go_num, hBN, hCN, hgN, (setCell_heap _ hrow2).trans (by rw [row_set]), hbi.setCell (p := ⟨w.heap.size, q, none⟩) (Nat.le_refl _) _, by simpa using hgi⟩, by simp [intOf]; omega⟩
              · have hR := Lib.hid (hF.out (fun h => by have := (h.2.2 _ hmem).2.2; rw [hpq.out] at this; exact e3 this))
                have e3' : (y2.pa == (k : Int)) = false := intNe e3
                have e3'' : (y2.pa != (k : Int)) = true := by rw [bne, e3']; rfl
                clear e3 gq
                go_wp2_with fail
                go_ret
                exact ⟨ret_bool hR.out.symm, hbi⟩
            · rw [gq] at u0
              have hR := Lib.hid (rightB_no (fun H : RightP l => by
                rcases (hg.out q hq).1 gq with ⟨j, hj, hm⟩ | hm
                · have hjl : j < l.length := by omega
                  rw [ksOf_at hjl] at hm
                  have e1 := (H.kids j _ (List.getElem?_eq_getElem hjl) _ hm).2.2
                  have e2 := (H.kids k x hxk _ hmem).2.2
                  omega
                · have h1 := (H.okP k x hxk).2.1 q
                  have h2 := hcs.out q
                  have h3 := List.count_pos_iff.2 hm
                  have h4 := (List.take_sublist (m + 1) x.ks).count_le (q : Int)
                  rw [if_pos rfl] at h2
                  omega))
              clear gq
              go_wp2_with fail
              go_ret
              exact ⟨ret_bool hR.out.symm, hbi⟩
          · obtain rfl : m = x.ks.length := by omega
            have hNN := Lib.hid (hN.out ⟨⟨h4, by omega, by omega⟩, fun c => by have := hC1.out c; rwa [List.take_of_length_le (Nat.le_refl _)] at this, by have := hB.out; rwa [List.take_of_length_le (Nat.le_refl _)] at this⟩)
            have hgN := Lib.hid (show ∀ c, c < l.length → (g c = true ↔ ∃ j, j < k + 1 ∧ (c : Int) ∈ ksOf l j) from fun c hc => by
              rw [hg.out c hc, List.take_of_length_le (Nat.le_refl _)]
              constructor
              · rintro (⟨j, hj, h⟩ | h)
                · exact ⟨j, by omega, h⟩
                · exact ⟨k, by omega, by rw [hksk.out]; exact h⟩
              · rintro ⟨j, hj, h⟩
                by_cases e : j = k
                · subst e; rw [hksk.out] at h; exact .inr h
                · exact .inl ⟨j, by omega, h⟩)
            go_wp2_with fail
            go_roundw
            case rel => exact ⟨k + 1, M + 1 - x.ks.length, g, by omega, by go_num, rfl, by omega, by omega, hME, hNN, hgN, hrow2, hbi, hgi⟩
            case measure => simp [intOf]; omega
      · have he : e = 0 := by rw [hee.out, if_neg h7]
        subst he
        have h7' : decide (0 ≤ x.pa) = false := decide_eq_false h7
        clear hee
        go_wp2_with fail
        refine (one_any x (.slice aa x.ats.length acap) (.slice ka x.ks.length kcap) z2 (Nat.le_trans z3 (by omega)) z1 _ hat hks (fun a ha => (z4 a ha).2)).mono ?_
        rintro e w' ⟨rfl, hb5⟩
        have y3 := cellK hb5 (by omega) x3
        have y4 := cellK hb5 (by omega) x4
        have hbW := hb1.trans (hb5.mono (by omega))
        have hrW := (hb5.mono (by omega : wr.heap.size ≤ _)).block w.heap.size hgw
        have hrW1 := hba.block w.heap.size hgw
        rw [hrW1, hrow] at hrW
        replace hks := hks.kept hb5
        have hgW := hb5.size
        rw [HF.out]
        go_wp2_with fail
        go_loopw [3, 67] (fun mt i wi => ∃ (m : Nat) (g : Nat → Bool), m ≤ x.ks.length ∧ i = .int .i64 m ∧ mt = .int .i64 (M + 0 - m) ∧ Hid (∀ c ∈ x.ks.take m, 0 ≤ c ∧ c < l.length ∧ paOf l c = k) ∧ Hid (∀ c : Nat, (x.ks.take m).count (c : Int) ≤ 1) ∧
          Hid (∀ c, c < l.length → (g c = true ↔ (∃ j, j < k ∧ (c : Int) ∈ ksOf l j) ∨ (c : Int) ∈ x.ks.take m)) ∧ wi.heap[w.heap.size]? = some (.cells (row l.length g) 4 (0, 0)) ∧ Below w.heap.size w wi ∧ w.heap.size < wi.heap.size) (fun _ i _ => x.ks.length - (intOf i).toNat)
        case atStart => exact ⟨0, f, Nat.zero_le _, rfl, by go_num, Lib.hid (by simp), Lib.hid (by simp), Lib.hid (fun c hc => by rw [hf.out c hc]; simp), hrW, hbW, by omega⟩
        case round =>
          obtain ⟨m, g, hm, rfl, rfl, hB, hC1, hg, hrow2, hbi, hgi⟩ := hrel
          by_cases hlm : m < x.ks.length
          · obtain ⟨kb, ko, kcap', kv, khb, kc0⟩ := (hks0.kept hbi).at hlm
            cases kv
            have hmem := List.getElem_mem hlm
            have hBT := Lib.hid (fun h => take_mem_snoc (P := fun c : Int => 0 ≤ c ∧ c < l.length ∧ paOf l c = k) hlm hB.out h)
            have hcs := Lib.hid (fun c : Int => count_snoc c hlm)
            have hms := Lib.hid (show ∀ c : Int, c ∈ x.ks.take (m + 1) ↔ c ∈ x.ks.take m ∨ c = x.ks[m] from fun c => by
              rw [List.take_add_one, List.mem_append, List.getElem?_eq_getElem hlm]; simp)
            generalize x.ks[m] = c at *
            have hm0 : (0 : Int) ≤ (m : Int) := by omega
            have hm1 : (m : Int) < (x.ks.length : Int) := by omega
            have hz3 : (x.ks.length : Int) ≤ 1000000000000000 := by omega
            by_cases e1 : c < 0
            · have hR := Lib.hid (hF.out (fun h => by have := (h.2.2 c hmem).1; omega))
              go_wp2_with fail
              go_ret
              exact ⟨ret_bool hR.out.symm, hbi⟩
            have e1' : decide (c < 0) = false := decide_eq_false e1
            by_cases e2 : (l.length : Int) ≤ c
            · have hR := Lib.hid (hF.out (fun h => by have := (h.2.2 c hmem).2.1; omega))
              go_wp2_with fail
              go_ret
              exact ⟨ret_bool hR.out.symm, hbi⟩
            have e2' : decide ((l.length : Int) ≤ c) = false := decide_eq_false e2
            obtain ⟨q, rfl⟩ := Int.eq_ofNat_of_zero_le (show 0 ≤ c by omega)
            have hq : q < l.length := by omega
            have u0 : wr.cell? ⟨w.heap.size, q, none⟩ = some (.bool (g q)) := by simp [World.cell?, hrow2, row_get g hq]
            have u1 : wr.frozen? ⟨w.heap.size, q, none⟩ = false := by simp [World.frozen?, hrow2]
            obtain ⟨b2, o2, cap2, va2, vk2, hv2, hb2, d0, d1, d2, d3, d4, _, _⟩ := (hU.kept hbi).at hq
            cases hv2
            have hpq := Lib.hid (paOf_at hq)
            generalize l[q] = y2 at *
            have hq0 : (0 : Int) ≤ (q : Int) := by omega
            have hq1 : (q : Int) < (l.length : Int) := by omega
            cases gq : g q
            · rw [gq] at u0
              by_cases e3 : y2.pa = k
              · have hBN := Lib.hid (hBT.out ⟨by omega, by omega, by rw [hpq.out, e3]⟩)
                have hnq : (q : Int) ∉ x.ks.take m := fun h => by
                  have := (hg.out q hq).2 (.inr h)
                  rw [gq] at this; exact Bool.false_ne_true this
                have hCN := Lib.hid (show ∀ c : Nat, (x.ks.take (m + 1)).count (c : Int) ≤ 1 from fun c => by
                  rw [hcs.out]
                  by_cases e : (q : Int) = c
                  · rw [if_pos e, ← e, List.count_eq_zero.2 hnq]; omega
                  · rw [if_neg e]; exact hC1.out c)
                have hgN := Lib.hid (show ∀ c, c < l.length → ((decide (c = q) || g c) = true ↔ (∃ j, j < k ∧ (c : Int) ∈ ksOf l j) ∨ (c : Int) ∈ x.ks.take (m + 1)) from fun c hc => by
                  rw [hms.out, Bool.or_eq_true, decide_eq_true_iff, hg.out c hc]
                  constructor
                  · rintro (h | h | h)
                    · exact .inr (.inr (by omega))
                    · exact .inl h
                    · exact .inr (.inl h)
                  · rintro (h | h | h)
                    · exact .inr (.inl h)
                    · exact .inr (.inr h)
                    · exact .inl (by omega))
                rw [e3] at d3
                clear e3 gq hnq
                go_wp2_with fail
                exact ⟨⟨m + 1, fun c => decide (c = q) || g c, by omega, by go_num, by go_num, hBN, hCN, hgN, (setCell_heap _ hrow2).trans (by rw [row_set]), hbi.setCell (p := ⟨w.heap.size, q, none⟩) (Nat.le_refl _) _, by simpa using hgi⟩, by simp [intOf]; omega⟩
              · have hR := Lib.hid (hF.out (fun h => by have := (h.2.2 _ hmem).2.2; rw [hpq.out] at this; exact e3 this))
                have e3' : (y2.pa == (k : Int)) = false := intNe e3
                have e3'' : (y2.pa != (k : Int)) = true := by rw [bne, e3']; rfl
                clear e3 gq
                go_wp2_with fail
                go_ret
                exact ⟨ret_bool hR.out.symm, hbi⟩
            · rw [gq] at u0
              have hR := Lib.hid (rightB_no (fun H : RightP l => by
                rcases (hg.out q hq).1 gq with ⟨j, hj, hm⟩ | hm
                · have hjl : j < l.length := by omega
                  rw [ksOf_at hjl] at hm
                  have e1 := (H.kids j _ (List.getElem?_eq_getElem hjl) _ hm).2.2
                  have e2 := (H.kids k x hxk _ hmem).2.2
                  omega
                · have h1 := (H.okP k x hxk).2.1 q
                  have h2 := hcs.out q
                  have h3 := List.count_pos_iff.2 hm
                  have h4 := (List.take_sublist (m + 1) x.ks).count_le (q : Int)
                  rw [if_pos rfl] at h2
                  omega))
              clear gq
              go_wp2_with fail
              go_ret
              exact ⟨ret_bool hR.out.symm, hbi⟩
          · obtain rfl : m = x.ks.length := by omega
            have hNN := Lib.hid (hN.out ⟨⟨h4, by omega, by omega⟩, fun c => by have := hC1.out c; rwa [List.take_of_length_le (Nat.le_refl _)] at this, by have := hB.out; rwa [List.take_of_length_le (Nat.le_refl _)] at this⟩)
            have hgN := Lib.hid (show ∀ c, c < l.length → (g c = true ↔ ∃ j, j < k + 1 ∧ (c : Int) ∈ ksOf l j) from fun c hc => by
              rw [hg.out c hc, List.take_of_length_le (Nat.le_refl _)]
              constructor
              · rintro (⟨j, hj, h⟩ | h)
                · exact ⟨j, by omega, h⟩
                · exact ⟨k, by omega, by rw [hksk.out]; exact h⟩
              · rintro ⟨j, hj, h⟩
                by_cases e : j = k
                · subst e; rw [hksk.out] at h; exact .inr h
                · exact .inl ⟨j, by omega, h⟩)
            go_wp2_with fail
            go_roundw
            case rel => exact ⟨k + 1, M + 0 - x.ks.length, g, by omega, by go_num, rfl, by omega, by omega, hME, hNN, hgN, hrow2, hbi, hgi⟩
            case measure => simp [intOf]; omega
    · obtain rfl : k = l.length := by omega
      have hUr := hU.kept hbel
      by_cases hM0 : M = 0
      case neg =>
        have hR := Lib.hid (rightB_no (fun H : RightP l => by have := H.sum; have := hM.out; omega))
        have hM0' : (M == 0) = false := intNe hM0
        have hM0'' : (M != 0) = true := by rw [bne, hM0']; rfl
        go_wp2_with fail
        go_ret
        exact ⟨ret_bool hR.out.symm, hbel⟩
      have hOnce := Lib.hid ((once_iff l (fun i x hx => (hA.out i (List.getElem?_eq_some_iff.1 hx).1 x hx).2.2) (fun i x hx => (hA.out i (List.getElem?_eq_some_iff.1 hx).1 x hx).1.2.2)).2 ⟨fun i x hx => (hA.out i (List.getElem?_eq_some_iff.1 hx).1 x hx).2.1, by have := hM.out; omega⟩)
      subst hM0
      go_wp2_with fail
      go_loop [105] (fun i => ∃ k : Nat, k ≤ l.length ∧ i = .int .i64 k ∧ Hid (∀ i : Nat, i < k → upN l (l.length + 1) i < 0)) (fun i => l.length - (intOf i).toNat)
      case atStart => exact ⟨0, Nat.zero_le _, rfl, Lib.hid (fun j hj => by omega)⟩
      case round =>
        obtain ⟨k, hk, rfl, hC⟩ := hrel
        by_cases hlt : k < l.length
        · have hk1 : (k : Int) < (l.length : Int) := by omega
          have hCN := Lib.hid (fun (h : upN l (l.length + 1) k < 0) => show ∀ i : Nat, i < k + 1 → upN l (l.length + 1) i < 0 from fun j hj => by
            by_cases e : j = k
            · rw [e]; exact h
            · exact hC.out j (by omega))
          have hCF := Lib.hid (fun (h : ¬ upN l (l.length + 1) k < 0) => rightB_no (fun H : RightP l => h (H.climb k hlt)))
          go_wp2_with fail
          go_loop [10, 11] (fun c n => ∃ (m : Nat) (z : Int), m ≤ l.length + 1 ∧ n = .int .i64 m ∧ c = .int .i64 z ∧ z < l.length ∧ Hid (upN l (l.length + 1 - m) z = upN l (l.length + 1) k)) (fun _ n => l.length + 1 - (intOf n).toNat)
          case atStart => exact ⟨0, k, Nat.zero_le _, rfl, rfl, hk1, Lib.hid rfl⟩
          case round =>
            obtain ⟨m, z, hm, rfl, rfl, hzl, hD⟩ := hrel
            by_cases f1 : z < 0
            · have hNN := Lib.hid (hCN.out (by rw [← hD.out, upN_neg l f1]; exact f1))
              have f1' : decide (0 ≤ z) = false := decide_eq_false (by omega)
              go_wp2_with fail
              exact ⟨⟨k + 1, by omega, by go_num, hNN⟩, by simp [intOf]; omega⟩
            have f1' : 0 ≤ z := by omega
            by_cases f2 : m ≤ l.length
            · obtain ⟨q, rfl⟩ := Int.eq_ofNat_of_zero_le f1'
              have hq : q < l.length := by omega
              have hDN := Lib.hid (show upN l (l.length + 1 - (m + 1)) l[q].pa = upN l (l.length + 1) k by
                rw [← hD.out, show l.length + 1 - m = (l.length + 1 - (m + 1)) + 1 by omega, upN_step l f1', paOf_at hq])
              obtain ⟨b2, o2, cap2, va2, vk2, hv2, hb2, d0, d1, d2, d3, d4, _, _⟩ := hUr.at hq
              cases hv2
              have hpal := (hA.out q hq _ (List.getElem?_eq_getElem hq)).1.2.2
              generalize l[q] = y2 at *
              have hq0 : (0 : Int) ≤ (q : Int) := by omega
              have hq1 : (q : Int) < (l.length : Int) := by omega
              have f2' : decide ((l.length : Int) < (m : Int)) = false := decide_eq_false (by omega)
              go_wp2_with fail
              exact ⟨⟨m + 1, y2.pa, by omega, by go_num, rfl, hpal, hDN⟩, by simp [intOf]; omega⟩
            · obtain rfl : m = l.length + 1 := by omega
              have hR := Lib.hid (hCF.out (by rw [← hD.out, Nat.sub_self, show upN l 0 z = z by unfold upN; rfl]; omega))
              have f2' : (l.length : Int) < ((l.length + 1 : Nat) : Int) := by omega
              go_wp2_with fail
              go_ret
              exact ⟨ret_bool hR.out.symm, hbel⟩
        · obtain rfl : k = l.length := by omega
          have hR := Lib.hid (rightB_yes (l := l) ⟨hpos, by omega, hTT.out, fun i x hx => (hA.out i (List.getElem?_eq_some_iff.1 hx).1 x hx).1, fun i x hx => (hA.out i (List.getElem?_eq_some_iff.1 hx).1 x hx).2.2, hOnce.out, hC.out⟩)
          go_wp2_with fail
          go_ret
          exact ⟨ret_bool hR.out.symm, hbel⟩
end Go.Proofs.Ytenicjebccdekaa
