import Derived.Test.YtfhgnnlhacjnkaaDoorPart9
import Derived.Test.YtfhgnnlhacjnkaaDoorPart4
import Derived.Test.YtfhgnnlhacjnkaaDoorPart3
import Derived.Lib.OthersKept
/-
  Places, by the document: ref09.join, same, and once for an atom that is no group: the walks.
-/
namespace Go.Proofs.YtfhgnnlhacjnkaaDoor
set_option linter.unusedVariables false
set_option linter.unusedSimpArgs false
open Go.RowKit PT

theorem getD_lt {l : List Bool} {j : Nat} (h : l.length ≤ j) : l.getD j false = false := by
  rw [List.getD_eq_getElem?_getD, List.getElem?_eq_none h]; rfl
theorem rep_getD (n j : Nat) : (List.replicate n false).getD j false = false := by
  rw [List.getD_eq_getElem?_getD, List.getElem?_replicate]
  split <;> rfl
set_option maxHeartbeats 2000000 in
set_option maxRecDepth 100000 in
theorem join_any (a b : List Bool) (va vb : Value) (hab : a.length = b.length) (hn : a.length ≤ 100000) (w : World) (hA : Bl a va w) (hB : Bl b vb w) :
    Calls Tryd.prog 27 #[va, vb] w fun e w' => ∃ vo, e = .returned vo ∧ Bl (orL a b) vo w' ∧ Below w.heap.size w w' := by
  obtain ⟨ba, oa, ca, rfl, hba, hca⟩ := hA.at
  obtain ⟨bb, ob, cb, rfl, hbb, hcb⟩ := hB.at
  have hmk := make_marks a.length hn
  have hn0 := Go.heap_alloc_new w (.cells (blA (List.replicate a.length false)) 4)
  have hb0 := (Below.refl w.heap.size w).alloc (Nat.le_refl _) (.cells (blA (List.replicate a.length false)) 4)
  have hs0 : (w.alloc (.cells (blA (List.replicate a.length false)) 4)).heap.size = w.heap.size + 1 := by simp
  have hxa := Lib.hid hca
  have hxb := Lib.hid hcb
  have hab' := Lib.hid hab
  clear hca hcb
  have hget := Lib.hid (fun i => orL_get hab i)
  have holen := Lib.hid (orL_len hab)
  rw [← hab]
  clear hab
  go_enter Tryd.func27, Tryd.ntmps27
  go_upto_region 2 with fail
  generalize World.alloc _ _ = W0 at hn0 hb0 hs0 ⊢
  clear hmk
  go_wp2_with fail
  go_loopw [6] (fun i wr => ∃ (k : Nat) (O : List Bool), k ≤ a.length ∧ i = .int .i64 k ∧ O.length = a.length ∧ wr.heap[w.heap.size]? = some (.cells (blA O) 4 (0, 0)) ∧ Below w.heap.size w wr ∧ Hid (∀ j, O.getD j false = if j < k then (orL a b).getD j false else false)) (fun i _ => a.length - (intOf i).toNat)
  case atStart => exact ⟨0, List.replicate a.length false, Nat.zero_le _, rfl, List.length_replicate, hn0, hb0, Lib.hid (fun j => by rw [if_neg (Nat.not_lt_zero _), rep_getD])⟩
  case round =>
    obtain ⟨k, O, hk, rfl, hO, hrow, hbel, hI⟩ := hrel
    have hsz := hbel.size
    have hOl := Lib.hid hO
    clear hO
    by_cases hlt : k < a.length
    · have k1 : (k : Int) < (a.length : Int) := by omega
      have c1 := cellK hbel hba (hxa.out k hlt)
      have c2 := cellK hbel hbb (hxb.out k (by rw [← hab'.out]; exact hlt))
      have hg := Lib.hid (hget.out k)
      obtain ⟨x, hx⟩ : ∃ x, a.getD k false = x := ⟨_, rfl⟩
      obtain ⟨y, hy⟩ : ∃ x, b.getD k false = x := ⟨_, rfl⟩
      have hg2 := Lib.hid (show (orL a b).getD k false = (x || y) by rw [hg.out, hx, hy])
      rw [hx] at c1
      rw [hy] at c2
      clear hx hy hg
      have hrow2 := hrow
      obtain ⟨T, hT⟩ : ∃ T, blA O = T := ⟨_, rfl⟩
      have hTs : k < T.size := by rw [← hT, blA_size, hOl.out]; exact hlt
      have hTe : ∀ u, (T.setIfInBounds k (.bool u)) = blA (O.set k u) := fun u => by rw [← hT]; exact blA_set O k u
      have hN := Lib.hid (fun (u : Bool) (hu : u = (x || y)) => show ∀ j, (O.set k u).getD j false = if j < k + 1 then (orL a b).getD j false else false from fun j => by
        rw [set_getD _ _ _ _ (by rw [hOl.out]; exact hlt)]
        by_cases e : j = k
        · subst e; rw [if_pos rfl, if_pos (by omega), hg2.out, hu]
        · rw [if_neg e, hI.out j]
          by_cases h2 : j < k
          · rw [if_pos h2, if_pos (by omega)]
          · rw [if_neg h2, if_neg (by omega)])
      rw [hT] at hrow
      have hTe2 := Lib.hid hTe
      clear hTe hT
      have hcur : wr.cell? ⟨w.heap.size, k, none⟩ = some T[k] := by simp [World.cell?, hrow, hTs]
      have hfr : wr.frozen? ⟨w.heap.size, k, none⟩ = false := by simp [World.frozen?, hrow]
      have hlen9 := Lib.hid (fun u => show (O.set k u).length = a.length by rw [List.length_set, hOl.out])
      cases x
      · go_wp2_with fail
        go_roundw
        case rel => exact ⟨k + 1, O.set k y, by omega, by go_num, hlen9.out y, (setCell_heap _ hrow).trans (by rw [hTe2.out y]), hbel.setCell (p := ⟨w.heap.size, k, none⟩) (Nat.le_refl _) _, Lib.hid (hN.out y rfl)⟩
        case measure => simp [intOf]; omega
      · go_wp2_with fail
        go_roundw
        case rel => exact ⟨k + 1, O.set k true, by omega, by go_num, hlen9.out true, (setCell_heap _ hrow).trans (by rw [hTe2.out true]), hbel.setCell (p := ⟨w.heap.size, k, none⟩) (Nat.le_refl _) _, Lib.hid (hN.out true rfl)⟩
        case measure => simp [intOf]; omega
    · obtain rfl : k = a.length := by omega
      have hE := Lib.hid (show O = orL a b from ext_getD (by rw [hOl.out, holen.out]) fun j => by
        rw [hI.out j]
        by_cases h : j < a.length
        · rw [if_pos h]
        · rw [if_neg h, getD_lt (by rw [holen.out]; omega)])
      go_wp2_with fail
      go_ret
      exact ⟨_, rfl, by rw [← hE.out]; exact Bl.of_own hrow hOl.out.symm, hbel⟩
set_option maxHeartbeats 1000000 in
set_option maxRecDepth 100000 in
theorem same_any (a b : List Bool) (va vb : Value) (hab : a.length = b.length) (hn : a.length ≤ 100000) (w : World) (hA : Bl a va w) (hB : Bl b vb w) :
    Calls Tryd.prog 36 #[va, vb] w fun e w' => e = .returned (.bool (decide (a = b))) ∧ Below w.heap.size w w' := by
  obtain ⟨ba, oa, ca, rfl, hba, hca⟩ := hA.at
  obtain ⟨bb, ob, cb, rfl, hbb, hcb⟩ := hB.at
  have hxa := Lib.hid hca
  have hxb := Lib.hid hcb
  have hab' := Lib.hid hab
  clear hca hcb
  rw [← hab]
  clear hab
  go_enter Tryd.func36, Tryd.ntmps36
  go_wp2_with fail
  go_loopw [5] (fun i wr => ∃ (k : Nat), k ≤ a.length ∧ i = .int .i64 k ∧ Below w.heap.size w wr ∧ Hid (∀ j, j < k → a.getD j false = b.getD j false)) (fun i _ => a.length - (intOf i).toNat)
  case atStart => exact ⟨0, Nat.zero_le _, rfl, Below.refl _ _, Lib.hid (fun j h => by omega)⟩
  case round =>
    obtain ⟨k, hk, rfl, hbel, hI⟩ := hrel
    have hsz := hbel.size
    by_cases hlt : k < a.length
    · have k1 : (k : Int) < (a.length : Int) := by omega
      have c1 := cellK hbel hba (hxa.out k hlt)
      have c2 := cellK hbel hbb (hxb.out k (by rw [← hab'.out]; exact hlt))
      by_cases he : a.getD k false = b.getD k false
      · have hN := Lib.hid (show ∀ j, j < k + 1 → a.getD j false = b.getD j false from fun j hj => by
          by_cases e : j = k
          · rw [e]; exact he
          · exact hI.out j (by omega))
        rw [← he] at c2
        clear he
        generalize a.getD k false = x at *
        cases x
        · go_wp2_with fail
          go_quiet (fail)
          go_wp2_with fail
          go_roundw
          case rel => exact ⟨k + 1, by omega, by go_num, hbel.trans ((below_draws _ _).mono hsz), hN⟩
          case measure => simp [intOf]; omega
        · go_wp2_with fail
          go_quiet (fail)
          go_wp2_with fail
          go_roundw
          case rel => exact ⟨k + 1, by omega, by go_num, hbel.trans ((below_draws _ _).mono hsz), hN⟩
          case measure => simp [intOf]; omega
      · have hR := Lib.hid (show decide (a = b) = false from decide_eq_false (fun h => he (by rw [h])))
        cases hx : a.getD k false <;> cases hy : b.getD k false
        · exact absurd (hx.trans hy.symm) he
        · rw [hx] at c1
          rw [hy] at c2
          clear he hx hy
          go_wp2_with fail
          go_quiet (fail)
          go_wp2_with fail
          go_ret
          exact ⟨ret_bool hR.out.symm, hbel.trans ((below_draws _ _).mono hsz)⟩
        · rw [hx] at c1
          rw [hy] at c2
          clear he hx hy
          go_wp2_with fail
          go_quiet (fail)
          go_wp2_with fail
          go_ret
          exact ⟨ret_bool hR.out.symm, hbel.trans ((below_draws _ _).mono hsz)⟩
        · exact absurd (hx.trans hy.symm) he
    · obtain rfl : k = a.length := by omega
      have hR := Lib.hid (show decide (a = b) = true from decide_eq_true (ext_getD hab'.out fun j => by
        by_cases h : j < a.length
        · exact hI.out j h
        · rw [getD_lt (by omega), getD_lt (by rw [← hab'.out]; omega)]))
      go_wp2_with fail
      go_ret
      exact ⟨ret_bool hR.out.symm, hbel⟩
set_option maxHeartbeats 2000000 in
set_option maxRecDepth 100000 in
theorem once_cls (l : List Nat) (v : Value) (hl : l.length ≤ 1000000) (k m : Nat) (c : Klass) (r : List Nat) (hkl : klassP (l.drop k) = some (c, r)) (hmr : m + r.length = l.length) (t : List Nat) (vt : Value) (a : List Bool) (va : Value) (hta : a.length = t.length + 1) (hn : a.length ≤ 100000) (w : World) (hS : Sg .i64 l v w) (hT : Sg .i64 t vt w) (hA : Bl a va w) :
    Calls Tryd.prog 35 #[v, .int .i64 k, .int .i64 m, vt, va] w fun e w' => ∃ vo, e = .returned vo ∧ Bl (clsL c.fits t a) vo w' ∧ Below w.heap.size w w' := by
  have hSS := Lib.hid hS
  have hTT := Lib.hid hT
  have hkl2 := Lib.hid hkl
  have hk : k < l.length := by
    rcases Nat.lt_or_ge k l.length with h | h
    · exact h
    · rw [List.drop_eq_nil_of_le h] at hkl; cases hkl
  have h40 : l[k] ≠ 40 := by
    intro h
    rw [drop_at hk, h, klassP_cons, if_neg (by decide), if_pos rfl] at hkl
    cases hkl
  have q40 : ((l[k] : Int) == 40) = false := natEq_no h40
  have q0 : (k : Int) < (l.length : Int) := by omega
  clear h40 hkl
  obtain ⟨b, o, cap, rfl, hb, hc⟩ := hS.at (by omega)
  have ck := hc k hk
  clear hc
  generalize l[k] = z at *
  obtain ⟨ta, tcap, rfl⟩ := hT.len
  obtain ⟨ba, oa, ca, rfl, hba, hca⟩ := hA.at
  have hxa := Lib.hid hca
  clear hca
  have hmk := make_marks a.length hn
  have hn0 := Go.heap_alloc_new w (.cells (blA (List.replicate a.length false)) 4)
  have hb0 := (Below.refl w.heap.size w).alloc (Nat.le_refl _) (.cells (blA (List.replicate a.length false)) 4)
  have hs0 : (w.alloc (.cells (blA (List.replicate a.length false)) 4)).heap.size = w.heap.size + 1 := by simp
  have hget := Lib.hid (fun i => clsL_get c.fits t a hta i)
  have holen := Lib.hid ((clsL_adds c.fits t).len a hta)
  have htl := Lib.hid hta
  clear hta
  go_enter Tryd.func35, Tryd.ntmps35
  go_upto_region 4 with fail
  generalize World.alloc _ _ = W0 at hn0 hb0 hs0 ⊢
  clear hmk
  go_wp2_with fail
  go_loopw [12] (fun i wr => ∃ (j : Nat) (O : List Bool), j ≤ t.length ∧ i = .int .i64 j ∧ O.length = a.length ∧ wr.heap[w.heap.size]? = some (.cells (blA O) 4 (0, 0)) ∧ Below w.heap.size w wr ∧ Hid (∀ i, O.getD i false = if i < j + 1 then (clsL c.fits t a).getD i false else false)) (fun i _ => t.length - (intOf i).toNat)
  case atStart => exact ⟨0, List.replicate a.length false, Nat.zero_le _, rfl, List.length_replicate, hn0, hb0, Lib.hid (fun j => by
    rw [rep_getD]
    by_cases h : j < 0 + 1
    · obtain rfl : j = 0 := by omega
      rw [if_pos h, hget.out 0]
    · rw [if_neg h])⟩
  case round =>
    obtain ⟨j, O, hj, rfl, hO, hrow, hbel, hI⟩ := hrel
    have hsz := hbel.size
    have hOl := Lib.hid hO
    clear hO
    by_cases hlt : j < t.length
    · have k1 : (j : Int) < (t.length : Int) := by omega
      have hja : j + 1 < a.length := by rw [htl.out]; omega
      have k2 : (j : Int) < (a.length : Int) := by omega
      have k3 : (j : Int) + 1 < (a.length : Int) := by omega
      have hSr := hSS.out.kept hbel
      have c1 := cellK hbel hba (hxa.out j (by omega))
      obtain ⟨tb, tof, tcap', tv, htb, htc⟩ := hTT.out.at (by omega)
      cases tv
      have c2 := cellK hbel htb (htc j hlt)
      have hgj := hget.out (j + 1)
      simp only [List.getElem?_eq_getElem hlt] at hgj
      obtain ⟨x, hx⟩ : ∃ x, t[j] = x := ⟨_, rfl⟩
      rw [hx] at c2 hgj
      clear hx htc
      obtain ⟨T, hTT2⟩ : ∃ T, blA O = T := ⟨_, rfl⟩
      have hTs : j + 1 < T.size := by rw [← hTT2, blA_size, hOl.out]; exact hja
      have hTe2 := Lib.hid (show ∀ u, (T.setIfInBounds (j + 1) (.bool u)) = blA (O.set (j + 1) u) from fun u => by rw [← hTT2]; exact blA_set O (j + 1) u)
      rw [hTT2] at hrow
      have hTT3 := Lib.hid hTT2
      clear hTT2
      cases hax : a.getD j false
      · have hg2 := Lib.hid (show (clsL c.fits t a).getD (j + 1) false = false by rw [hgj, hax]; rfl)
        rw [hax] at c1
        clear hgj hax
        go_wp2_with fail
        go_roundw
        case rel => exact ⟨j + 1, O, by omega, by go_num, hOl.out, by rw [hTT3.out]; exact hrow, hbel, Lib.hid (fun i => by
          rw [hI.out i]
          by_cases e : i = j + 1
          · rw [e, if_neg (by omega), if_pos (by omega), hg2.out]
          · by_cases h : i < j + 1
            · rw [if_pos h, if_pos (by omega)]
            · rw [if_neg h, if_neg (by omega)])⟩
        case measure => simp [intOf]; omega
      · have hg2 := Lib.hid (show (clsL c.fits t a).getD (j + 1) false = c.fits x by rw [hgj, hax, Bool.true_and])
        rw [hax] at c1
        clear hgj hax
        go_wp2_with fail
        refine (fitsOne_any l _ hl k m x c r hkl2.out hmr _ hSr).mono ?_
        rintro e w1 ⟨rfl, hb1⟩
        have hrow1 := blk_kept hb1 hrow
        have hbl := hbel.trans (hb1.mono hsz)
        have hcur : w1.cell? ⟨w.heap.size, j + 1, none⟩ = some T[j + 1] := by simp [World.cell?, hrow1, hTs]
        have hfr : w1.frozen? ⟨w.heap.size, j + 1, none⟩ = false := by simp [World.frozen?, hrow1]
        cases hfx : c.fits x
        · have hg3 := Lib.hid (hg2.out.trans hfx)
          clear hfx
          go_wp2_with fail
          go_roundw
          case rel => exact ⟨j + 1, O, by omega, by go_num, hOl.out, by rw [hTT3.out]; exact hrow1, hbl, Lib.hid (fun i => by
            rw [hI.out i]
            by_cases e : i = j + 1
            · rw [e, if_neg (by omega), if_pos (by omega), hg3.out]
            · by_cases h : i < j + 1
              · rw [if_pos h, if_pos (by omega)]
              · rw [if_neg h, if_neg (by omega)])⟩
          case measure => simp [intOf]; omega
        · have hg3 := Lib.hid (hg2.out.trans hfx)
          clear hfx
          go_wp2_with fail
          go_roundw
          case rel => exact ⟨j + 1, O.set (j + 1) true, by omega, by go_num, by rw [List.length_set]; exact hOl.out, (setCell_heap _ hrow1).trans (by rw [hTe2.out true]), hbl.setCell (p := ⟨w.heap.size, j + 1, none⟩) (Nat.le_refl _) _, Lib.hid (fun i => by
            rw [set_getD _ _ _ _ (by rw [hOl.out]; exact hja)]
            by_cases e : i = j + 1
            · rw [if_pos e, if_pos (by omega), e, hg3.out]
            · rw [if_neg e, hI.out i]
              by_cases h : i < j + 1
              · rw [if_pos h, if_pos (by omega)]
              · rw [if_neg h, if_neg (by omega)])⟩
          case measure => simp [intOf]; omega
    · obtain rfl : j = t.length := by omega
      have hE := Lib.hid (show O = clsL c.fits t a from ext_getD (by rw [hOl.out, holen.out, htl.out]) fun i => by
        rw [hI.out i]
        by_cases h : i < t.length + 1
        · rw [if_pos h]
        · rw [if_neg h, getD_lt (by rw [holen.out]; omega)])
      go_wp2_with fail
      go_ret
      exact ⟨_, rfl, by rw [← hE.out]; exact Bl.of_own hrow hOl.out.symm, hbel⟩
end Go.Proofs.YtfhgnnlhacjnkaaDoor

/-
  pattern.once: a class: the walk.
-/
namespace Go.Proofs.YtfhgnnlhacjnkaaDoor
set_option linter.unusedVariables false
set_option linter.unusedSimpArgs false
open Go.RowKit PT

theorem make_places (n : Nat) (hn : n ≤ 100000) (W : World) : (Instr.makeSlice 39 (.int .i64 (n : Int)) (.int .i64 (n : Int))).run Tryd.prog W = .ok (.slice (some ⟨W.heap.size, 0, none⟩) n n) (W.alloc (.cells (blA (List.replicate n false)) 4)) := by
  rw [← blA_made]
  exact run_make_row' (P := Tryd.prog) 39 4 (.bool false) 1 (by kernel_rfl) (by kernel_rfl) rfl .i64 .i64 n (by omega) (by omega) W
set_option maxHeartbeats 4000000 in
set_option maxRecDepth 100000 in
theorem once_cls9 (d : Den) (av : Value) (t : List Nat) (tv : Value) (a : List Bool) (pv : Value) (w : World) (hcv : ClsV Al tcls d av w) (hT : Txt9 t tv w) (hta : a.length = t.length + 1) (hA : Bl a pv w) : Calls Tryd.prog 18 #[av, tv, pv] w fun e w' => PlOwn (d t a) w e w' := by
  obtain ⟨c, cg, csv, rfl, rfl, _, hcg, cc0, cc1, hcrow⟩ := hcv
  have has1 := as_not
  have has2 := as_cls
  have hcrow := Lib.hid hcrow
  have hmaxt := Lib.hid hT.max
  have hn : a.length ≤ 100000 := by have := hT.len; omega
  have hl9 := hT.len
  have hTT := Lib.hid hT.lies
  obtain ⟨ta, tcap, rfl⟩ := hT.lies.len
  clear hT
  obtain ⟨ba, oa, ca, rfl, hba, hca⟩ := hA.at
  have hxa := Lib.hid hca
  clear hca hA
  have hmk := make_places a.length hn
  have hn0 := Go.heap_alloc_new w (.cells (blA (List.replicate a.length false)) 4)
  have hb0 := (Below.refl w.heap.size w).alloc (Nat.le_refl _) (.cells (blA (List.replicate a.length false)) 4)
  have hs0 : (w.alloc (.cells (blA (List.replicate a.length false)) 4)).heap.size = w.heap.size + 1 := alloc_size _ _
  have hget := Lib.hid (fun i => clsL_get c.fits t a hta i)
  have holen := Lib.hid ((clsL_adds c.fits t).len a hta)
  have hfinal := Lib.hid (show ∀ (O : List Bool) (wr : World), O = clsL c.fits t a → wr.heap[w.heap.size]? = some (.cells (blA O) 4 (0, 0)) → Below w.heap.size w wr → PlOwn (clsL c.fits t a) w (.returned (.slice (some ⟨w.heap.size, 0, none⟩) a.length a.length)) wr from fun O wr h1 h2 h3 => ⟨w.heap.size, by rw [holen.out, hta], Nat.le_refl _, by rw [← h1]; exact h2, h3⟩)
  have htl := Lib.hid hta
  clear hta
  go_enter Tryd.func18, Tryd.ntmps18
  go_upto_region 2 with fail
  generalize World.alloc _ _ = W0 at hn0 hb0 hs0 ⊢
  clear hmk
  go_wp2_with fail
  go_loopw [62] (fun i wr => ∃ (j : Nat) (O : List Bool), j ≤ t.length ∧ i = .int .i64 j ∧ O.length = a.length ∧ wr.heap[w.heap.size]? = some (.cells (blA O) 4 (0, 0)) ∧ Below w.heap.size w wr ∧ Hid (∀ i, O.getD i false = if i < j + 1 then (clsL c.fits t a).getD i false else false)) (fun i _ => t.length - (intOf i).toNat)
  case atStart => exact ⟨0, List.replicate a.length false, Nat.zero_le _, rfl, List.length_replicate, hn0, hb0, Lib.hid (fun j => by
    rw [rep_getD]
    by_cases h : j < 0 + 1
    · obtain rfl : j = 0 := by omega
      rw [if_pos h, hget.out 0]
    · rw [if_neg h])⟩
  case round =>
    obtain ⟨j, O, hj, rfl, hO, hrow, hbel, hI⟩ := hrel
    have hsz := hbel.size
    have hOl := Lib.hid hO
    clear hO
    by_cases hlt : j < t.length
    · have k1 : (j : Int) < (t.length : Int) := by omega
      have hja : j + 1 < a.length := by rw [htl.out]; omega
      have k2 : (j : Int) < (a.length : Int) := by omega
      have k3 : (j : Int) + 1 < (a.length : Int) := by omega
      have c1 := cellK hbel hba (hxa.out j (by omega))
      obtain ⟨tb, tof, tcap', tv, htb, htc⟩ := hTT.out.at (by omega)
      cases tv
      have c2 := cellK hbel htb (htc j hlt)
      have hgj := hget.out (j + 1)
      simp only [List.getElem?_eq_getElem hlt] at hgj
      obtain ⟨x, hx⟩ : ∃ x, t[j] = x := ⟨_, rfl⟩
      rw [hx] at c2 hgj
      have hxm := Lib.hid (show x ≤ 1114111 by rw [← hx]; exact hmaxt.out _ (List.getElem_mem hlt))
      clear hx htc
      obtain ⟨T, hTT2⟩ : ∃ T, blA O = T := ⟨_, rfl⟩
      have hTs : j + 1 < T.size := by rw [← hTT2, blA_size, hOl.out]; exact hja
      have hTe2 := Lib.hid (show ∀ u, (T.setIfInBounds (j + 1) (.bool u)) = blA (O.set (j + 1) u) from fun u => by rw [← hTT2]; exact blA_set O (j + 1) u)
      rw [hTT2] at hrow
      have hTT3 := Lib.hid hTT2
      clear hTT2
      cases hax : a.getD j false
      · have hg2 := Lib.hid (show (clsL c.fits t a).getD (j + 1) false = false by rw [hgj, hax]; rfl)
        rw [hax] at c1
        clear hgj hax
        go_wp2_with fail
        go_roundw
        case rel => exact ⟨j + 1, O, by omega, by go_num, hOl.out, by rw [hTT3.out]; exact hrow, hbel, Lib.hid (fun i => by
          rw [hI.out i]
          by_cases e : i = j + 1
          · rw [e, if_neg (by omega), if_pos (by omega), hg2.out]
          · by_cases h : i < j + 1
            · rw [if_pos h, if_pos (by omega)]
            · rw [if_neg h, if_neg (by omega)])⟩
        case measure => simp [intOf]; omega
      · have hg2 := Lib.hid (show (clsL c.fits t a).getD (j + 1) false = c.fits x by rw [hgj, hax, Bool.true_and])
        rw [hax] at c1
        clear hgj hax
        go_wp2_with fail
        refine (clsIn_any Al c.sp c.neg cg x csv _ hxm.out (by have := hbel.size; omega) (cellK hbel hcg cc0) (cellK hbel hcg cc1) (hcrow.out.kept (Hi.of_below hbel)) (fun _ _ => trivial)).mono ?_
        rintro e w1 ⟨rfl, hb1⟩
        have hrow1 := blk_kept hb1 hrow
        have hbl := hbel.trans (hb1.mono hsz)
        have hcur : w1.cell? ⟨w.heap.size, j + 1, none⟩ = some T[j + 1] := by simp [World.cell?, hrow1, hTs]
        have hfr : w1.frozen? ⟨w.heap.size, j + 1, none⟩ = false := by simp [World.frozen?, hrow1]
        cases hfx : c.fits x
        · have hg3 := Lib.hid (hg2.out.trans hfx)
          clear hfx
          go_wp2_with fail
          go_roundw
          case rel => exact ⟨j + 1, O, by omega, by go_num, hOl.out, by rw [hTT3.out]; exact hrow1, hbl, Lib.hid (fun i => by
            rw [hI.out i]
            by_cases e : i = j + 1
            · rw [e, if_neg (by omega), if_pos (by omega), hg3.out]
            · by_cases h : i < j + 1
              · rw [if_pos h, if_pos (by omega)]
              · rw [if_neg h, if_neg (by omega)])⟩
          case measure => simp [intOf]; omega
        · have hg3 := Lib.hid (hg2.out.trans hfx)
          clear hfx
          go_wp2_with fail
          go_roundw
          case rel => exact ⟨j + 1, O.set (j + 1) true, by omega, by go_num, by rw [List.length_set]; exact hOl.out, (setCell_heap _ hrow1).trans (by rw [hTe2.out true]), hbl.setCell (p := ⟨w.heap.size, j + 1, none⟩) (Nat.le_refl _) _, Lib.hid (fun i => by
            rw [set_getD _ _ _ _ (by rw [hOl.out]; exact hja)]
            by_cases e : i = j + 1
            · rw [if_pos e, if_pos (by omega), e, hg3.out]
            · rw [if_neg e, hI.out i]
              by_cases h : i < j + 1
              · rw [if_pos h, if_pos (by omega)]
              · rw [if_neg h, if_neg (by omega)])⟩
          case measure => simp [intOf]; omega
    · obtain rfl : j = t.length := by omega
      have hE := Lib.hid (show O = clsL c.fits t a from ext_getD (by rw [hOl.out, holen.out, htl.out]) fun i => by
        rw [hI.out i]
        by_cases h : i < t.length + 1
        · rw [if_pos h]
        · rw [if_neg h, getD_lt (by rw [holen.out]; omega)])
      go_wp2_with fail
      go_ret
      exact hfinal.out O wr hE.out hrow hbel
end Go.Proofs.YtfhgnnlhacjnkaaDoor

/-
  PLAIN LAWS ON PATTERNS (chapter 09): how places are joined, one by one, and a piece's rounds: no program in sight.
-/
namespace Go.Proofs.YtfhgnnlhacjnkaaDoor.PT
set_option linter.unusedVariables false
set_option linter.unusedSimpArgs false

/-- the first j marks are X's, the others are Y's -/
structure Half (j : Nat) (X Y O : List Bool) : Prop where
  len : O.length = Y.length
  get : ∀ i, O.getD i false = if i < j then X.getD i false else Y.getD i false
theorem Half.start (X Y : List Bool) : Half 0 X Y Y := ⟨rfl, fun i => by rw [if_neg (Nat.not_lt_zero _)]⟩
theorem Half.keep {j : Nat} {X Y O : List Bool} (h : Half j X Y O) (he : X.getD j false = Y.getD j false) : Half (j + 1) X Y O := ⟨h.len, fun i => by
  rw [h.get i]
  by_cases e : i = j
  · subst e; rw [if_neg (by omega), if_pos (by omega), he]
  · by_cases h2 : i < j
    · rw [if_pos h2, if_pos (by omega)]
    · rw [if_neg h2, if_neg (by omega)]⟩
theorem Half.set {j : Nat} {X Y O : List Bool} (h : Half j X Y O) (hj : j < Y.length) {u : Bool} (hu : X.getD j false = u) : Half (j + 1) X Y (O.set j u) := ⟨by rw [List.length_set]; exact h.len, fun i => by
  have hl : j < O.length := by rw [h.len]; exact hj
  by_cases e : i = j
  · subst e
    rw [if_pos (by omega), hu, List.getD_eq_getElem?_getD, List.getElem?_set_self hl]; rfl
  · rw [List.getD_eq_getElem?_getD, List.getElem?_set_ne (fun h => e h.symm), ← List.getD_eq_getElem?_getD, h.get i]
    by_cases h2 : i < j
    · rw [if_pos h2, if_pos (by omega)]
    · rw [if_neg h2, if_neg (by omega)]⟩
theorem getD_far {l : List Bool} {j : Nat} (h : l.length ≤ j) : l.getD j false = false := by
  rw [List.getD_eq_getElem?_getD, List.getElem?_eq_none h]; rfl
theorem Half.done {n : Nat} {X Y O : List Bool} (h : Half n X Y O) (hx : X.length = n) (hy : Y.length = n) : O = X := ext_getD (by rw [h.len, hx, hy]) fun i => by
  rw [h.get i]
  by_cases h2 : i < n
  · rw [if_pos h2]
  · rw [if_neg h2, getD_far (by omega), getD_far (by omega)]
theorem Half.old {j : Nat} {X Y O : List Bool} (h : Half j X Y O) : O.getD j false = Y.getD j false := by rw [h.get j, if_neg (by omega)]
/-- the rows so far -/
def gL (rows : List (List Pce)) (t : List Nat) (a : List Bool) (k : Nat) : List Bool := (rows.take k).foldl (fun o r => orL o (rowL r t a)) (noneL a)
theorem gL_zero (rows : List (List Pce)) (t : List Nat) (a : List Bool) : gL rows t a 0 = List.replicate a.length false := by
  show noneL a = _
  unfold noneL
  rw [List.map_const']
theorem gL_succ {rows : List (List Pce)} {k : Nat} (hk : k < rows.length) (t : List Nat) (a : List Bool) : gL rows t a (k + 1) = orL (gL rows t a k) (rowL rows[k] t a) := by
  unfold gL
  rw [List.take_succ_eq_append_getElem hk, List.foldl_append]
  rfl
theorem gL_all (rows : List (List Pce)) (t : List Nat) (a : List Bool) : gL rows t a rows.length = grpL rows t a := by
  unfold gL
  rw [List.take_of_length_le (Nat.le_refl _)]
  rfl
theorem gL_len {rows : List (List Pce)} {t : List Nat} {a : List Bool} (h : ∀ r ∈ rows, ∀ p ∈ r, AddsD p.d) (ha : a.length = t.length + 1) (k : Nat) : (gL rows t a k).length = t.length + 1 :=
  (grpL_adds (t := t) (rows := rows.take k) fun r hr p hp => h r (List.mem_of_mem_take hr) p hp t).len a ha
/-- the places that are new -/
def newL (a d : List Bool) : List Bool := List.zipWith (fun x y => y && !x) a d
theorem newL_len {a d : List Bool} (h : a.length = d.length) : (newL a d).length = a.length := by unfold newL; rw [List.length_zipWith]; omega
theorem newL_get {a d : List Bool} (h : a.length = d.length) (i : Nat) : (newL a d).getD i false = (d.getD i false && !a.getD i false) := by
  unfold newL
  simp only [List.getD_eq_getElem?_getD, List.getElem?_zipWith]
  by_cases hi : i < a.length
  · rw [List.getElem?_eq_getElem hi, List.getElem?_eq_getElem (by omega)]; rfl
  · rw [List.getElem?_eq_none (by omega), List.getElem?_eq_none (by omega)]; rfl
/-- a piece's rounds beyond those that must be: behind k of them -/
structure PInv (p : Pce) (t : List Nat) (a : List Bool) (k : Nat) (N : List Bool) : Prop where
  len : N.length = t.length + 1
  inv : againL (p.d t) (sofarL p t a k) = orL (sofarL p t a k) (p.d t N)
  left : k + leftL (sofarL p t a k) ≤ t.length + 1
  top : ∀ h, p.hi = some h → k ≤ h - p.lo
theorem PInv.start {p : Pce} {t : List Nat} {a : List Bool} (hd : AddsD p.d) (ha : a.length = t.length + 1) : PInv p t a 0 (lowL p t a) :=
  ⟨lowL_len hd ha, rfl, by have := leftL_le (sofarL p t a 0); rw [sofarL_len hd ha] at this; omega, fun h _ => Nat.zero_le _⟩
theorem PInv.sofar {p : Pce} {t : List Nat} {a : List Bool} {k : Nat} {N : List Bool} (h : PInv p t a k N) : sofarL p t a (k + 1) = orL (sofarL p t a k) (p.d t N) := by
  rw [sofarL_succ, h.inv]
theorem PInv.next {p : Pce} {t : List Nat} {a : List Bool} {k : Nat} {N : List Bool} (hd : AddsD p.d) (ha : a.length = t.length + 1) (h : PInv p t a k N) (hh : ∀ h, p.hi = some h → k + 1 ≤ h - p.lo) {i : Nat} (hi : (newL (sofarL p t a k) (p.d t N)).getD i false = true) : PInv p t a (k + 1) (newL (sofarL p t a k) (p.d t N)) := by
  have l1 := sofarL_len hd ha k
  have l2 := (hd t).len N h.len
  have e1 : (sofarL p t a k).length = (p.d t N).length := by omega
  have m := more_new (hd t) l1 h.len h.inv (new' := newL (sofarL p t a k) (p.d t N)) (by rw [newL_len e1]; exact l1) (fun i => newL_get e1 i)
  refine ⟨by rw [newL_len e1]; exact l1, by rw [sofarL_succ]; exact m.2, ?_, hh⟩
  have hne : againL (p.d t) (sofarL p t a k) ≠ sofarL p t a k := by
    intro e
    rw [h.inv] at e
    rw [newL_get e1] at hi
    have g := orL_get e1 i
    rw [e] at g
    simp only [Bool.and_eq_true, Bool.not_eq_true'] at hi
    rw [hi.1, hi.2] at g
    cases g
  have := sofar_up hd ha hne
  have := h.left
  omega
theorem PInv.stop {p : Pce} {t : List Nat} {a : List Bool} {k : Nat} {N : List Bool} (hd : AddsD p.d) (ha : a.length = t.length + 1) (h : PInv p t a k N) (hn : ∀ i, (newL (sofarL p t a k) (p.d t N)).getD i false = false) : pceL p t a = orL (sofarL p t a k) (p.d t N) := by
  have l1 := sofarL_len hd ha k
  have l2 := (hd t).len N h.len
  have e1 : (sofarL p t a k).length = (p.d t N).length := by omega
  have e : orL (sofarL p t a k) (p.d t N) = sofarL p t a k := ext_getD (by rw [orL_len e1]) fun i => by
    rw [orL_get e1]
    have := hn i
    rw [newL_get e1] at this
    revert this
    cases (sofarL p t a k).getD i false <;> cases (p.d t N).getD i false <;> decide
  rw [e]
  exact pce_stop hd ha h.top (by rw [h.inv, e])
theorem PInv.full {p : Pce} {t : List Nat} {a : List Bool} {k : Nat} {N : List Bool} {n : Nat} (h : PInv p t a k N) (hh : p.hi = some n) (hk : ¬ p.lo + k < n) : pceL p t a = sofarL p t a k := by
  have := h.top n hh
  rw [pce_end hh, show n - p.lo = k by omega]
/-- whether one of the first j is marked -/
def anyTo (l : List Bool) (j : Nat) : Bool := (l.take j).any fun x => x
theorem anyTo_zero (l : List Bool) : anyTo l 0 = false := rfl
theorem anyTo_succ {l : List Bool} {j : Nat} (hj : j < l.length) : anyTo l (j + 1) = (anyTo l j || l.getD j false) := by
  unfold anyTo
  rw [List.take_succ_eq_append_getElem hj, List.any_append, List.getD_eq_getElem?_getD, List.getElem?_eq_getElem hj]
  simp
theorem anyTo_yes {l : List Bool} {j : Nat} (h : anyTo l j = true) : ∃ i, l.getD i false = true := by
  unfold anyTo at h
  rw [List.any_eq_true] at h
  obtain ⟨x, hx, hx2⟩ := h
  obtain ⟨i, hi, rfl⟩ := List.getElem_of_mem (List.mem_of_mem_take hx)
  exact ⟨i, by rw [List.getD_eq_getElem?_getD, List.getElem?_eq_getElem hi]; exact hx2⟩
theorem anyTo_no {l : List Bool} {j : Nat} (hj : l.length ≤ j) (h : anyTo l j = false) (i : Nat) : l.getD i false = false := by
  unfold anyTo at h
  rw [List.take_of_length_le hj] at h
  by_cases hi : i < l.length
  · rw [List.getD_eq_getElem?_getD, List.getElem?_eq_getElem hi]
    have := List.any_eq_false.1 h l[i] (List.getElem_mem hi)
    simpa using this
  · exact getD_far (by omega)
/-- the rounds that must be -/
theorem lowL_step (p : Pce) (t : List Nat) (a : List Bool) (k : Nat) : iterL (p.d t) (k + 1) a = p.d t (iterL (p.d t) k a) := iterL_succ _ k a
end Go.Proofs.YtfhgnnlhacjnkaaDoor.PT

/-
  pattern.once: a group: the walk.
-/
namespace Go.Proofs.YtfhgnnlhacjnkaaDoor
set_option linter.unusedVariables false
set_option linter.unusedSimpArgs false
open Go.RowKit PT

theorem bl_sep {R a : List Bool} {pv v1 : Value} {g : Nat} {w w1 : World} {B : Nat} (h1 : Bl R v1 w1) (ho : Old9 B pv v1) (hA : Bl a pv w) (hg : w.heap.size ≤ g) (hB : g < B) : ∃ b o cap, v1 = .slice (some ⟨b, o, none⟩) R.length cap ∧ b ≠ g ∧ b < w1.heap.size ∧ ∀ j, j < R.length → w1.cell? ⟨b, o + j, none⟩ = some (.bool (R.getD j false)) := by
  obtain ⟨b, o, cap, rfl, hb, hc⟩ := h1.at
  refine ⟨b, o, cap, rfl, ?_, hb, hc⟩
  obtain ⟨ba, oa, ca, rfl, hba, _⟩ := hA
  rcases ho with h | ⟨b', o', n', c', h, hb'⟩
  · have h2 : b = ba := by injection h with h _; injection h with h; injection h
    omega
  · have h2 : b = b' := by injection h with h _; injection h with h; injection h
    omega
theorem Rd.cell {r : Nat} {w w' : World} (h : Rd r w w') {b o : Nat} (hb : b < w.heap.size) (hr : b ≠ r) {u : Value} (hc : w.cell? ⟨b, o, none⟩ = some u) : w'.cell? ⟨b, o, none⟩ = some u := by
  simp only [World.cell?] at hc ⊢
  rw [h.block b hb hr]
  exact hc
set_option maxHeartbeats 4000000 in
set_option maxRecDepth 100000 in
theorem once_grp9 (kk : Nat) (hal : AlongQ kk) (rs : List (List Pce)) (g : Nat) (rv : Value) (t : List Nat) (tv : Value) (a : List Bool) (pv : Value) (w : World) (hg : g < w.heap.size) (hgc : w.cell? ⟨g, 0, none⟩ = some rv) (hrows : RowsV Al (AtomV Al tcls tgrp kk) rs rv w) (hT : Txt9 t tv w) (hta : a.length = t.length + 1) (hA : Bl a pv w) :
    Calls Tryd.prog 18 #[.iface tgrp (.pointer (some ⟨g, 0, none⟩)), tv, pv] w fun e w' => PlOwn (grpL rs t a) w e w' := by
  have has := as_grp
  have hadd := Lib.hid (rowsV_all (P := AddsD) (atomV_adds kk) hrows)
  obtain ⟨ra, rcap, rfl⟩ : ∃ ra rcap, rv = .slice ra rs.length rcap := by
    obtain ⟨_, _, h2, _⟩ := hrows
    exact h2.form
  have hrmax : rs.length ≤ 9223372036854775807 := by
    obtain ⟨_, _, h2, _⟩ := hrows
    exact h2.max
  have hrows := Lib.hid hrows
  have hn : a.length ≤ 100000 := by have := hT.len; omega
  have hTT := Lib.hid hT
  clear hT
  have hAA := Lib.hid hA
  obtain ⟨ba, oa, ca, rfl, hba, _⟩ := hA
  have hmk := make_places a.length hn
  have hn0 := Go.heap_alloc_new w (.cells (blA (List.replicate a.length false)) 4)
  have hb0 := (Below.refl w.heap.size w).alloc (Nat.le_refl _) (.cells (blA (List.replicate a.length false)) 4)
  have hs0 : (w.alloc (.cells (blA (List.replicate a.length false)) 4)).heap.size = w.heap.size + 1 := alloc_size _ _
  have hglen := Lib.hid (fun k => gL_len (rows := rs) (t := t) (a := a) hadd.out hta k)
  have hgall := Lib.hid (gL_all rs t a)
  have hzero := Lib.hid (gL_zero rs t a)
  have hrl := Lib.hid (fun (k : Nat) (hk : k < rs.length) => (rowL_adds (ps := rs[k]) (t := t) (fun p hp => hadd.out rs[k] (List.getElem_mem hk) p hp t)).len a hta)
  have hfinal := Lib.hid (show ∀ (O : List Bool) (wr : World), O = grpL rs t a → wr.heap[w.heap.size]? = some (.cells (blA O) 4 (0, 0)) → Below w.heap.size w wr → PlOwn (grpL rs t a) w (.returned (.slice (some ⟨w.heap.size, 0, none⟩) a.length a.length)) wr from fun O wr h1 h2 h3 => ⟨w.heap.size, by rw [← hgall.out, hglen.out, hta], Nat.le_refl _, by rw [← h1]; exact h2, h3⟩)
  have htl := Lib.hid hta
  clear hta
  go_enter Tryd.func18, Tryd.ntmps18
  go_upto_region 2 with fail
  generalize World.alloc _ _ = W0 at hn0 hb0 hs0 ⊢
  clear hmk
  have hgc0 := cellK hb0 hg hgc
  go_wp2_with fail
  go_loopw [31] (fun i wr => ∃ (k : Nat), k ≤ rs.length ∧ i = .int .i64 k ∧ Hid (wr.heap[w.heap.size]? = some (.cells (blA (gL rs t a k)) 4 (0, 0))) ∧ Below w.heap.size w wr) (fun i _ => rs.length - (intOf i).toNat)
  case atStart => exact ⟨0, Nat.zero_le _, rfl, Lib.hid (by rw [hzero.out]; exact hn0), hb0⟩
  case round =>
    obtain ⟨k, hk, rfl, hrow, hbel⟩ := hrel
    have hsz := hbel.size
    by_cases hlt : k < rs.length
    · have k1 : (k : Int) < (rs.length : Int) := by omega
      have hrws := hrows.out.kept (AtomV.kept kk) (Hi.of_below hbel)
      obtain ⟨b, o, cap', u, hv, hb, hcell, hu⟩ := hrws.at hlt
      cases hv
      clear hrws
      obtain ⟨_, ua, ucap, rfl⟩ := rowV_max hu
      have hu := Lib.hid hu
      have hgn : w.heap.size < wr.heap.size := (Array.getElem?_eq_some_iff.1 hrow.out).1
      have hT2 := Lib.hid (hTT.out.kept hbel)
      have hA2 := Lib.hid (hAA.out.kept hbel)
      have hstep := Lib.hid (gL_succ hlt t a)
      have hRl := Lib.hid (hrl.out k hlt)
      have hGl := Lib.hid (hglen.out k)
      generalize rs[k] = ps at *
      go_wp2_with fail
      refine (hal ps _ t tv a _ _ hu.out hT2.out htl.out hA2.out).mono ?_
      rintro e w1 ⟨v1, rfl, hB1, ho1, hb1⟩
      obtain ⟨b1, o1, cap1, rfl, hbne, hb1s, hc1⟩ := bl_sep hB1 ho1 hAA.out (Nat.le_refl _) hgn
      have hc1 := Lib.hid hc1
      have hrow1 := Lib.hid (blk_kept hb1 hrow.out)
      have hbel1 := Lib.hid (hbel.trans (hb1.mono hsz))
      have hs1 := hb1.size
      clear hB1 ho1 hrow
      generalize rowL ps t a = R at *
      generalize hG : gL rs t a k = G at *
      generalize hX : gL rs t a (k + 1) = X at *
      clear hG
      have hX := Lib.hid hX
      have hget := Lib.hid (fun i => orL_get (a := G) (b := R) (by rw [hGl.out, hRl.out]) i)
      have hXl := Lib.hid (show X.length = R.length by rw [hstep.out, orL_len (by rw [hGl.out, hRl.out]), hGl.out, hRl.out])
      have hRa := Lib.hid (show R.length = a.length by rw [hRl.out, htl.out])
      have hR9 : R.length ≤ 100000 := by rw [hRa.out]; exact hn
      go_wp2_with fail
      go_loopw [40] (fun i wi => ∃ (j : Nat) (O : List Bool), j ≤ R.length ∧ i = .int .i64 j ∧ Hid (Half j X G O) ∧ Hid (wi.heap[w.heap.size]? = some (.cells (blA O) 4 (0, 0))) ∧ Rd w.heap.size w1 wi) (fun i _ => R.length - (intOf i).toNat)
      case atStart => exact ⟨0, G, Nat.zero_le _, rfl, Lib.hid (Half.start X G), hrow1, Rd.refl _ _⟩
      case round =>
        obtain ⟨j, O, hj, rfl, hH, hrw, hrd⟩ := hrel
        by_cases hlj : j < R.length
        · have m1 : (j : Int) < (R.length : Int) := by omega
          have m2 : (j : Int) < (a.length : Int) := by rw [← hRa.out]; omega
          have hOl := Lib.hid (show O.length = R.length by rw [hH.out.len, hGl.out, hRl.out])
          have e1 := hrd.cell hb1s hbne (hc1.out j hlj)
          have e0 := mark_cell hrw.out (show j < O.length by rw [hOl.out]; exact hlj)
          rw [hH.out.old] at e0
          have efr : wr.frozen? ⟨w.heap.size, j, none⟩ = false := by simp [World.frozen?, hrw.out]
          have hgj := Lib.hid (show X.getD j false = (G.getD j false || R.getD j false) by rw [hstep.out, hget.out])
          have hjG : j < G.length := by rw [hGl.out, ← hRl.out]; exact hlj
          generalize G.getD j false = x at *
          generalize R.getD j false = y at *
          have hrwK := Lib.hid (fun z => (setCell_heap (i := j) (.bool z) hrw.out).trans (by rw [blA_set O j z]))
          have hrdK := Lib.hid (fun z => hrd.trans (Rd.setCell w.heap.size j (.bool z) wr))
          have hHs := Lib.hid (fun z (hz : (x || y) = z) => hH.out.set hjG (hgj.out.trans hz))
          cases x
          · go_wp2_with fail
            exact ⟨⟨j + 1, O.set j y, by omega, by go_num, Lib.hid (hHs.out y rfl), Lib.hid (hrwK.out y), hrdK.out y⟩, by simp [intOf]; omega⟩
          · go_wp2_with fail
            exact ⟨⟨j + 1, O.set j true, by omega, by go_num, Lib.hid (hHs.out true rfl), Lib.hid (hrwK.out true), hrdK.out true⟩, by simp [intOf]; omega⟩
        · obtain rfl : j = R.length := by omega
          have hE := Lib.hid (hH.out.done hXl.out (by rw [hGl.out, hRl.out]))
          have hfin := Lib.hid (hbel1.out.trans (hrd.below (Nat.le_refl _) (by omega)))
          have hrw9 := Lib.hid (show wr.heap[w.heap.size]? = some (.cells (blA (gL rs t a (k + 1))) 4 (0, 0)) by rw [hX.out, ← hE.out]; exact hrw.out)
          clear hrw
          go_wp2_with fail
          exact ⟨⟨k + 1, by omega, by go_num, hrw9, hfin.out⟩, by simp [intOf]; omega⟩
    · obtain rfl : k = rs.length := by omega
      go_wp2_with fail
      go_ret
      exact hfinal.out _ wr hgall.out hrow.out hbel
end Go.Proofs.YtfhgnnlhacjnkaaDoor

/-
  pattern.piecewise: the walk.
-/
namespace Go.Proofs.YtfhgnnlhacjnkaaDoor
set_option linter.unusedVariables false
set_option linter.unusedSimpArgs false
open Go.RowKit PT

/-- block number g begins with these marks -/
def OwnB (g : Nat) (O : List Bool) (w : World) : Prop := ∃ cur : Array Value, w.heap[g]? = some (.cells cur 4 (0, 0)) ∧ cur.toList.take O.length = O.map Value.bool
theorem OwnB.of_own {g : Nat} {O : List Bool} {w : World} (h : w.heap[g]? = some (.cells (blA O) 4 (0, 0))) : OwnB g O w := ⟨_, h, by
  rw [List.take_of_length_le (by rw [Array.length_toList, blA_size]; exact Nat.le_refl _)]; rfl⟩
theorem OwnB.cell {g : Nat} {O : List Bool} {w : World} (h : OwnB g O w) {j : Nat} (hj : j < O.length) : w.cell? ⟨g, j, none⟩ = some (.bool (O.getD j false)) := by
  obtain ⟨cur, h1, h2⟩ := h
  simp only [World.cell?, h1]
  have h3 : (cur.toList.take O.length)[j]? = (O.map Value.bool)[j]? := by rw [h2]
  rw [List.getElem?_take_of_lt hj, List.getElem?_map, List.getElem?_eq_getElem hj] at h3
  rw [List.getD_eq_getElem?_getD, List.getElem?_eq_getElem hj]
  simpa using h3
theorem OwnB.frozen {g : Nat} {O : List Bool} {w : World} (h : OwnB g O w) (j : Nat) : w.frozen? ⟨g, j, none⟩ = false := by
  obtain ⟨cur, h1, _⟩ := h
  simp [World.frozen?, h1]
theorem OwnB.set {g : Nat} {O : List Bool} {w : World} (h : OwnB g O w) (j : Nat) (z : Bool) : OwnB g (O.set j z) (w.setCell ⟨g, j, none⟩ (.bool z)) := by
  obtain ⟨cur, h1, h2⟩ := h
  refine ⟨_, setCell_heap _ h1, ?_⟩
  rw [Array.toList_setIfInBounds, List.length_set, List.take_set, h2, List.map_set]
theorem OwnB.other {g r : Nat} {O : List Bool} {w : World} (h : OwnB g O w) (hr : g ≠ r) (j : Nat) (u : Value) : OwnB g O (w.setCell ⟨r, j, none⟩ u) := by
  obtain ⟨cur, h1, h2⟩ := h
  refine ⟨cur, ?_, h2⟩
  simp only [World.setCell, Array.getElem?_modify]
  rw [if_neg (fun e => hr e.symm)]
  exact h1
theorem OwnB.kept {g : Nat} {O : List Bool} {w w' : World} (h : OwnB g O w) (hb : Below w.heap.size w w') : OwnB g O w' := by
  obtain ⟨cur, h1, h2⟩ := h
  exact ⟨cur, blk_kept hb h1, h2⟩
theorem OwnB.lt {g : Nat} {O : List Bool} {w : World} (h : OwnB g O w) : g < w.heap.size := by
  obtain ⟨cur, h1, h2⟩ := h
  exact (Array.getElem?_eq_some_iff.1 h1).1
theorem OwnB.bl {g n cap : Nat} {O : List Bool} {w : World} (h : OwnB g O w) (hn : n = O.length) : Bl O (.slice (some ⟨g, 0, none⟩) n cap) w := by
  subst hn
  refine ⟨g, 0, cap, rfl, h.lt, fun j x hx => ?_⟩
  have hj := (List.getElem?_eq_some_iff.1 hx).1
  rw [Nat.zero_add, h.cell hj, List.getD_eq_getElem?_getD, hx]
  rfl
theorem OwnB.of_row {base n : Nat} {O : List Bool} {v : Value} {w : World} (h : w.ownsRow base 4 1 v n (O.map Value.bool)) (hO : 0 < O.length) : ∃ g cap, v = .slice (some ⟨g, 0, none⟩) O.length cap ∧ base ≤ g ∧ OwnB g O w := by
  obtain ⟨h1, ⟨rfl, h2⟩ | ⟨g, cap, cur, rfl, h2, h3, h4, h5, h6, h7⟩⟩ := h
  · rw [h2, List.length_map] at h1; omega
  · rw [List.length_map, Nat.mul_one] at h1
    subst h1
    exact ⟨g, cap, rfl, h2, cur, h3, by rw [Nat.mul_one] at h7; exact h7⟩
theorem info_bool9 : (Tryd.prog.info? 4).map (fun i => (i.zero, i.size, i.bytes)) = some (some (.bool false), 1, 1) := by kernel_rfl
theorem bool_one {O : List Bool} : ∀ u ∈ O.map Value.bool, u.oneCell' = true := by
  intro u hu
  obtain ⟨x, _, rfl⟩ := List.mem_map.1 hu
  rfl
theorem bl_src {O : List Bool} {b o cap : Nat} {w : World} (h : Bl O (.slice (some ⟨b, o, none⟩) O.length cap) w) : ∀ j u, (O.map Value.bool)[j]? = some u → w.cell? ((⟨b, o, none⟩ : Addr).add j) = some u := by
  intro j u hu
  obtain ⟨b', o', cap', hv, _, h4⟩ := h
  cases hv
  rw [List.getElem?_map] at hu
  obtain ⟨x, hx, rfl⟩ := Option.map_eq_some_iff.1 hu
  rw [addr_add]
  exact h4 j x hx
set_option maxHeartbeats 4000000 in
set_option maxRecDepth 100000 in
theorem piece_q (kk : Nat) (ho : OnceQ kk) : PieceQ kk := by
  intro p av t tv bs pv w hat hof hT hbl hB
  have hadd := Lib.hid (atomV_adds kk _ _ _ hat)
  obtain ⟨uty, ug, rfl⟩ := atomV_form hat
  have ht4 := hT.len
  have hT := Lib.hid hT
  have hat := Lib.hid hat
  have hB := Lib.hid hB
  have hlow := Lib.hid (fun q => ((hadd.out t).iter q).len bs hbl)
  have hstart := Lib.hid (PInv.start hadd.out hbl)
  have hnext := Lib.hid (fun k N => PInv.next (p := p) (t := t) (a := bs) (k := k) (N := N) hadd.out hbl)
  have hstop := Lib.hid (fun k N => PInv.stop (p := p) (t := t) (a := bs) (k := k) (N := N) hadd.out hbl)
  have hsl := Lib.hid (fun k => sofarL_len (p := p) (t := t) (a := bs) hadd.out hbl k)
  have hdl := Lib.hid (fun N (h : N.length = t.length + 1) => (hadd.out t).len N h)
  have hplen := Lib.hid ((pceL_adds (p := p) (t := t) (hadd.out t)).len bs hbl)
  have hlo := hof.1
  have hhi := Lib.hid hof.2
  clear hof
  have ho := Lib.hid ho
  have hbll := Lib.hid hbl
  clear hbl
  obtain ⟨H, hH⟩ : ∃ H, hiV p.hi = H := ⟨_, rfl⟩
  rw [hH]
  have hn0 := Go.heap_alloc_new w (.cells #[.iface uty (.pointer (some ⟨ug, 0, none⟩)), .int .i64 p.lo, .int .i64 H] 71)
  have hba := (Below.refl _ w).alloc (Nat.le_refl _) (.cells #[.iface uty (.pointer (some ⟨ug, 0, none⟩)), .int .i64 p.lo, .int .i64 H] 71)
  have hsz2 := alloc_size w (.cells #[.iface uty (.pointer (some ⟨ug, 0, none⟩)), .int .i64 p.lo, .int .i64 H] 71)
  have hat2 := Lib.hid (AtomV.kept kk _ _ _ _ hat.out (Hi.of_below hba))
  have hT2 := Lib.hid (hT.out.kept hba)
  have hB2 := Lib.hid (hB.out.kept hba)
  have hH := Lib.hid hH
  obtain ⟨L, hL⟩ : ∃ L, p.lo = L := ⟨_, rfl⟩
  have hLL := Lib.hid hL
  go_enter Tryd.func34, Tryd.ntmps34
  go_upto_region 1 with fail
  rw [hL] at hn0 hat2 hT2 hB2 hba hsz2 hlo ⊢
  clear hL
  generalize World.alloc _ _ = W2 at hat2 hT2 hB2 hn0 hsz2 hba ⊢
  have hbA := Lib.hid hba
  clear hba
  have q0 : W2.cell? ⟨w.heap.size, 0, none⟩ = some (.iface uty (.pointer (some ⟨ug, 0, none⟩))) := by simp [World.cell?, hn0]
  have q1 : W2.cell? ⟨w.heap.size, 1, none⟩ = some (.int .i64 L) := by simp [World.cell?, hn0]
  have q2 : W2.cell? ⟨w.heap.size, 2, none⟩ = some (.int .i64 H) := by simp [World.cell?, hn0]
  clear hn0
  go_wp2_with fail
  go_loopw [14, 2] (fun i v wr => ∃ (q : Nat), q ≤ L ∧ i = .int .i64 q ∧ Hid (Bl (iterL (p.d t) q bs) v wr) ∧ Below W2.heap.size W2 wr) (fun i _ _ => L - (intOf i).toNat)
  case atStart => exact ⟨0, Nat.zero_le _, rfl, Lib.hid hB2.out, Below.refl _ _⟩
  case round =>
    obtain ⟨q, hq, rfl, hBq, hbq⟩ := hrel
    have hszq := hbq.size
    have z0 := cellK hbq (by omega) q0
    have z1 := cellK hbq (by omega) q1
    have z2 := cellK hbq (by omega) q2
    have hatq := Lib.hid (AtomV.kept kk _ _ _ _ hat2.out (Hi.of_below hbq))
    have hTq := Lib.hid (hT2.out.kept hbq)
    by_cases hql : q < L
    · have p1 : (q : Int) < (L : Int) := by omega
      go_wp2_with fail
      refine (ho.out _ _ t tv _ _ _ hatq.out hTq.out (hlow.out q) hBq.out).mono ?_
      rintro e w3 ⟨g3, rfl, hg3, hrow3, hb3⟩
      have hB3 := Lib.hid (show Bl (iterL (p.d t) (q + 1) bs) (.slice (some ⟨g3, 0, none⟩) (p.d t (iterL (p.d t) q bs)).length (p.d t (iterL (p.d t) q bs)).length) w3 by rw [lowL_step]; exact Bl.of_own hrow3 rfl)
      clear hrow3
      go_wp2_with fail
      exact ⟨⟨q + 1, by omega, by go_num, hB3, hbq.trans (hb3.mono hszq)⟩, by simp [intOf]; omega⟩
    · have p1 : decide ((q : Int) < (L : Int)) = false := decide_eq_false (by omega)
      obtain rfl : q = L := by omega
      clear hql
      have hlq := hlow.out q
      have hBs := hBq.out
      have hBq9 := hBq
      clear hBq
      have hlowE := Lib.hid (show iterL (p.d t) q bs = lowL p t bs by unfold lowL; rw [hLL.out])
      rw [hlowE.out] at hBs hlq
      obtain ⟨b0, o0, c0, rfl, hb0, _⟩ := hBs.at
      have hBs := Lib.hid hBs
      have hlqh := Lib.hid hlq
      have hnl : (lowL p t bs).length ≤ 100000 := by omega
      have hnl0 : 0 < (lowL p t bs).length := by omega
      clear hlq
      have hE9 : ∀ W : World, (W.alloc (.cells #[] 4)).ownsRow W.heap.size 4 1 (.slice (some ⟨W.heap.size, 0, none⟩) 0 0) 0 [] := fun W => World.ownsRow_made W #[] 0 (Nat.le_refl _) (Nat.zero_le _) rfl
      have hbE := (Below.refl _ wr).alloc (Nat.le_refl _) (.cells #[] 4)
      have hBE := Lib.hid (bl_src (hBs.out.kept hbE))
      have hsE : wr.heap.size ≤ (wr.alloc (.cells #[] 4)).heap.size := by rw [alloc_size]; omega
      have hbEh := Lib.hid (hbq.trans (hbE.mono hszq))
      have hbEq := Lib.hid (fun w5 (h : Below wr.heap.size (wr.alloc (.cells #[] 4)) w5) => show Below W2.heap.size W2 w5 from hbEh.out.trans (h.mono hszq))
      have hs2h := Lib.hid hszq
      have hzz := Lib.hid (show W2.heap.size = w.heap.size + 1 from hsz2)
      have hq0 := Lib.hid q0
      have hq1 := Lib.hid q1
      have hq2 := Lib.hid q2
      clear z0 z1 z2 q0 q1 q2 hatq hTq hBq9 hbE
      go_wp2_with (at_builtin; refine wpList_append_any rfl _ _ 39 4 rfl Tryd.underlying39 info_bool9 rfl (by decide) (n := 0) (xs := []) (news := (lowL p t bs).map Value.bool) rfl rfl (fun e => by cases e) (by rw [List.length_map, Nat.mul_one]) (fun q hq => by cases hq; exact hBE.out) bool_one (hE9 wr) (by unfold maxLen; omega) (by omega) hsE ?_
                   intro v' w5 hrow5 hgr5
                   have hb5 := hbEq.out w5 (own_below (hE9 wr) hgr5 hsE)
                   rw [Nat.zero_add, List.nil_append] at hrow5
                   obtain ⟨ga, capA, rfl, hga, hOA⟩ := OwnB.of_row hrow5 hnl0
                   replace hOA := Lib.hid hOA
                   have y1 := cellK hb5 (by rw [hzz.out]; exact Nat.lt_succ_self _) hq1.out
                   have hBs5 := Lib.hid (hBs.out.kept ((Below.refl wr.heap.size wr).alloc (Nat.le_refl _) (.cells #[] 4) |>.trans (own_below (hE9 wr) hgr5 hsE)))
                   clear hrow5 hgr5 hE9 hbEq hsE)
      have hga2 := Lib.hid (show W2.heap.size ≤ ga from Nat.le_trans hs2h.out hga)
      clear y1 hBE hbEh hbq hszq hga
      go_loopw [8, 2] (fun i v wr => ∃ (k n : Nat) (N : List Bool), i = .int .i64 n ∧ Hid (n = q + k) ∧ Hid (Bl N v wr) ∧ Hid (OwnB ga (sofarL p t bs k) wr) ∧ Hid (PInv p t bs k N) ∧ Below W2.heap.size W2 wr) (fun i _ _ => q + t.length + 2 - (intOf i).toNat)
      case atStart => exact ⟨0, q, _, rfl, Lib.hid rfl, hBs5, hOA, hstart, hb5⟩
      case round =>
        obtain ⟨k, n, N, rfl, hn, hBN, hOk, hP, hbk⟩ := hrel
        have hszk := hbk.size
        have hW2 : w.heap.size < W2.heap.size := by rw [hzz.out]; exact Nat.lt_succ_self _
        have y0 := cellK hbk hW2 hq0.out
        have y1 := cellK hbk hW2 hq1.out
        have y2 := cellK hbk hW2 hq2.out
        have hatk := Lib.hid (AtomV.kept kk _ _ _ _ hat2.out (Hi.of_below hbk))
        have hTk := Lib.hid (hT2.out.kept hbk)
        have hnb : n ≤ 2100000 := by have h1 := hP.out.left; have h2 := hn.out; omega
        have hnm : n ≤ q + t.length + 1 := by have h1 := hP.out.left; have h2 := hn.out; omega
        have hNl := Lib.hid hP.out.len
        have hDl := Lib.hid (hdl.out N hP.out.len)
        obtain ⟨bN, oN, cN, rfl, _, _⟩ := hBN.out.at
        have hcond : Hid ((decide (H < 0) = true ∧ Hid (∀ h, p.hi = some h → k + 1 ≤ h - p.lo)) ∨ (decide (H < 0) = false ∧ (n : Int) < H ∧ Hid (∀ h, p.hi = some h → k + 1 ≤ h - p.lo)) ∨ (decide (H < 0) = false ∧ decide ((n : Int) < H) = false ∧ Hid (pceL p t bs = sofarL p t bs k))) := Lib.hid (by
          have h1 := hH.out
          have h2 := hn.out
          have h3 := hLL.out
          cases hh : p.hi with
          | none =>
            rw [hh] at h1
            left
            exact ⟨by rw [← h1]; rfl, Lib.hid (fun h e => by cases e)⟩
          | some h =>
            rw [hh] at h1
            have h4 : (h : Int) = H := h1
            have e0 : decide (H < 0) = false := decide_eq_false (by omega)
            by_cases hk : n < h
            · exact .inr (.inl ⟨e0, by omega, Lib.hid (fun h' e => by cases e; omega)⟩)
            · exact .inr (.inr ⟨e0, decide_eq_false (by omega), Lib.hid (hP.out.full hh (by omega))⟩))
        have hfinB := Lib.hid (fun (O : List Bool) (w9 : World) (h1 : O = pceL p t bs) (h2 : OwnB ga O w9) (h3 : Below W2.heap.size W2 w9) => show PlNew (pceL p t bs) w (.returned (.slice (some ⟨ga, 0, none⟩) (lowL p t bs).length capA)) w9 from ⟨_, rfl, by rw [← h1]; exact h2.bl (by rw [h1, hplen.out, hlqh.out]), ⟨ga, 0, _, _, rfl, by have := hga2.out; omega⟩, hbA.out.trans (h3.mono (by omega))⟩)
        rcases hcond.out with ⟨e1, hh⟩ | ⟨e1, e2, hh⟩ | ⟨e1, e2, hfin⟩
        rotate_left 2
        · clear hcond
          go_wp2_with fail
          go_ret
          exact hfinB.out _ _ hfin.out.symm hOk.out hbk
        all_goals
          clear hcond
          go_wp2_with fail
          refine (ho.out _ _ t tv N _ _ hatk.out hTk.out hNl.out hBN.out).mono ?_
          rintro e w3 ⟨g3, rfl, hg3, hrow3, hb3⟩
          have hOk3 := Lib.hid (hOk.out.kept hb3)
          have hO3 := Lib.hid (OwnB.of_own hrow3)
          have hb4 := hbk.trans (hb3.mono hszk)
          have hne := Lib.hid (show ga ≠ g3 by have := hOk.out.lt; omega)
          have hstop2 := Lib.hid (hstop.out k N hP.out)
          have hnext2 := Lib.hid (fun i hi => hnext.out k N hP.out hh.out (i := i) hi)
          have hsof := Lib.hid hP.out.sofar
          have hAl := Lib.hid (hsl.out k)
          have hnewl := Lib.hid (fun i => newL_get (a := sofarL p t bs k) (d := p.d t N) (by rw [hsl.out k, hDl.out]) i)
          have horl := Lib.hid (fun i => orL_get (a := sofarL p t bs k) (b := p.d t N) (by rw [hsl.out k, hDl.out]) i)
          have hNWl := Lib.hid (newL_len (a := sofarL p t bs k) (d := p.d t N) (by rw [hsl.out k, hDl.out]))
          have hXl := Lib.hid (orL_len (a := sofarL p t bs k) (b := p.d t N) (by rw [hsl.out k, hDl.out]))
          generalize hX : orL (sofarL p t bs k) (p.d t N) = X at *
          generalize hNW : newL (sofarL p t bs k) (p.d t N) = NW at *
          replace hX := Lib.hid hX
          replace hNW := Lib.hid hNW
          generalize p.d t N = D at *
          generalize sofarL p t bs k = A0 at *
          clear hOk hrow3 hBN y0 y1 y2 hatk hTk hP e1
          have hD9 : D.length ≤ 100000 := by rw [hDl.out]; omega
          have hDa : D.length = (lowL p t bs).length := by rw [hDl.out, hlqh.out]
          have hDa := Lib.hid hDa
          go_wp2_with fail
          go_loopw [45, 9] (fun i m wi => ∃ (j : Nat) (b : Bool) (A O : List Bool), j ≤ D.length ∧ i = .int .i64 j ∧ m = .bool b ∧ Hid (b = anyTo NW j) ∧ Hid (Half j X A0 A) ∧ Hid (OwnB ga A wi) ∧ Hid (Half j NW D O) ∧ Hid (OwnB g3 O wi) ∧ Below W2.heap.size W2 wi) (fun i _ _ => D.length - (intOf i).toNat)
          case atStart => exact ⟨0, false, A0, D, Nat.zero_le _, rfl, rfl, Lib.hid rfl, Lib.hid (Half.start _ _), hOk3, Lib.hid (Half.start _ _), hO3, hb4⟩
          case round =>
            obtain ⟨j, b, A, O, hj, rfl, rfl, hb, hHA, hOA2, hHO, hOO, hbj⟩ := hrel
            have hg3W : W2.heap.size ≤ g3 := by omega
            have hg3W := Lib.hid hg3W
            by_cases hlj : j < D.length
            · have m1 : (j : Int) < (D.length : Int) := by omega
              have m2 : (j : Int) < ((lowL p t bs).length : Int) := by rw [← hDa.out]; omega
              have hjA : j < A0.length := by rw [hAl.out, ← hDl.out]; exact hlj
              have eO := hOO.out.cell (show j < O.length by rw [hHO.out.len]; exact hlj)
              have eA := hOA2.out.cell (show j < A.length by rw [hHA.out.len]; exact hjA)
              rw [hHO.out.old] at eO
              rw [hHA.out.old] at eA
              have fO := hOO.out.frozen j
              have fA := hOA2.out.frozen j
              have hXj := Lib.hid (horl.out j)
              have hNj := Lib.hid (hnewl.out j)
              have hany := Lib.hid (anyTo_succ (l := NW) (j := j) (by rw [hNWl.out, hAl.out, ← hDl.out]; exact hlj))
              have kA := Lib.hid (fun (e : X.getD j false = A0.getD j false) => hHA.out.keep e)
              have sA := Lib.hid (fun u (e : X.getD j false = u) => hHA.out.set hjA e)
              have kO := Lib.hid (fun (e : NW.getD j false = D.getD j false) => hHO.out.keep e)
              have sO := Lib.hid (fun u (e : NW.getD j false = u) => hHO.out.set hlj e)
              generalize D.getD j false = y at *
              generalize A0.getD j false = x at *
              have hOA3 := Lib.hid (fun z => hOA2.out.set j z)
              have hOA4 := Lib.hid (fun z => hOA2.out.other hne.out j z)
              have hOO3 := Lib.hid (fun z => hOO.out.set j z)
              have hOO4 := Lib.hid (fun z => hOO.out.other (fun e => hne.out e.symm) j z)
              have hbS := Lib.hid (fun z => hbj.setCell (p := ⟨g3, j, none⟩) hg3W.out z)
              have hbS2 := Lib.hid (fun z => hbj.setCell (p := ⟨ga, j, none⟩) hga2.out z)
              cases y
              · have hb2 := Lib.hid (show b = anyTo NW (j + 1) by rw [hany.out, ← hb.out, hNj.out]; cases b <;> rfl)
                have kA2 := Lib.hid (kA.out (by rw [hXj.out]; cases x <;> rfl))
                have sO2 := Lib.hid (sO.out false (by rw [hNj.out]; rfl))
                go_wp2_with fail
                exact ⟨⟨j + 1, b, A, O.set j false, by omega, by go_num, rfl, hb2, kA2, Lib.hid (hOA4.out (.bool false)), sO2, Lib.hid (hOO3.out false), hbS.out (.bool false)⟩, by simp [intOf]; omega⟩
              · cases x
                · have hb2 := Lib.hid (show true = anyTo NW (j + 1) by rw [hany.out, hNj.out]; simp)
                  have sA2 := Lib.hid (sA.out true (by rw [hXj.out]; rfl))
                  have kO2 := Lib.hid (kO.out (by rw [hNj.out]; rfl))
                  go_wp2_with fail
                  exact ⟨⟨j + 1, true, A.set j true, O, by omega, by go_num, rfl, hb2, sA2, Lib.hid (hOA3.out true), kO2, Lib.hid (hOO4.out (.bool true)), hbS2.out (.bool true)⟩, by simp [intOf]; omega⟩
                · have hb2 := Lib.hid (show b = anyTo NW (j + 1) by rw [hany.out, ← hb.out, hNj.out]; cases b <;> rfl)
                  have kA2 := Lib.hid (kA.out (by rw [hXj.out]; rfl))
                  have sO2 := Lib.hid (sO.out false (by rw [hNj.out]; rfl))
                  go_wp2_with fail
                  exact ⟨⟨j + 1, b, A, O.set j false, by omega, by go_num, rfl, hb2, kA2, Lib.hid (hOA4.out (.bool false)), sO2, Lib.hid (hOO3.out false), hbS.out (.bool false)⟩, by simp [intOf]; omega⟩
            · obtain rfl : j = D.length := by omega
              have hEA := hHA.out.done (n := D.length) (by rw [hXl.out, hAl.out, hDl.out]) (by rw [hAl.out, hDl.out])
              have hEO := hHO.out.done (n := D.length) (by rw [hNWl.out, hAl.out, hDl.out]) rfl
              have hOA5 := Lib.hid hOA2.out
              have hOO5 := Lib.hid hOO.out
              rw [hEA] at hOA5
              rw [hEO] at hOO5
              clear hEA hEO hOA2 hOO hHA hHO
              cases b
              · have hz := Lib.hid (hfinB.out X wr (hstop2.out (fun i => anyTo_no (by rw [hNWl.out, hAl.out, hDl.out]; exact Nat.le_refl _) hb.out.symm i)).symm hOA5.out hbj)
                clear hfinB
                go_wp2_with fail
                go_ret
                exact hz.out
              · have hz : Hid (PInv p t bs (k + 1) NW) := Lib.hid (by
                  obtain ⟨i, hi⟩ := anyTo_yes hb.out.symm
                  exact hnext2.out i hi)
                have hO6 := Lib.hid (show OwnB ga (sofarL p t bs (k + 1)) wr by rw [hsof.out]; exact hOA5.out)
                have hB6 := Lib.hid (show Bl NW (.slice (some ⟨g3, 0, none⟩) (lowL p t bs).length (lowL p t bs).length) wr from hOO5.out.bl (by rw [hNWl.out, hAl.out, hlqh.out]))
                go_wp2_with fail
                exact ⟨⟨k + 1, n + 1, NW, by go_num, Lib.hid (by have := hn.out; omega), hB6, hO6, hz, hbj⟩, by simp [intOf]; omega⟩
end Go.Proofs.YtfhgnnlhacjnkaaDoor

/-
  pattern.Fits: the walk.
-/
namespace Go.Proofs.YtfhgnnlhacjnkaaDoor
set_option linter.unusedVariables false
set_option linter.unusedSimpArgs false
open Go.RowKit PT

theorem once_all : ∀ k, OnceQ k
  | 0 => fun d av t tv bs pv w hat hT hbl hB => once_cls9 d av t tv bs pv w hat hT hbl hB
  | k + 1 => fun d av t tv bs pv w hat hT hbl hB => by
    rcases hat with h | ⟨rs, g, rv, rfl, rfl, _, hg, hc, hrows⟩
    · exact once_cls9 d av t tv bs pv w h hT hbl hB
    · exact once_grp9 k (along_q k (piece_q k (once_all k))) rs g rv t tv bs pv w hg hc hrows hT hbl hB
theorem iterPos9 {w : World} {k : Nat} {s : ByteArray} {p : Nat} (h : w.heap[k]? = some (.stringIter s p)) : w.iterPos k = p := by simp [World.iterPos, h]
def rnV (x : Nat) : Value := .int .i32 (x : Int)
theorem info_rune9 : (Tryd.prog.info? 21).map (fun i => (i.zero, i.size, i.bytes)) = some (some (.int .i32 0), 1, 4) := by kernel_rfl
theorem ov_iterAt {base : Nat} {T : TypeId} {l : List Value} {v : Value} {w : World} (h : OV base T l v w) {k : Nat} (hk : k < base) (s : ByteArray) (pos : Nat) : OV base T l v (w.iterAt k s pos) := by
  obtain ⟨h1, ⟨rfl, hn⟩ | ⟨g, cap, cur, rfl, h2, h3, h4⟩⟩ := h
  · exact ⟨h1, .inl ⟨rfl, hn⟩⟩
  · exact ⟨h1, .inr ⟨g, cap, cur, rfl, h2, (Lib.iterAt_other w k g s pos (by omega)).trans h3, h4⟩⟩
theorem sigs_at (s : ByteArray) (k : Nat) (hk : k < s.size) : sigs (s.data.toList.drop k) = (Utf8.decode s k).1 :: sigs (s.data.toList.drop (k + (Utf8.decode s k).2)) := by
  rw [sigs_step _ (drop_ne s k hk), Lib.decodeL_drop, List.drop_drop]
theorem patP_adds9 {l : List Nat} {rs : List (List Pce)} (h : patP l = some rs) : ∀ ps ∈ rs, ∀ p ∈ ps, AddsD p.d := patP_adds h
theorem ret_fit9 {a b : Bool} {x y : Int} (h : a = b) (k : x = y) : Ending.returned (.tuple #[.bool a, .int .i64 x]) = .returned (.tuple #[.bool b, .int .i64 y]) := by rw [h, k]
theorem start_set9 (n : Nat) : (List.replicate (n + 1) false).set 0 true = startL n := rfl
set_option maxHeartbeats 4000000 in
set_option maxRecDepth 100000 in
theorem fits_any (p s : ByteArray) (hp : p.size ≤ maxLen) (hs : s.size ≤ maxLen) (w : World) (hU : U8 w) :
    Calls Tryd.prog 12 #[.string p, .string s] w fun e w' => e = .returned (.tuple #[.bool (fitsF p.data.toList s.data.toList).1, .int .i64 (fitsF p.data.toList s.data.toList).2]) ∧ Below w.heap.size w w' := by
  have hU := Lib.hid hU
  unfold maxLen at hs
  go_enter Tryd.func12, Tryd.ntmps12
  go_wp2_with fail
  refine (read_any p _ hp hU.out).mono ?_
  rintro e w1 ⟨a, n, c, ok, rfl, hb1, hok, hrs⟩
  cases ok with
  | false =>
    have hR := Lib.hid (show fitsF p.data.toList s.data.toList = (false, 1) by unfold fitsF; rw [if_pos hok.symm])
    clear hok hrs
    go_wp2_with fail
    go_ret2
    exact ⟨by rw [hR.out]; rfl, hb1⟩
  | true =>
    obtain ⟨rs, hpat, hrows⟩ := hrs rfl
    by_cases h4 : 4000 < s.size
    · have q1 : (4000 : Int) < (s.size : Int) := by omega
      have hR := Lib.hid (show fitsF p.data.toList s.data.toList = (false, 2) by unfold fitsF; rw [if_neg (by rw [← hok]; decide), if_pos (by rw [size_list]; exact h4)])
      clear hok hpat hrows
      go_wp2_with fail
      go_ret2
      exact ⟨by rw [hR.out]; rfl, hb1⟩
    have q1 : decide ((4000 : Int) < (s.size : Int)) = false := decide_eq_false (by omega)
    have hR := Lib.hid (show fitsF p.data.toList s.data.toList = (fitL rs (sigs s.data.toList), 0) by unfold fitsF; rw [if_neg (by rw [← hok]; decide), if_neg (by rw [size_list]; exact h4), hpat]; rfl)
    have hgl := Lib.hid (fun (t : List Nat) => show (grpL rs t (startL t.length)).length = t.length + 1 from (grpL_adds fun ps hps q hq => patP_adds9 hpat ps hps q hq t).len _ (startL_len _))
    have hrows := Lib.hid (rowsv_mono (S' := Al) hrows (fun _ _ _ => trivial))
    have hb1h := Lib.hid hb1
    have hbsz := hb1.size
    have hmaxs := Lib.hid (sigs_max _ s.data.toList (Nat.le_refl _))
    have hlens := Lib.hid (sigs_len _ s.data.toList (Nat.le_refl _))
    clear hok hpat hb1
    go_wp2_with fail
    go_loopw [8] (fun v wr => ∃ (pos : Nat) (acc : List Nat), pos ≤ s.size ∧ wr.heap[w1.heap.size]? = some (.stringIter s pos) ∧ OV (w1.heap.size + 1) 21 (acc.map rnV) v wr ∧ acc.length ≤ pos ∧ Below w1.heap.size w1 wr ∧ Hid (acc ++ sigs (s.data.toList.drop pos) = sigs s.data.toList)) (fun _ wr => s.size - wr.iterPos w1.heap.size)
    case atStart => exact ⟨0, [], Nat.zero_le _, World.iter_heap w1 s 0, OV.nil _ _ _, Nat.le_refl _, (Below.refl _ _).alloc (Nat.le_refl _) _, Lib.hid rfl⟩
    case round =>
      obtain ⟨pos, acc, hpos, hit, hov, hacc, hbw, hI⟩ := hrel
      have hpos0 := Lib.hid (iterPos9 hit)
      obtain ⟨va, vcap, hv, _⟩ := hov.form
      rw [List.length_map] at hv
      subst hv
      have hlen : (acc.map rnV).length < 17179869184 := by rw [List.length_map]; omega
      by_cases hlt : pos < s.size
      · have hnx : ∀ ty, (Instr.next (.pointer (some ⟨w1.heap.size, 0, none⟩)) true ty).run Tryd.prog wr = _ := fun ty => Lib.run_next_any_at wr w1.heap.size s pos ty hit hlt
        have hN := Lib.hid (show (acc ++ [(Utf8.decode s pos).1]) ++ sigs (s.data.toList.drop (pos + (Utf8.decode s pos).2)) = sigs s.data.toList by
          rw [← hI.out, sigs_at s pos hlt, List.append_assoc]; rfl)
        have hw1 : 1 ≤ (Utf8.decode s pos).2 := by rw [← Lib.decodeL_drop]; exact decodeL_pos _
        have hw2 : pos + (Utf8.decode s pos).2 ≤ s.size := by
          have := Lib.decodeL_le _ (drop_ne s pos hlt)
          rw [Lib.decodeL_drop, List.length_drop, size_list] at this
          omega
        have hit2 := Lib.iterAt_heap wr w1.heap.size s pos (pos + (Utf8.decode s pos).2) hit
        have hbw2 := Lib.below_iterAt hbw (k := w1.heap.size) (Nat.le_refl _) s (pos + (Utf8.decode s pos).2)
        have hov2 := ov_iterAt hov (Nat.lt_succ_self _) s (pos + (Utf8.decode s pos).2)
        clear hov hbw hI
        generalize Utf8.decode s pos = d at *
        obtain ⟨c0, wd⟩ := d
        obtain ⟨W1, hW1⟩ : ∃ W1, wr.iterAt w1.heap.size s (pos + wd) = W1 := ⟨_, rfl⟩
        simp only at hnx hN hw1 hw2 hit2 hbw2 hov2
        rw [hW1] at hnx hit2 hbw2 hov2
        have hltW := (Array.getElem?_eq_some_iff.1 hit2).1
        have hbase : w1.heap.size + 1 ≤ W1.heap.size := hltW
        clear hW1
        have hit2 := Lib.hid hit2
        go_wp2_with (at_builtin; refine wpList_append_cell rfl _ _ 37 21 rfl Tryd.underlying37 info_rune9 rfl (by decide) rfl rfl (.int .i32 (c0 : Int)) rfl hov2 hlen hbase ?_; intro v' w3 hov3 hb3)
        go_roundw
        case rel => exact ⟨pos + wd, acc ++ [c0], hw2, (hb3.block w1.heap.size (Nat.lt_succ_self _)).trans hit2.out, by simpa [rnV] using hov3, by rw [List.length_append]; simp; omega, hbw2.trans (hb3.mono (by omega)), hN⟩
        case measure => rw [hpos0.out, iterPos9 ((hb3.block w1.heap.size (Nat.lt_succ_self _)).trans hit2.out)]; omega
      · have hnx : ∀ ty, (Instr.next (.pointer (some ⟨w1.heap.size, 0, none⟩)) true ty).run Tryd.prog wr = _ := fun ty => Lib.run_next_end_at wr w1.heap.size s pos ty hit hlt
        obtain rfl : pos = s.size := by omega
        have hE : acc = sigs s.data.toList := by
          have := hI.out
          rwa [List.drop_eq_nil_of_le (by simp), sigs_nil, List.append_nil] at this
        have hT0 : Txt9 acc (.slice va acc.length vcap) wr := ⟨by omega, by rw [hE]; exact hmaxs.out, Sg.of_ov hov⟩
        rw [← hE] at hR
        have ht4 := hT0.len
        have hT := Lib.hid hT0
        clear hT0 hE hI hov hit hpos0 hmaxs hlens hacc hlen
        have hrw := Lib.hid (rowsv_kept hrows.out (Hi.of_below hbw))
        have hbl2 := hb1h.out.trans (hbw.mono hbsz)
        have hmk := make_places (acc.length + 1) (by omega)
        have hn0 := Go.heap_alloc_new wr (.cells (blA (List.replicate (acc.length + 1) false)) 4)
        have hb0 := (Below.refl wr.heap.size wr).alloc (Nat.le_refl _) (.cells (blA (List.replicate (acc.length + 1) false)) 4)
        have hs0 : (wr.alloc (.cells (blA (List.replicate (acc.length + 1) false)) 4)).heap.size = wr.heap.size + 1 := alloc_size _ _
        have hmk2 : ∀ W : World, (Instr.makeSlice 39 (.int .i64 ((acc.length : Int) + 1)) (.int .i64 ((acc.length : Int) + 1))).run Tryd.prog W = .ok (.slice (some ⟨W.heap.size, 0, none⟩) (acc.length + 1) (acc.length + 1)) (W.alloc (.cells (blA (List.replicate (acc.length + 1) false)) 4)) := fun W => hmk W
        go_upto_region 12 with fail
        generalize World.alloc _ _ = W3 at hn0 hb0 hs0 ⊢
        clear hmk hmk2
        have hw2 := Lib.hid hbl2.size
        obtain ⟨T, hTT⟩ : ∃ T, blA (List.replicate (acc.length + 1) false) = T := ⟨_, rfl⟩
        have hTs : 0 < T.size := by rw [← hTT, blA_size, List.length_replicate]; omega
        have hTe := Lib.hid (show T.setIfInBounds 0 (.bool true) = blA (startL acc.length) by rw [← hTT, blA_set, start_set9])
        rw [hTT] at hn0
        clear hTT
        have hcur : W3.cell? ⟨wr.heap.size, 0, none⟩ = some T[0] := by simp [World.cell?, hn0, hTs]
        have hfr : W3.frozen? ⟨wr.heap.size, 0, none⟩ = false := by simp [World.frozen?, hn0]
        go_upto_region 13 with fail
        have hrow := (setCell_heap (.bool true) hn0).trans (by rw [hTe.out])
        have hbs := hb0.setCell (p := ⟨wr.heap.size, 0, none⟩) (Nat.le_refl _) (.bool true)
        have hbl4 := Lib.hid (hbl2.trans (hbs.mono hw2.out))
        have hT4 := Lib.hid (hT.out.kept hbs)
        have hrw4 := Lib.hid (rowsv_kept hrw.out (Hi.of_below hbs))
        have hB4 := Lib.hid (Bl.of_own (n := acc.length + 1) (cap := acc.length + 1) hrow (startL_len acc.length).symm)
        generalize World.setCell _ _ _ = W4 at hrow hbs hbl4 hT4 hrw4 hB4 ⊢
        clear hcur hfr hn0 hb0 hs0 hrow hbs hTs
        have hba := (Below.refl W4.heap.size W4).alloc (Nat.le_refl _) (.cells #[.slice a n c] 43)
        have hn5 := Go.heap_alloc_new W4 (.cells #[.slice a n c] 43)
        have hs5 := alloc_size W4 (.cells #[.slice a n c] 43)
        have hat := Lib.hid (show AtomV Al tcls tgrp 9 (grpL rs) (.iface tgrp (.pointer (some ⟨W4.heap.size, 0, none⟩))) (W4.alloc (.cells #[.slice a n c] 43)) from .inr ⟨rs, W4.heap.size, .slice a n c, rfl, rfl, trivial, by rw [hs5]; omega, by unfold World.cell?; simp only [hn5]; rfl, rowsv_kept hrw4.out (Hi.of_below hba)⟩)
        have hT5 := Lib.hid (hT4.out.kept hba)
        have hB5 := Lib.hid (hB4.out.kept hba)
        have hbl5 := Lib.hid (hbl4.out.alloc hbl4.out.size (.cells #[.slice a n c] 43))
        have hsl := Lib.hid (startL_len acc.length)
        clear hn5 hba
        go_wp2_with fail
        refine (once_all 9 (grpL rs) _ acc _ (startL acc.length) _ _ hat.out hT5.out hsl.out hB5.out).mono ?_
        rintro e w6 ⟨gb, rfl, hgb, hrow6, hb6⟩
        have hgl6 := Lib.hid (hgl.out acc)
        have cl := mark_cell hrow6 (show acc.length < _ by rw [hgl6.out]; omega)
        have hbl6 := hbl5.out.trans (hb6.mono hbl5.out.size)
        clear hrow6
        rw [hgl6.out]
        have q9 : (acc.length : Int) < ((acc.length + 1 : Nat) : Int) := by omega
        have q8 : (acc.length : Int) < (acc.length : Int) + 1 := by omega
        go_wp2_with fail
        go_ret2
        exact ⟨by rw [hR.out]; rfl, hbl6⟩
end Go.Proofs.YtfhgnnlhacjnkaaDoor
