/-
  A FORM's ELEMENTS AND DEFAULT BUTTON by the document: ref16.Elements, ref16.Default: the walks.
-/
import Derived.Test.YtenicjebccdekaaOwnIn
namespace Go.Proofs.Ytenicjebccdekaa
set_option linter.unusedVariables false
set_option linter.unusedSimpArgs false
open Go.RowKit PT

theorem inF_no {l : List Nd} {id : Int} (h : isF l id 30 = false) : inF l id = [] := if_neg (fun e => by rw [(isF_30 (by omega)).2 e] at h; cases h)
set_option maxHeartbeats 4000000 in
set_option maxRecDepth 100000 in
theorem refElements_any (l : List Nd) (v : Value) (id : Int) (hl : l.length ≤ 1000000000000000000) (hz : ∀ x ∈ l, Fits x) (w : World) (hU : Nodes l v w) :
    Calls Try.prog 20 #[v, .int .i64 id] w fun e w' => ∃ vo, e = .returned vo ∧ OV w.heap.size 3 (ints (elemsF l id)) vo w' ∧ Below w.heap.size w w' := by
  obtain ⟨a, cap, rfl⟩ := hU.len
  cases hh : isF l id 30
  · have HH := Lib.hid hh
    have hR := Lib.hid (show elemsF l id = [] by unfold elemsF; rw [inF_no hh]; rfl)
    clear hh
    go_enter Try.func20, Try.ntmps20
    go_wp2_with fail
    refine (refIs15_any l _ id 30 hl hz _ hU).mono ?_
    rintro e w' ⟨rfl, hb⟩
    rw [HH.out]
    go_wp2_with fail
    go_ret
    exact ⟨_, rfl, by rw [hR.out]; exact OV.nil _ _ _, hb⟩
  have HH := Lib.hid hh
  have hc := (isF_30 (by omega)).1 hh
  have hRP := (rightB_iff l).1 hc.1
  obtain ⟨i0, i1⟩ := kindF_pos (l := l) (k := id) (by omega)
  obtain ⟨t0, t1⟩ := topF_range hRP i0 i1
  have hI := show inF l id = ord l (topF l id) from if_pos hc
  have hlen := inF_len (l := l) id
  have hmem := Lib.hid (fun k (h : k ∈ inF l id) => inF_mem h)
  have hRight := Lib.hid hc.1
  have hR := Lib.hid (show elemsF l id = (inF l id).filter (elP l id) from rfl)
  have HP := Lib.hid (fun k => show elP l id k = (listB (kindF l k) && decide (formF l k = id)) from rfl)
  obtain ⟨K, rfl⟩ := Int.eq_ofNat_of_zero_le i0
  have hkl : K < l.length := by omega
  clear hh hc
  obtain ⟨T, hT⟩ := Int.eq_ofNat_of_zero_le t0
  have hTl : T < l.length := by omega
  rw [hT] at hI
  have HT := Lib.hid hT
  have hmax := hRP.max
  clear hT t0 t1
  go_enter Try.func20, Try.ntmps20
  go_wp2_with fail
  refine (refIs15_any l _ _ 30 hl hz _ hU).mono ?_
  rintro e w1 ⟨rfl, hb1⟩
  rw [HH.out]
  go_wp2_with fail
  refine (refTop_any l _ K hkl hRP _ (hU.kept hb1)).mono ?_
  rintro e w2 ⟨rfl, rfl⟩
  rw [HT.out]
  go_wp2_with fail
  refine (refOrder_any l hRP T hTl _ _ hz (hU.kept hb1)).mono ?_
  rw [← hI]
  clear hI
  generalize inF l (K : Nat) = I at hlen hmem hR ⊢
  rintro e w3 ⟨vo, rfl, hov, hb3⟩
  obtain ⟨a1, c1, rfl, _⟩ := hov.form
  rw [ints_len] at hov ⊢
  have hb13 := bs hb1 hb3
  have hg3 := hb13.size
  have hsi : I.length ≤ 1000000000000000000 := by omega
  go_wp2_with fail
  go_loopw [5, 7] (fun vo i wr => ∃ k : Nat, k ≤ I.length ∧ i = .int .i64 k ∧ OV w3.heap.size 3 (ints ((I.take k).filter (elP l (K : Nat)))) vo wr ∧ Below w3.heap.size w3 wr) (fun _ i _ => I.length - (intOf i).toNat)
  case atStart => exact ⟨0, Nat.zero_le _, rfl, OV.nil _ _ _, Below.refl _ _⟩
  case round =>
    obtain ⟨k, hk, rfl, ho, hbel⟩ := hrel
    have hb0r := hb13.trans (hbel.mono hg3)
    have hsz := hbel.size
    by_cases hlt : k < I.length
    · obtain ⟨_, id0, id1, c0, c1', _⟩ := hmem.out I[k] (List.getElem_mem hlt)
      have hov' := hov.kept hbel
      obtain ⟨g, gc, hv, _, hcell⟩ := hov'.at (by intro e; have := congrArg List.length e; rw [ints_len, List.length_nil] at this; omega)
      rw [ints_len] at hv
      cases hv
      have hgb : g < wr.heap.size := by
        have := (World.ownsRow.lt hov' g rfl).2
        omega
      have hcc := hcell k (.int .i64 I[k]) (by rw [ints, List.getElem?_map, List.getElem?_eq_getElem hlt]; rfl)
      have hfs := Lib.hid (filter_snoc (p := elP l (K : Nat)) hlt)
      have hfl : ((I.take k).filter (elP l (K : Nat))).length ≤ k := Nat.le_trans (List.length_filter_le _ _) (List.length_take_le _ _)
      have hk0 : (0 : Int) ≤ (k : Int) := by omega
      have hk1 : (k : Int) < (I.length : Int) := by omega
      have hp := HP.out I[k]
      generalize I[k] = c at *
      obtain ⟨q, rfl⟩ := Int.eq_ofNat_of_zero_le c0
      have hq : q < l.length := by omega
      rw [kindF_in c0 c1'] at hp
      obtain ⟨r0, r1⟩ := kindF_range l (q : Nat)
      rw [kindF_in c0 c1'] at r0 r1
      cases hL : listB (kOf l (q : Nat))
      · have HL := Lib.hid hL
        have hE := Lib.hid (show (if elP l (K : Nat) (q : Nat) = true then [(q : Int)] else []) = ([] : List Int) by rw [hp, hL]; rfl)
        clear hp hL
        go_wp2_with fail
        refine (ref16Kind_any l _ q hq hRP _ (hU.kept hb0r)).mono ?_
        rintro e w4 ⟨rfl, hb4⟩
        go_wp2_with fail
        refine (refIs1_any _ r0 r1 _).mono ?_
        rintro e w5 ⟨rfl, rfl⟩
        rw [HL.out]
        go_wp2_with fail
        go_roundw
        case rel => exact ⟨k + 1, by omega, by go_num, by rw [hfs.out, hE.out, List.append_nil]; exact ho.kept hb4, bs hbel hb4⟩
        case measure => simp [intOf]; omega
      · have HL := Lib.hid hL
        by_cases hf : formF l (q : Nat) = K
        · have HF := Lib.hid ((formF_Form hRight.out (q : Nat)).trans hf)
          have hE := Lib.hid (show (if elP l (K : Nat) (q : Nat) = true then [(q : Int)] else []) = [(q : Int)] by rw [hp, hL, decide_eq_true hf]; rfl)
          clear hp hL hf
          go_wp2_with fail
          refine (ref16Kind_any l _ q hq hRP _ (hU.kept hb0r)).mono ?_
          rintro e w4 ⟨rfl, hb4⟩
          have hb04 := bs hb0r hb4
          have hcc4 := cellK hb4 hgb hcc
          go_wp2_with fail
          refine (refIs1_any _ r0 r1 _).mono ?_
          rintro e w5 ⟨rfl, rfl⟩
          rw [HL.out]
          go_wp2_with fail
          refine (refForm_any l _ (q : Nat) hl hz _ (hU.kept hb04)).mono ?_
          rintro e w6 ⟨rfl, hb6⟩
          rw [HF.out]
          have hb06 := bs hb04 hb6
          have hcc6 := cellK hb6 (by have := hb4.size; omega) hcc4
          have hb36 := bs (bs hbel hb4) hb6
          have ho6 := (ho.kept hb4).kept hb6
          have hg6 := hb36.size
          go_wp2_with (at_builtin; refine wpList_append_cell rfl _ _ 28 3 rfl Try.underlying28 info_i64 rfl (by decide) rfl rfl (.int .i64 (q : Nat)) rfl ho6 (by rw [ints_len]; omega) hg6 ?_; intro v' w7 hov7 hb7)
          go_roundw
          case rel => exact ⟨k + 1, by omega, by go_num, by rw [hfs.out, hE.out, ints_snoc]; exact hov7, hb36.trans hb7⟩
          case measure => simp [intOf]; omega
        · have hE := Lib.hid (show (if elP l (K : Nat) (q : Nat) = true then [(q : Int)] else []) = ([] : List Int) by rw [hp, hL, decide_eq_false hf]; rfl)
          clear hp hL
          have q1 := intNe hf
          rw [← formF_Form hRight.out (q : Nat)] at q1
          have HQ := Lib.hid q1
          clear q1 hf
          go_wp2_with fail
          refine (ref16Kind_any l _ q hq hRP _ (hU.kept hb0r)).mono ?_
          rintro e w4 ⟨rfl, hb4⟩
          have hb04 := bs hb0r hb4
          have hcc4 := cellK hb4 hgb hcc
          go_wp2_with fail
          refine (refIs1_any _ r0 r1 _).mono ?_
          rintro e w5 ⟨rfl, rfl⟩
          rw [HL.out]
          go_wp2_with fail
          refine (refForm_any l _ (q : Nat) hl hz _ (hU.kept hb04)).mono ?_
          rintro e w6 ⟨rfl, hb6⟩
          have q1 := HQ.out
          go_wp2_with fail
          go_roundw
          case rel => exact ⟨k + 1, by omega, by go_num, by rw [hfs.out, hE.out, List.append_nil]; exact (ho.kept hb4).kept hb6, bs (bs hbel hb4) hb6⟩
          case measure => simp [intOf]; omega
    · obtain rfl : k = I.length := by omega
      rw [List.take_of_length_le (Nat.le_refl _)] at ho
      go_wp2_with fail
      go_ret
      exact ⟨_, rfl, by rw [hR.out]; exact ov_base ho hg3, hb0r⟩
set_option maxHeartbeats 4000000 in
set_option maxRecDepth 100000 in
theorem refDefault_any (l : List Nd) (v : Value) (id : Int) (hl : l.length ≤ 1000000000000000000) (hz : ∀ x ∈ l, Fits x) (w : World) (hU : Nodes l v w) :
    Calls Try.prog 22 #[v, .int .i64 id] w fun e w' => e = .returned (.int .i64 (defF l id)) ∧ Below w.heap.size w w' := by
  obtain ⟨a, cap, rfl⟩ := hU.len
  cases hh : isF l id 30
  · have HH := Lib.hid hh
    have hR := Lib.hid (show defF l id = -1 by unfold defF; rw [inF_no hh]; rfl)
    clear hh
    go_enter Try.func22, Try.ntmps22
    go_wp2_with fail
    refine (refIs15_any l _ id 30 hl hz _ hU).mono ?_
    rintro e w' ⟨rfl, hb⟩
    rw [HH.out]
    go_wp2_with fail
    go_ret
    exact ⟨ret_int hR.out.symm, hb⟩
  have HH := Lib.hid hh
  have hc := (isF_30 (by omega)).1 hh
  have hRP := (rightB_iff l).1 hc.1
  obtain ⟨i0, i1⟩ := kindF_pos (l := l) (k := id) (by omega)
  obtain ⟨t0, t1⟩ := topF_range hRP i0 i1
  have hI := show inF l id = ord l (topF l id) from if_pos hc
  have hlen := inF_len (l := l) id
  have hmem := Lib.hid (fun k (h : k ∈ inF l id) => inF_mem h)
  have hRight := Lib.hid hc.1
  have hR := Lib.hid (show defF l id = firstF (defP l id) (inF l id) from rfl)
  have HP := Lib.hid (fun k => show defP l id k = (firesB (kindF l k) && decide (formF l k = id)) from rfl)
  obtain ⟨K, rfl⟩ := Int.eq_ofNat_of_zero_le i0
  have hkl : K < l.length := by omega
  clear hh hc
  obtain ⟨T, hT⟩ := Int.eq_ofNat_of_zero_le t0
  have hTl : T < l.length := by omega
  rw [hT] at hI
  have HT := Lib.hid hT
  have hmax := hRP.max
  clear hT t0 t1
  go_enter Try.func22, Try.ntmps22
  go_wp2_with fail
  refine (refIs15_any l _ _ 30 hl hz _ hU).mono ?_
  rintro e w1 ⟨rfl, hb1⟩
  rw [HH.out]
  go_wp2_with fail
  refine (refTop_any l _ K hkl hRP _ (hU.kept hb1)).mono ?_
  rintro e w2 ⟨rfl, rfl⟩
  rw [HT.out]
  go_wp2_with fail
  refine (refOrder_any l hRP T hTl _ _ hz (hU.kept hb1)).mono ?_
  rw [← hI]
  clear hI
  generalize inF l (K : Nat) = I at hlen hmem hR ⊢
  rintro e w3 ⟨vo, rfl, hov, hb3⟩
  obtain ⟨a1, c1, rfl, _⟩ := hov.form
  rw [ints_len] at hov ⊢
  have hb13 := bs hb1 hb3
  have hg3 := hb13.size
  have hsi : I.length ≤ 1000000000000000000 := by omega
  go_wp2_with fail
  go_loopw [6] (fun i wr => ∃ k : Nat, k ≤ I.length ∧ i = .int .i64 k ∧ Hid (∀ x ∈ I.take k, defP l (K : Nat) x = false) ∧ Below w3.heap.size w3 wr) (fun i _ => I.length - (intOf i).toNat)
  case atStart => exact ⟨0, Nat.zero_le _, rfl, Lib.hid (by simp), Below.refl _ _⟩
  case round =>
    obtain ⟨k, hk, rfl, hA, hbel⟩ := hrel
    have hb0r := hb13.trans (hbel.mono hg3)
    have hsz := hbel.size
    by_cases hlt : k < I.length
    · obtain ⟨_, id0, id1, c0, c1', _⟩ := hmem.out I[k] (List.getElem_mem hlt)
      have hov' := hov.kept hbel
      obtain ⟨g, gc, hv, _, hcell⟩ := hov'.at (by intro e; have := congrArg List.length e; rw [ints_len, List.length_nil] at this; omega)
      rw [ints_len] at hv
      cases hv
      have hgb : g < wr.heap.size := by
        have := (World.ownsRow.lt hov' g rfl).2
        omega
      have hcc := hcell k (.int .i64 I[k]) (by rw [ints, List.getElem?_map, List.getElem?_eq_getElem hlt]; rfl)
      have hT := Lib.hid (fun h => take_mem_snoc (P := fun x => defP l (K : Nat) x = false) hlt hA.out h)
      have hH := Lib.hid (fun h => firstF_hit (p := defP l (K : Nat)) hlt hA.out h)
      have hk0 : (0 : Int) ≤ (k : Int) := by omega
      have hk1 : (k : Int) < (I.length : Int) := by omega
      have hp := HP.out I[k]
      generalize I[k] = c at *
      obtain ⟨q, rfl⟩ := Int.eq_ofNat_of_zero_le c0
      have hq : q < l.length := by omega
      rw [kindF_in c0 c1'] at hp
      obtain ⟨r0, r1⟩ := kindF_range l (q : Nat)
      rw [kindF_in c0 c1'] at r0 r1
      cases hL : firesB (kOf l (q : Nat))
      · have HL := Lib.hid hL
        have hN := Lib.hid (hT.out (by rw [hp, hL]; rfl))
        clear hp hL
        go_wp2_with fail
        refine (ref16Kind_any l _ q hq hRP _ (hU.kept hb0r)).mono ?_
        rintro e w4 ⟨rfl, hb4⟩
        go_wp2_with fail
        refine (refIs5_any _ r0 r1 _).mono ?_
        rintro e w5 ⟨rfl, rfl⟩
        rw [HL.out]
        go_wp2_with fail
        go_roundw
        case rel => exact ⟨k + 1, by omega, by go_num, hN, bs hbel hb4⟩
        case measure => simp [intOf]; omega
      · have HL := Lib.hid hL
        by_cases hf : formF l (q : Nat) = K
        · have HF := Lib.hid ((formF_Form hRight.out (q : Nat)).trans hf)
          have hE := Lib.hid (hR.out.trans (hH.out (by rw [hp, hL, decide_eq_true hf]; rfl)))
          clear hp hL hf
          go_wp2_with fail
          refine (ref16Kind_any l _ q hq hRP _ (hU.kept hb0r)).mono ?_
          rintro e w4 ⟨rfl, hb4⟩
          have hb04 := bs hb0r hb4
          have hcc4 := cellK hb4 hgb hcc
          go_wp2_with fail
          refine (refIs5_any _ r0 r1 _).mono ?_
          rintro e w5 ⟨rfl, rfl⟩
          rw [HL.out]
          go_wp2_with fail
          refine (refForm_any l _ (q : Nat) hl hz _ (hU.kept hb04)).mono ?_
          rintro e w6 ⟨rfl, hb6⟩
          rw [HF.out]
          have hb06 := bs hb04 hb6
          have hcc6 := cellK hb6 (by have := hb4.size; omega) hcc4
          have hb36 := bs (bs hbel hb4) hb6
          go_wp2_with fail
          go_ret
          exact ⟨ret_int hE.out.symm, hb06⟩
        · have hN := Lib.hid (hT.out (by rw [hp, hL, decide_eq_false hf]; rfl))
          clear hp hL
          have q1 := intNe hf
          rw [← formF_Form hRight.out (q : Nat)] at q1
          have HQ := Lib.hid q1
          clear q1 hf
          go_wp2_with fail
          refine (ref16Kind_any l _ q hq hRP _ (hU.kept hb0r)).mono ?_
          rintro e w4 ⟨rfl, hb4⟩
          have hb04 := bs hb0r hb4
          have hcc4 := cellK hb4 hgb hcc
          go_wp2_with fail
          refine (refIs5_any _ r0 r1 _).mono ?_
          rintro e w5 ⟨rfl, rfl⟩
          rw [HL.out]
          go_wp2_with fail
          refine (refForm_any l _ (q : Nat) hl hz _ (hU.kept hb04)).mono ?_
          rintro e w6 ⟨rfl, hb6⟩
          have q1 := HQ.out
          go_wp2_with fail
          go_roundw
          case rel => exact ⟨k + 1, by omega, by go_num, hN, bs (bs hbel hb4) hb6⟩
          case measure => simp [intOf]; omega
    · obtain rfl : k = I.length := by omega
      have hN := Lib.hid (hR.out.trans (firstF_none (by have := hA.out; rwa [List.take_of_length_le (Nat.le_refl _)] at this)))
      go_wp2_with fail
      go_ret
      exact ⟨ret_int hN.out.symm, hb0r⟩
end Go.Proofs.Ytenicjebccdekaa
