/-
  A FORM's ELEMENTS AND DEFAULT BUTTON: owner.in, Elements, Default: the walks.
-/
import Derived.Test.YtenicjebccdekaaPlainOwn
namespace Go.Proofs.Ytenicjebccdekaa
set_option linter.unusedVariables false
set_option linter.unusedSimpArgs false
open Go.RowKit PT

set_option maxHeartbeats 4000000 in
set_option maxRecDepth 100000 in
theorem ownerIn_any (l : List Nd) (v : Value) (id : Int) (hl : l.length ≤ 1000000000000000000) (hz : ∀ x ∈ l, Fits x) (w : World) (hU : Nodes l v w) :
    Calls Try.prog 59 #[v, .int .i64 id] w fun e w' => ∃ a cap, e = .returned (.slice a (inF l id).length cap) ∧ OV w.heap.size 3 (ints (inF l id)) (.slice a (inF l id).length cap) w' ∧ Below w.heap.size w w' := by
  obtain ⟨a, cap, rfl⟩ := hU.len
  cases hr : rightB l
  · have hR := Lib.hid (show inF l id = [] from if_neg (fun h => by rw [hr] at h; cases h.1))
    have HR := Lib.hid hr
    clear hr
    go_enter Try.func59, Try.ntmps59
    go_wp2_with fail
    refine (right_any l _ hl hz _ hU).mono ?_
    rintro e w' ⟨rfl, hb⟩
    rw [HR.out]
    go_wp2_with fail
    go_ret
    exact ⟨none, 0, by rw [hR.out]; rfl, by rw [hR.out]; exact OV.nil _ _ _, hb⟩
  have HR := Lib.hid hr
  have hRP := (rightB_iff l).1 hr
  by_cases hk : kindF l id = 30
  case neg =>
    have hR := Lib.hid (show inF l id = [] from if_neg (fun h => hk h.2))
    clear hr
    obtain ⟨kk, hkk⟩ : ∃ kk, kindF l id = kk := ⟨_, rfl⟩
    rw [hkk] at hk
    have HK := Lib.hid hkk
    have q1 : (kk == 30) = false := intNe hk
    have q2 : (kk != 30) = true := by rw [bne, q1]; rfl
    clear hkk hk
    go_enter Try.func59, Try.ntmps59
    go_wp2_with fail
    refine (right_any l _ hl hz _ hU).mono ?_
    rintro e w' ⟨rfl, hb⟩
    rw [HR.out]
    go_wp2_with fail
    refine (ownerKind_any l _ id hl hRP.vals _ (hU.kept hb)).mono ?_
    rintro e w2 ⟨rfl, hb2⟩
    rw [HK.out]
    go_wp2_with fail
    go_ret
    exact ⟨none, 0, by rw [hR.out]; rfl, by rw [hR.out]; exact OV.nil _ _ _, bs hb hb2⟩
  obtain ⟨i0, i1⟩ := kindF_pos (l := l) (k := id) (by omega)
  obtain ⟨t0, t1⟩ := topF_range hRP i0 i1
  have hR := Lib.hid (show inF l id = ordB l (topB l id) by
    unfold inF ordB topB
    rw [if_pos ⟨hr, hk⟩, if_pos (hasB_yes hRP i0 i1), if_pos (hasB_yes hRP t0 t1)])
  have HK := Lib.hid hk
  clear hr hk t0 t1
  go_enter Try.func59, Try.ntmps59
  go_wp2_with fail
  refine (right_any l _ hl hz _ hU).mono ?_
  rintro e w' ⟨rfl, hb⟩
  rw [HR.out]
  go_wp2_with fail
  refine (ownerKind_any l _ id hl hRP.vals _ (hU.kept hb)).mono ?_
  rintro e w2 ⟨rfl, hb2⟩
  rw [HK.out]
  have hb02 := bs hb hb2
  go_wp2_with fail
  refine (top_any l _ id hl hz _ (hU.kept hb02)).mono ?_
  rintro e w3 ⟨rfl, hb3⟩
  have hb03 := bs hb02 hb3
  go_wp2_with fail
  refine (orderTop_any l _ (topB l id) hl hz _ (hU.kept hb03)).mono ?_
  rintro e w4 ⟨vo, rfl, hov, hb4⟩
  go_wp2_with fail
  go_ret
  rw [hR.out]
  obtain ⟨a1, c1, rfl, _⟩ := hov.form
  rw [ints_len] at hov ⊢
  exact ⟨a1, c1, rfl, ov_base hov hb03.size, bs hb03 hb4⟩
set_option maxHeartbeats 4000000 in
set_option maxRecDepth 100000 in
theorem elements_any (l : List Nd) (v : Value) (id : Int) (hl : l.length ≤ 1000000000000000000) (hz : ∀ x ∈ l, Fits x) (w : World) (hU : Nodes l v w) :
    Calls Try.prog 19 #[v, .int .i64 id] w fun e w' => ∃ vo, e = .returned vo ∧ OV w.heap.size 3 (ints (elemsF l id)) vo w' ∧ Below w.heap.size w w' := by
  obtain ⟨a, cap, rfl⟩ := hU.len
  have hlen := inF_len (l := l) id
  have hmem := Lib.hid (fun k (h : k ∈ inF l id) => inF_mem h)
  have hR := Lib.hid (show elemsF l id = (inF l id).filter (elP l id) from rfl)
  have HP := Lib.hid (fun k => show elP l id k = (listB (kindF l k) && decide (formF l k = id)) from rfl)
  go_enter Try.func19, Try.ntmps19
  go_wp2_with fail
  refine (ownerIn_any l _ id hl hz _ hU).mono ?_
  generalize inF l id = I at hlen hmem hR ⊢
  rintro e w1 ⟨a1, c1, rfl, hov, hb1⟩
  have hg1 := hb1.size
  have hsi : I.length ≤ 1000000000000000000 := by omega
  go_wp2_with fail
  go_loopw [5, 12] (fun vo i wr => ∃ k : Nat, k ≤ I.length ∧ i = .int .i64 k ∧ OV w1.heap.size 3 (ints ((I.take k).filter (elP l id))) vo wr ∧ Below w1.heap.size w1 wr) (fun _ i _ => I.length - (intOf i).toNat)
  case atStart => exact ⟨0, Nat.zero_le _, rfl, OV.nil _ _ _, Below.refl _ _⟩
  case round =>
    obtain ⟨k, hk, rfl, ho, hbel⟩ := hrel
    have hb0r := hb1.trans (hbel.mono hg1)
    have hsz := hbel.size
    by_cases hlt : k < I.length
    · obtain ⟨hRP, id0, id1, c0, c1', _⟩ := hmem.out I[k] (List.getElem_mem hlt)
      have hov' := hov.kept hbel
      obtain ⟨g, gc, hv, _, hcell⟩ := hov'.at (by intro e; have := congrArg List.length e; rw [ints_len, List.length_nil] at this; omega)
      rw [ints_len] at hv
      cases hv
      have hcc := hcell k (.int .i64 I[k]) (by rw [ints, List.getElem?_map, List.getElem?_eq_getElem hlt]; rfl)
      have hfs := Lib.hid (filter_snoc (p := elP l id) hlt)
      have hfl : ((I.take k).filter (elP l id)).length ≤ k := Nat.le_trans (List.length_filter_le _ _) (List.length_take_le _ _)
      have hmax := hRP.max
      have hk0 : (0 : Int) ≤ (k : Int) := by omega
      have hk1 : (k : Int) < (I.length : Int) := by omega
      have hp := HP.out I[k]
      obtain ⟨r0, r1⟩ := kindF_range l I[k]
      generalize I[k] = c at *
      cases hL : listB (kindF l c)
      · have HL := Lib.hid hL
        have hE := Lib.hid (show (if elP l id c = true then [c] else []) = ([] : List Int) by rw [hp, hL]; rfl)
        clear hp hL
        go_wp2_with fail
        refine (ownerKind_any l _ c hl hRP.vals _ (hU.kept hb0r)).mono ?_
        rintro e w2 ⟨rfl, hb2⟩
        go_wp2_with fail
        refine (kindsListed_any _ r0 r1 _).mono ?_
        rintro e w3 ⟨rfl, rfl⟩
        rw [HL.out]
        go_wp2_with fail
        go_roundw
        case rel => exact ⟨k + 1, by omega, by go_num, by rw [hfs.out, hE.out, List.append_nil]; exact ho.kept hb2, bs hbel hb2⟩
        case measure => simp [intOf]; omega
      · have HL := Lib.hid hL
        by_cases hf : formF l c = id
        · have HF := Lib.hid hf
          have hE := Lib.hid (show (if elP l id c = true then [c] else []) = [c] by rw [hp, hL, decide_eq_true hf]; rfl)
          clear hp hL hf
          go_wp2_with fail
          refine (ownerKind_any l _ c hl hRP.vals _ (hU.kept hb0r)).mono ?_
          rintro e w2 ⟨rfl, hb2⟩
          have hb02 := bs hb0r hb2
          go_wp2_with fail
          refine (kindsListed_any _ r0 r1 _).mono ?_
          rintro e w3 ⟨rfl, rfl⟩
          rw [HL.out]
          go_wp2_with fail
          refine (ownerForm_any l _ c hl hz hRP.vals _ (hU.kept hb02)).mono ?_
          rintro e w4 ⟨rfl, hb4⟩
          rw [HF.out]
          have hb14 := bs (bs hbel hb2) hb4
          have ho4 := (ho.kept hb2).kept hb4
          have hg4 := hb14.size
          go_wp2_with (at_builtin; refine wpList_append_cell rfl _ _ 28 3 rfl Try.underlying28 info_i64 rfl (by decide) rfl rfl (.int .i64 c) rfl ho4 (by rw [ints_len]; omega) hg4 ?_; intro v' w5 hov5 hb5)
          go_roundw
          case rel => exact ⟨k + 1, by omega, by go_num, by rw [hfs.out, hE.out, ints_snoc]; exact hov5, hb14.trans hb5⟩
          case measure => simp [intOf]; omega
        · have hE := Lib.hid (show (if elP l id c = true then [c] else []) = ([] : List Int) by rw [hp, hL, decide_eq_false hf]; rfl)
          clear hp hL
          have q1 := intNe hf
          have HQ := Lib.hid q1
          clear q1 hf
          go_wp2_with fail
          refine (ownerKind_any l _ c hl hRP.vals _ (hU.kept hb0r)).mono ?_
          rintro e w2 ⟨rfl, hb2⟩
          have hb02 := bs hb0r hb2
          go_wp2_with fail
          refine (kindsListed_any _ r0 r1 _).mono ?_
          rintro e w3 ⟨rfl, rfl⟩
          rw [HL.out]
          go_wp2_with fail
          refine (ownerForm_any l _ c hl hz hRP.vals _ (hU.kept hb02)).mono ?_
          rintro e w4 ⟨rfl, hb4⟩
          have q1 := HQ.out
          have hb14 := bs (bs hbel hb2) hb4
          have ho4 := (ho.kept hb2).kept hb4
          go_wp2_with fail
          go_roundw
          case rel => exact ⟨k + 1, by omega, by go_num, by rw [hfs.out, hE.out, List.append_nil]; exact ho4, hb14⟩
          case measure => simp [intOf]; omega
    · obtain rfl : k = I.length := by omega
      rw [List.take_of_length_le (Nat.le_refl _)] at ho
      go_wp2_with fail
      go_ret
      exact ⟨_, rfl, by rw [hR.out]; exact ov_base ho hg1, hb0r⟩
set_option maxHeartbeats 4000000 in
set_option maxRecDepth 100000 in
theorem default_any (l : List Nd) (v : Value) (id : Int) (hl : l.length ≤ 1000000000000000000) (hz : ∀ x ∈ l, Fits x) (w : World) (hU : Nodes l v w) :
    Calls Try.prog 21 #[v, .int .i64 id] w fun e w' => e = .returned (.int .i64 (defF l id)) ∧ Below w.heap.size w w' := by
  obtain ⟨a, cap, rfl⟩ := hU.len
  have hlen := inF_len (l := l) id
  have hmem := Lib.hid (fun k (h : k ∈ inF l id) => inF_mem h)
  have hR := Lib.hid (show defF l id = firstF (defP l id) (inF l id) from rfl)
  have HP := Lib.hid (fun k => show defP l id k = (firesB (kindF l k) && decide (formF l k = id)) from rfl)
  go_enter Try.func21, Try.ntmps21
  go_wp2_with fail
  refine (ownerIn_any l _ id hl hz _ hU).mono ?_
  generalize inF l id = I at hlen hmem hR ⊢
  rintro e w1 ⟨a1, c1, rfl, hov, hb1⟩
  have hg1 := hb1.size
  have hsi : I.length ≤ 1000000000000000000 := by omega
  go_wp2_with fail
  go_loopw [11] (fun i wr => ∃ k : Nat, k ≤ I.length ∧ i = .int .i64 k ∧ Hid (∀ x ∈ I.take k, defP l id x = false) ∧ Below w1.heap.size w1 wr) (fun i _ => I.length - (intOf i).toNat)
  case atStart => exact ⟨0, Nat.zero_le _, rfl, Lib.hid (by simp), Below.refl _ _⟩
  case round =>
    obtain ⟨k, hk, rfl, hA, hbel⟩ := hrel
    have hb0r := hb1.trans (hbel.mono hg1)
    have hsz := hbel.size
    by_cases hlt : k < I.length
    · obtain ⟨hRP, id0, id1, c0, c1', _⟩ := hmem.out I[k] (List.getElem_mem hlt)
      have hov' := hov.kept hbel
      obtain ⟨g, gc, hv, _, hcell⟩ := hov'.at (by intro e; have := congrArg List.length e; rw [ints_len, List.length_nil] at this; omega)
      rw [ints_len] at hv
      cases hv
      have hcc := hcell k (.int .i64 I[k]) (by rw [ints, List.getElem?_map, List.getElem?_eq_getElem hlt]; rfl)
      have hT := Lib.hid (fun h => take_mem_snoc (P := fun x => defP l id x = false) hlt hA.out h)
      have hH := Lib.hid (fun h => firstF_hit (p := defP l id) hlt hA.out h)
      have hk0 : (0 : Int) ≤ (k : Int) := by omega
      have hk1 : (k : Int) < (I.length : Int) := by omega
      have hp := HP.out I[k]
      obtain ⟨r0, r1⟩ := kindF_range l I[k]
      generalize I[k] = c at *
      cases hL : firesB (kindF l c)
      · have HL := Lib.hid hL
        have hN := Lib.hid (hT.out (by rw [hp, hL]; rfl))
        clear hp hL
        go_wp2_with fail
        refine (ownerKind_any l _ c hl hRP.vals _ (hU.kept hb0r)).mono ?_
        rintro e w2 ⟨rfl, hb2⟩
        go_wp2_with fail
        refine (kindsFires_any _ r0 r1 _).mono ?_
        rintro e w3 ⟨rfl, rfl⟩
        rw [HL.out]
        go_wp2_with fail
        go_roundw
        case rel => exact ⟨k + 1, by omega, by go_num, hN, bs hbel hb2⟩
        case measure => simp [intOf]; omega
      · have HL := Lib.hid hL
        by_cases hf : formF l c = id
        · have HF := Lib.hid hf
          have hE := Lib.hid (hR.out.trans (hH.out (by rw [hp, hL, decide_eq_true hf]; rfl)))
          clear hp hL hf
          go_wp2_with fail
          refine (ownerKind_any l _ c hl hRP.vals _ (hU.kept hb0r)).mono ?_
          rintro e w2 ⟨rfl, hb2⟩
          have hb02 := bs hb0r hb2
          go_wp2_with fail
          refine (kindsFires_any _ r0 r1 _).mono ?_
          rintro e w3 ⟨rfl, rfl⟩
          rw [HL.out]
          go_wp2_with fail
          refine (ownerForm_any l _ c hl hz hRP.vals _ (hU.kept hb02)).mono ?_
          rintro e w4 ⟨rfl, hb4⟩
          rw [HF.out]
          go_wp2_with fail
          go_ret
          exact ⟨ret_int hE.out.symm, bs hb02 hb4⟩
        · have hN := Lib.hid (hT.out (by rw [hp, hL, decide_eq_false hf]; rfl))
          clear hp hL
          have q1 := intNe hf
          have HQ := Lib.hid q1
          clear q1 hf
          go_wp2_with fail
          refine (ownerKind_any l _ c hl hRP.vals _ (hU.kept hb0r)).mono ?_
          rintro e w2 ⟨rfl, hb2⟩
          have hb02 := bs hb0r hb2
          go_wp2_with fail
          refine (kindsFires_any _ r0 r1 _).mono ?_
          rintro e w3 ⟨rfl, rfl⟩
          rw [HL.out]
          go_wp2_with fail
          refine (ownerForm_any l _ c hl hz hRP.vals _ (hU.kept hb02)).mono ?_
          rintro e w4 ⟨rfl, hb4⟩
          have q1 := HQ.out
          go_wp2_with fail
          go_roundw
          case rel => exact ⟨k + 1, by omega, by go_num, hN, bs (bs hbel hb2) hb4⟩
          case measure => simp [intOf]; omega
    · obtain rfl : k = I.length := by omega
      have hN := Lib.hid (hR.out.trans (firstF_none (by have := hA.out; rwa [List.take_of_length_le (Nat.le_refl _)] at this)))
      go_wp2_with fail
      go_ret
      exact ⟨ret_int hN.out.symm, hb0r⟩
end Go.Proofs.Ytenicjebccdekaa
