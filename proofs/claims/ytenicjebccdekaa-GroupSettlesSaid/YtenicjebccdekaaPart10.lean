import Derived.Test.YtenicjebccdekaaPart9
import Derived.Test.YtenicjebccdekaaPart7
/-
  The laws of chapter 17: the example (wakes): the walk.
-/
namespace Go.Proofs.Ytenicjebccdekaa
set_option linter.unusedVariables false
set_option linter.unusedSimpArgs false
open Go.RowKit PT

theorem alloc_old {w : World} {k : Nat} {o o' : Obj} (h : w.heap[k]? = some o) : (w.alloc o').heap[k]? = some o := blk_kept ((Below.refl _ w).alloc (Nat.le_refl _) o') h
theorem alloc_new {w : World} {n : Nat} {o : Obj} (h : w.heap.size = n) : (w.alloc o).heap[n]? = some o := by subst h; exact Go.heap_alloc_new w o
theorem alloc_size {w : World} {n : Nat} {o : Obj} (h : w.heap.size = n) : (w.alloc o).heap.size = n + 1 := by simp [h]
theorem four_rows {w : World} {A B C D : Obj} : ∀ W, W = (((w.alloc A).alloc B).alloc C).alloc D → Below w.heap.size w W ∧ W.heap[w.heap.size]? = some A ∧ W.heap[w.heap.size + 1]? = some B ∧ W.heap[w.heap.size + 1 + 1]? = some C ∧ W.heap[w.heap.size + 1 + 1 + 1]? = some D := by
  rintro W rfl
  have h1 := alloc_size (o := A) (Eq.refl w.heap.size)
  have h2 := alloc_size (o := B) h1
  have h3 := alloc_size (o := C) h2
  exact ⟨((((Below.refl w.heap.size w).alloc (Nat.le_refl _) A).alloc (by omega) B).alloc (by omega) C).alloc (by omega) D, alloc_old (alloc_old (alloc_old (alloc_new rfl))), alloc_old (alloc_old (alloc_new h1)), alloc_old (alloc_new h2), alloc_new h3⟩
theorem OV.nums17 {base : Nat} {l : List Int} {v : Value} {w : World} (h : OV base 3 (ints l) v w) : Nums l v w := by
  have h' : OI base l v w := by
    unfold OI
    have := h
    unfold OV at this
    rw [ints_len] at this
    exact this
  exact h'.nums
theorem ex17_doc {W : World} {n : Nat} (hA : W.heap[n]? = some (.cells #[.string ⟨#[116, 121, 112, 101]⟩, .string ⟨#[114, 97, 100, 105, 111]⟩, .string ⟨#[110, 97, 109, 101]⟩, .string ⟨#[97]⟩] 65 (0, 0)))
    (hB : W.heap[n + 1]? = some (.cells #[.int .i64 1, .int .i64 2] 3 (0, 0)))
    (hC : W.heap[n + 1 + 1]? = some (.cells #[.string ⟨#[104, 116, 109, 108]⟩, .string ⟨#[]⟩, .slice none 0 0, .int .i64 (-1), .slice (some ⟨n + 1, 0, none⟩) 2 2, .string ⟨#[105, 110, 112, 117, 116]⟩, .string ⟨#[]⟩, .slice (some ⟨n, 0, none⟩) 2 2, .int .i64 0, .slice none 0 0, .string ⟨#[105, 110, 112, 117, 116]⟩, .string ⟨#[]⟩, .slice (some ⟨n, 0, none⟩) 2 2, .int .i64 0, .slice none 0 0] 35 (0, 0)))
    (hD : W.heap[n + 1 + 1 + 1]? = some (.cells #[.string ⟨#[]⟩, .bool false, .bool false, .bool false, .bool false, .bool false, .bool false, .bool false, .string ⟨#[]⟩, .slice none 0 0, .string ⟨#[]⟩, .bool false, .bool false, .bool true, .bool false, .bool false, .bool false, .bool false, .string ⟨#[]⟩, .slice none 0 0, .string ⟨#[]⟩, .bool false, .bool false, .bool false, .bool false, .bool false, .bool false, .bool false, .string ⟨#[]⟩, .slice none 0 0] 69 (0, 0))) :
    DocAt ex17 ex17c (.slice (some ⟨n + 1 + 1, 0, none⟩) 3 3) (.slice (some ⟨n + 1 + 1 + 1, 0, none⟩) 3 3) W := by
  have nil : Atts [] (.slice none 0 0) W := .inl ⟨rfl, none, 0, rfl, fun _ => rfl⟩
  have nilK : Nums [] (.slice none 0 0) W := .inl ⟨rfl, none, 0, rfl, fun _ => rfl⟩
  have atr : Atts ex17a (.slice (some ⟨n, 0, none⟩) 2 2) W := .inr ⟨n, 0, 2, rfl, Nat.le_refl _, (Array.getElem?_eq_some_iff.1 hA).1, fun j x hx => by
    match j, hx with
    | 0, hx => cases hx; exact ⟨by simp [World.cell?, hA], by simp [World.cell?, hA]⟩
    | 1, hx => cases hx; exact ⟨by simp [World.cell?, hA], by simp [World.cell?, hA]⟩⟩
  have ks : Nums [1, 2] (.slice (some ⟨n + 1, 0, none⟩) 2 2) W := .inr ⟨n + 1, 0, 2, rfl, Nat.le_refl _, (Array.getElem?_eq_some_iff.1 hB).1, fun j x hx => by
    match j, hx with
    | 0, hx => cases hx; simp [World.cell?, hB]
    | 1, hx => cases hx; simp [World.cell?, hB]⟩
  refine ⟨⟨.inr ⟨_, 0, 3, rfl, Nat.le_refl _, (Array.getElem?_eq_some_iff.1 hC).1, ex17_at ?_ ?_ ?_⟩, ex17_fits, ?_⟩, ?_, ?_⟩
  · exact ⟨_, _, by simp [World.cell?, hC], by simp [World.cell?, hC], by simp [World.cell?, hC], by simp [World.cell?, hC], by simp [World.cell?, hC], nil, ks⟩
  · exact ⟨_, _, by simp [World.cell?, hC], by simp [World.cell?, hC], by simp [World.cell?, hC], by simp [World.cell?, hC], by simp [World.cell?, hC], atr, nilK⟩
  · exact ⟨_, _, by simp [World.cell?, hC], by simp [World.cell?, hC], by simp [World.cell?, hC], by simp [World.cell?, hC], by simp [World.cell?, hC], atr, nilK⟩
  · refine ⟨by decide, ?_, ?_⟩
    · intro x hx
      simp only [ex17, List.mem_cons, List.not_mem_nil, or_false] at hx
      rcases hx with rfl | rfl | rfl <;> decide
    · intro x hx
      simp only [ex17, List.mem_cons, List.not_mem_nil, or_false] at hx
      rcases hx with rfl | rfl | rfl <;> decide
  · refine ⟨[(ct0, .slice none 0 0), ({ ct0 with ch := true }, .slice none 0 0), (ct0, .slice none 0 0)], rfl, .inr ⟨_, 0, 3, rfl, Nat.le_refl _, (Array.getElem?_eq_some_iff.1 hD).1, fun j t ht i u hu => ?_⟩, fun t ht => ?_⟩
    · have hi : i < 10 := by have := (List.getElem?_eq_some_iff.1 hu).1; rwa [ctC_len] at this
      have hj : j < 3 := (List.getElem?_eq_some_iff.1 ht).1
      simp only [World.cell?, hD]
      match j, hj, ht with
      | 0, _, ht => cases ht; rw [← hu]; match i, hi with | 0, _ => rfl | 1, _ => rfl | 2, _ => rfl | 3, _ => rfl | 4, _ => rfl | 5, _ => rfl | 6, _ => rfl | 7, _ => rfl | 8, _ => rfl | 9, _ => rfl
      | 1, _, ht => cases ht; rw [← hu]; match i, hi with | 0, _ => rfl | 1, _ => rfl | 2, _ => rfl | 3, _ => rfl | 4, _ => rfl | 5, _ => rfl | 6, _ => rfl | 7, _ => rfl | 8, _ => rfl | 9, _ => rfl
      | 2, _, ht => cases ht; rw [← hu]; match i, hi with | 0, _ => rfl | 1, _ => rfl | 2, _ => rfl | 3, _ => rfl | 4, _ => rfl | 5, _ => rfl | 6, _ => rfl | 7, _ => rfl | 8, _ => rfl | 9, _ => rfl
    · simp only [List.mem_cons, List.not_mem_nil, or_false] at ht
      rcases ht with rfl | rfl | rfl <;> exact .inl ⟨rfl, none, 0, rfl, fun _ => rfl⟩
  · refine ⟨by decide, ?_⟩
    intro c hc
    simp only [ex17c, List.mem_cons, List.not_mem_nil, or_false] at hc
    rcases hc with rfl | rfl | rfl <;> decide
set_option maxHeartbeats 4000000 in
set_option maxRecDepth 100000 in
theorem wakes17_any (w : World) :
    Calls Try.prog 29 #[] w fun e w' => e = .returned (.bool true) ∧ Below w.heap.size w w' := by
  have E1 := Lib.hid ex17_mem
  have E2 := Lib.hid ex17_chkE
  have E3 := Lib.hid ex17_chkF
  go_enter Try.func29, Try.ntmps29
  go_wp2_with fail
  generalize hW : World.alloc _ _ = W
  obtain ⟨hb0, hA, hB, hC, hD⟩ := four_rows W hW.symm
  have hDoc := ex17_doc hA hB hC hD
  clear hW hA hB hC hD
  refine (check_any ex17 ex17c _ _ 2 true _ hDoc).mono ?_
  rintro e w1 ⟨vo, rfl, hCt, hb1⟩
  rw [E3.out] at hCt
  rw [E2.out]
  have hN1 := hDoc.nodes.kept hb1
  obtain ⟨g, o, cap, vf1, hv1, hgb, ⟨_, _, _, c13, _⟩, _⟩ := hCt.at (k := 1) (by decide)
  obtain ⟨g', o', cap', vf2, hv2, _, ⟨_, _, _, c23, _⟩, _⟩ := hCt.at (k := 2) (by decide)
  rw [hv1] at hv2
  cases hv2
  subst hv1
  have c13' : w1.cell? ⟨g, o + 1 * 10 + 3, none⟩ = some (.bool false) := c13
  have c23' : w1.cell? ⟨g, o + 2 * 10 + 3, none⟩ = some (.bool true) := c23
  clear c13 c23 hCt
  go_wp2_with fail
  refine (members_any ex17 _ 1 hN1.len hN1.fits _ hN1.nodes).mono ?_
  rintro e w2 ⟨mo, rfl, hov, hb2⟩
  rw [E1.out] at hov
  have hU := hov.nums17
  have hb3 := (Below.refl w2.heap.size w2).alloc (Nat.le_refl _) (.cells #[.int .i64 1, .int .i64 2] 3)
  have hV : Nums [1, 2] (.slice (some ⟨w2.heap.size, 0, none⟩) 2 2) (w2.alloc (.cells #[.int .i64 1, .int .i64 2] 3)) := .inr ⟨w2.heap.size, 0, 2, rfl, Nat.le_refl _, by simp, fun j x hx => by
    match j, hx with
    | 0, hx => cases hx; simp only [World.cell?, Go.heap_alloc_new]; rfl
    | 1, hx => cases hx; simp only [World.cell?, Go.heap_alloc_new]; rfl⟩
  go_wp2_with fail
  refine (sameInts_any [1, 2] [1, 2] mo _ (by decide) (by decide) _ (hU.kept hb3) hV).mono ?_
  rintro e w4 ⟨rfl, hb4⟩
  rw [show decide (([1, 2] : List Int) = [1, 2]) = true from rfl]
  have hb24 := bs (bs hb2 hb3) hb4
  have d13 := cellK hb24 hgb c13'
  have d23 := cellK hb24 hgb c23'
  go_wp2_with fail
  go_ret
  exact ⟨rfl, bs (bs hb0 hb1) hb24⟩
end Go.Proofs.Ytenicjebccdekaa

/-
  A RADIO BUTTON's GROUP by the document: ref17.Members: the walk.
-/
namespace Go.Proofs.Ytenicjebccdekaa
set_option linter.unusedVariables false
set_option linter.unusedSimpArgs false
open Go.RowKit PT

noncomputable def mgP (l : List Nd) (id c : Int) : Bool := radB l c && togB l id c
set_option maxHeartbeats 4000000 in
set_option maxRecDepth 100000 in
theorem refMembers_any (l : List Nd) (v : Value) (id : Int) (hl : l.length ≤ 1000000000000000000) (hz : ∀ x ∈ l, Fits x) (w : World) (hU : Nodes l v w) :
    Calls Try.prog 31 #[v, .int .i64 id] w fun e w' => ∃ vo, e = .returned vo ∧ OV w.heap.size 3 (ints (memF l id)) vo w' ∧ Below w.heap.size w w' := by
  obtain ⟨a, cap, rfl⟩ := hU.len
  cases hh : isF l id 17
  · have HH := Lib.hid hh
    have hR := Lib.hid (show memF l id = [] from if_neg (fun h => by
      have := (isF_30 (l := l) (id := id) (k := 17) (by omega)).2 ⟨h.1, of_decide_eq_true h.2⟩
      rw [this] at hh
      cases hh))
    clear hh
    go_enter Try.func31, Try.ntmps31
    go_wp2_with fail
    refine (refIs15_any l _ id 17 hl hz _ hU).mono ?_
    rintro e w' ⟨rfl, hb⟩
    rw [HH.out]
    go_wp2_with fail
    go_ret
    exact ⟨_, rfl, by rw [hR.out]; exact OV.nil _ _ _, hb⟩
  have HH := Lib.hid hh
  have hc := (isF_30 (by omega)).1 hh
  have hRP := (rightB_iff l).1 hc.1
  obtain ⟨i0, i1⟩ := kindF_pos (l := l) (k := id) (by omega)
  obtain ⟨t0, t1⟩ := topF_range hRP i0 i1
  have hI := mem_doc hRP (id := id) (decide_eq_true hc.2)
  obtain ⟨K, rfl⟩ := Int.eq_ofNat_of_zero_le i0
  have hkl : K < l.length := by omega
  clear hh hc
  obtain ⟨T, hT⟩ := Int.eq_ofNat_of_zero_le t0
  have hTl : T < l.length := by omega
  rw [hT] at hI
  have HT := Lib.hid hT
  have hmax := hRP.max
  have hol := ord_len hRP (k := (T : Int)) (by omega) (by omega)
  have hmem := Lib.hid (fun c (h : c ∈ ord l (T : Nat)) => ord_mem hRP (k := (T : Int)) (by omega) (by omega) h)
  have hR := Lib.hid (show memF l (K : Nat) = (ord l (T : Nat)).filter (mgP l (K : Nat)) from hI)
  have HP := Lib.hid (fun c => show mgP l (K : Nat) c = (radB l c && togB l (K : Nat) c) from rfl)
  clear hT t0 t1 hI
  go_enter Try.func31, Try.ntmps31
  go_wp2_with fail
  refine (refIs15_any l _ _ 17 hl hz _ hU).mono ?_
  rintro e w1 ⟨rfl, hb1⟩
  rw [HH.out]
  go_wp2_with fail
  refine (refTop_any l _ K hkl hRP _ (hU.kept hb1)).mono ?_
  rintro e w2 ⟨rfl, rfl⟩
  rw [HT.out]
  go_wp2_with fail
  refine (refOrder_any l hRP T hTl _ _ hz (hU.kept hb1)).mono ?_
  generalize ord l (T : Nat) = I at hol hmem hR ⊢
  rintro e w3 ⟨vo, rfl, hov, hb3⟩
  obtain ⟨a1, c1, rfl, _⟩ := hov.form
  rw [ints_len] at hov ⊢
  have hb13 := bs hb1 hb3
  have hg3 := hb13.size
  go_wp2_with fail
  go_loopw [5, 7] (fun vo i wr => ∃ k : Nat, k ≤ I.length ∧ i = .int .i64 k ∧ OV w3.heap.size 3 (ints ((I.take k).filter (mgP l (K : Nat)))) vo wr ∧ Below w3.heap.size w3 wr) (fun _ i _ => I.length - (intOf i).toNat)
  case atStart => exact ⟨0, Nat.zero_le _, rfl, OV.nil _ _ _, Below.refl _ _⟩
  case round =>
    obtain ⟨k, hk, rfl, ho, hbel⟩ := hrel
    have hb0r := hb13.trans (hbel.mono hg3)
    have hsz := hbel.size
    by_cases hlt : k < I.length
    · obtain ⟨d0, d1, _⟩ := hmem.out I[k] (List.getElem_mem hlt)
      have hov' := hov.kept hbel
      obtain ⟨g, gc, hv, _, hcell⟩ := hov'.at (by intro e; have := congrArg List.length e; rw [ints_len, List.length_nil] at this; omega)
      rw [ints_len] at hv
      cases hv
      have hgb : g < wr.heap.size := by
        have := (World.ownsRow.lt hov' g rfl).2
        omega
      have hcc := hcell k (.int .i64 I[k]) (by rw [ints, List.getElem?_map, List.getElem?_eq_getElem hlt]; rfl)
      have hfs := Lib.hid (filter_snoc (p := mgP l (K : Nat)) hlt)
      have hfl : ((I.take k).filter (mgP l (K : Nat))).length ≤ k := Nat.le_trans (List.length_filter_le _ _) (List.length_take_le _ _)
      have hk0 : (0 : Int) ≤ (k : Int) := by omega
      have hk1 : (k : Int) < (I.length : Int) := by omega
      have hp := HP.out I[k]
      generalize I[k] = c at *
      obtain ⟨q, rfl⟩ := Int.eq_ofNat_of_zero_le d0
      have hq : q < l.length := by omega
      have hrd := show radB l (q : Nat) = decide (kindOf l[q] = 17) by unfold radB; rw [kindF_in d0 d1, kOf_at hq]
      have hok := (hRP.node q _ (List.getElem?_eq_getElem hq)).1
      have y1 := one_ats hok
      have y2 := one_vals hok
      obtain ⟨b7, o7, cap7, va7, vk7, hv, hb7, g0, g1, g2, g3, g4, hat7, hks7⟩ := (hU.kept hb0r).at hq
      cases hv
      generalize l[q] = y at *
      clear hok
      obtain ⟨a3, cap3, rfl⟩ := hat7.len
      obtain ⟨a4, cap4, rfl⟩ := hks7.len
      by_cases hk17 : kindOf y = 17
      case neg =>
        have hq1 := Lib.hid (intNe hk17)
        have hE := Lib.hid (show (if mgP l (K : Nat) (q : Nat) = true then [(q : Int)] else []) = ([] : List Int) by rw [hp, hrd, decide_eq_false hk17]; rfl)
        clear hp hrd hk17
        go_wp2_with fail
        refine (refOf11_any y _ _ (by omega) (fun a ha => Nat.le_trans (y2 a ha) (by omega)) _ hat7).mono ?_
        rintro e w4 ⟨rfl, hb4⟩
        have q1 := hq1.out
        go_wp2_with fail
        go_roundw
        case rel => exact ⟨k + 1, by omega, by go_num, by rw [hfs.out, hE.out, List.append_nil]; exact ho.kept hb4, bs hbel hb4⟩
        case measure => simp [intOf]; omega
      have HK := Lib.hid hk17
      rw [hrd, decide_eq_true hk17, Bool.true_and] at hp
      clear hrd hk17
      cases ht : togB l (K : Nat) (q : Nat)
      · have HTg := Lib.hid ht
        have hE := Lib.hid (show (if mgP l (K : Nat) (q : Nat) = true then [(q : Int)] else []) = ([] : List Int) by rw [hp, ht]; rfl)
        clear hp ht
        go_wp2_with fail
        refine (refOf11_any y _ _ (by omega) (fun a ha => Nat.le_trans (y2 a ha) (by omega)) _ hat7).mono ?_
        rintro e w4 ⟨rfl, hb4⟩
        rw [HK.out]
        have hcc4 := cellK hb4 hgb hcc
        go_wp2_with fail
        refine (together_any l _ K q hkl hq hRP hz _ (hU.kept (bs hb0r hb4))).mono ?_
        rintro e w5 ⟨rfl, hb5⟩
        rw [HTg.out]
        go_wp2_with fail
        go_roundw
        case rel => exact ⟨k + 1, by omega, by go_num, by rw [hfs.out, hE.out, List.append_nil]; exact (ho.kept hb4).kept hb5, bs (bs hbel hb4) hb5⟩
        case measure => simp [intOf]; omega
      · have HTg := Lib.hid ht
        have hE := Lib.hid (show (if mgP l (K : Nat) (q : Nat) = true then [(q : Int)] else []) = [(q : Int)] by rw [hp, ht]; rfl)
        clear hp ht
        go_wp2_with fail
        refine (refOf11_any y _ _ (by omega) (fun a ha => Nat.le_trans (y2 a ha) (by omega)) _ hat7).mono ?_
        rintro e w4 ⟨rfl, hb4⟩
        rw [HK.out]
        have hcc4 := cellK hb4 hgb hcc
        go_wp2_with fail
        refine (together_any l _ K q hkl hq hRP hz _ (hU.kept (bs hb0r hb4))).mono ?_
        rintro e w5 ⟨rfl, hb5⟩
        rw [HTg.out]
        have hcc5 := cellK hb5 (Nat.lt_of_lt_of_le hgb hb4.size) hcc4
        have hb35 := bs (bs hbel hb4) hb5
        have ho5 := (ho.kept hb4).kept hb5
        have hg5 := hb35.size
        go_wp2_with (at_builtin; refine wpList_append_cell rfl _ _ 28 3 rfl Try.underlying28 info_i64 rfl (by decide) rfl rfl (.int .i64 (q : Nat)) rfl ho5 (by rw [ints_len]; omega) hg5 ?_; intro v' w7 hov7 hb7')
        go_roundw
        case rel => exact ⟨k + 1, by omega, by go_num, by rw [hfs.out, hE.out, ints_snoc]; exact hov7, hb35.trans hb7'⟩
        case measure => simp [intOf]; omega
    · obtain rfl : k = I.length := by omega
      rw [List.take_of_length_le (Nat.le_refl _)] at ho
      go_wp2_with fail
      go_ret
      exact ⟨_, rfl, by rw [hR.out]; exact ov_base ho hg3, hb0r⟩
end Go.Proofs.Ytenicjebccdekaa

/-
  A BUTTON IS CHECKED, by the document: ref17.Check: the walk.
-/
namespace Go.Proofs.Ytenicjebccdekaa
set_option linter.unusedVariables false
set_option linter.unusedSimpArgs false
open Go.RowKit PT

set_option maxHeartbeats 8000000 in
set_option maxRecDepth 100000 in
theorem refCheck_any (l : List Nd) (cs : List Ct) (vn vc : Value) (id : Int) (on : Bool) (w : World) (hD : DocAt l cs vn vc w) :
    Calls Try.prog 34 #[.agg #[vn, vc], .int .i64 id, .bool on] w fun e w' => ∃ vo, e = .returned (.tuple #[vo, .int .i64 (chkE l cs id)]) ∧ Ctls (chkF l cs id on) vo w' ∧ Below w.heap.size w w' := by
  have hlen := hD.nodes.len
  have hfit := hD.nodes.fits
  obtain ⟨a1, cap1, rfl⟩ := hD.nodes.nodes.len
  obtain ⟨a2, cap2, rfl⟩ := hD.ctls.len
  obtain ⟨hD1, hb1, hs1, c0, c1⟩ := doc_box (T := 38) hD
  have bad : ∀ n : Int, chkE l cs id = n → n ≠ 0 → ∀ w' : World, Below w.heap.size w w' → ∃ vo, Ending.returned (.tuple #[.slice none 0 0, .int .i64 n]) = .returned (.tuple #[vo, .int .i64 (chkE l cs id)]) ∧ Ctls (chkF l cs id on) vo w' ∧ Below w.heap.size w w' :=
    fun n h hn w' hb => ⟨_, by rw [h], by rw [chkF_no (by rw [h]; exact hn)]; exact (OC.nil 0 w').ctls, hb⟩
  have Bad := Lib.hid bad
  clear bad
  cases hk : okD l cs
  · have hR := Lib.hid (show chkE l cs id = 4 from if_neg (fun h => by rw [hk] at h; cases h.1))
    have HK := Lib.hid hk
    clear hk
    go_enter Try.func34, Try.ntmps34
    go_wp2_with fail
    refine (refRight15_any l cs _ _ _ hD1).mono ?_
    rintro e w2 ⟨rfl, hb2⟩
    rw [HK.out]
    go_wp2_with fail
    go_ret2
    exact Bad.out 4 hR.out (by decide) _ (bs hb1 hb2)
  have hk2 := hk
  unfold okD at hk2
  rw [Bool.and_eq_true, decide_eq_true_iff] at hk2
  obtain ⟨hrB, hll⟩ := hk2
  have hRP := (rightB_iff l).1 hrB
  have HK := Lib.hid hk
  cases hh : hasB l id
  · have hR := Lib.hid (show chkE l cs id = 4 from if_neg (fun h => by rw [hasB_yes hRP h.2.1 h.2.2] at hh; cases hh))
    have HH := Lib.hid hh
    clear hk hh hll
    go_enter Try.func34, Try.ntmps34
    go_wp2_with fail
    refine (refRight15_any l cs _ _ _ hD1).mono ?_
    rintro e w2 ⟨rfl, hb2⟩
    rw [HK.out]
    have d0 := cellK hb2 (by omega) c0
    go_wp2_with fail
    refine (refHas10_any l _ id hlen hfit _ (hD1.nodes.nodes.kept hb2)).mono ?_
    rintro e w3 ⟨rfl, hb3⟩
    rw [HH.out]
    go_wp2_with fail
    go_ret2
    exact Bad.out 4 hR.out (by decide) _ (bs (bs hb1 hb2) hb3)
  obtain ⟨h0, h1, _⟩ := (hasB_iff l id).1 hh
  have HH := Lib.hid hh
  obtain ⟨K, rfl⟩ := Int.eq_ofNat_of_zero_le h0
  have hkl : K < l.length := by omega
  have hE0 : chkE l cs (K : Nat) = if kindF l (K : Nat) = 17 ∨ kindF l (K : Nat) = 16 then 0 else 3 := if_pos ⟨hk, h0, h1⟩
  have hrK : radB l (K : Nat) = decide (kindOf l[K] = 17) := by unfold radB; rw [kindF_in h0 h1, kOf_at hkl]
  rw [kindF_in h0 h1, kOf_at hkl] at hE0
  have hz1 := (hRP.node K _ (List.getElem?_eq_getElem hkl)).1
  have z1 := one_ats hz1
  have z2 := one_vals hz1
  have hDb := hD1
  obtain ⟨b, o, cap', va, vk, hv, hb, e0, e1, e2, e3, e4, hat, hks⟩ := hD1.nodes.nodes.at hkl
  cases hv
  generalize l[K] = x at *
  have hK0 : (0 : Int) ≤ (K : Int) := by omega
  have hK1 : (K : Int) < (l.length : Int) := by omega
  have hK2 : (K : Int) < (cs.length : Int) := by omega
  have Hll := Lib.hid hll
  clear hk hll h0 h1 hz1 hh
  by_cases hkk : kindOf x = 17 ∨ kindOf x = 16
  case neg =>
    have hR := Lib.hid (hE0.trans (if_neg hkk))
    have q1 := Lib.hid (intNe (fun h => hkk (.inl h) : kindOf x ≠ 17))
    have q2 := Lib.hid (intNe (fun h => hkk (.inr h) : kindOf x ≠ 16))
    clear hkk hE0 hrK
    go_enter Try.func34, Try.ntmps34
    go_wp2_with fail
    refine (refRight15_any l cs _ _ _ hDb).mono ?_
    rintro e w2 ⟨rfl, hb2⟩
    rw [HK.out]
    have d0 := cellK hb2 (by omega) c0
    have hs2 := hb2.size
    go_wp2_with fail
    refine (refHas10_any l _ _ hlen hfit _ (hDb.nodes.nodes.kept hb2)).mono ?_
    rintro e w3 ⟨rfl, hb3⟩
    rw [HH.out]
    have d03 := cellK hb3 (by omega) d0
    have f0 := cellK hb3 (by omega) (cellK hb2 hb e0)
    have f1 := cellK hb3 (by omega) (cellK hb2 hb e1)
    have f2 := cellK hb3 (by omega) (cellK hb2 hb e2)
    have f3 := cellK hb3 (by omega) (cellK hb2 hb e3)
    have f4 := cellK hb3 (by omega) (cellK hb2 hb e4)
    go_wp2_with fail
    refine (refOf11_any x va vk (by omega) (fun a ha => Nat.le_trans (z2 a ha) (by omega)) _ ((hat.kept hb2).kept hb3)).mono ?_
    rintro e w4 ⟨rfl, hb4⟩
    have p1 := q1.out
    have p2 := q2.out
    have p3 : (kindOf x != 17) = true := by rw [bne, p1]; rfl
    have p4 : (kindOf x != 16) = true := by rw [bne, p2]; rfl
    go_wp2_with fail
    go_ret2
    exact Bad.out 3 hR.out (by decide) _ (bs (bs (bs hb1 hb2) hb3) hb4)
  have hR := Lib.hid (hE0.trans (if_pos hkk))
  clear hE0
  have hF := Lib.hid (chkF_yes (on := on) hR.out)
  rw [Int.toNat_natCast] at hF
  have hsz := hD.sz
  by_cases hgo : on = true ∧ kindOf x = 17
  case neg =>
    have hpF := Lib.hid (show clrP cs (fun _ => false) = clrP cs (offP l (K : Nat) on) from clrP_congr (fun j _ => by
      unfold offP
      rw [hrK]
      cases on
      · rfl
      · rw [decide_eq_false (fun e => hgo ⟨rfl, e⟩)]; rfl))
    clear hrK
    have key : ∀ (n : Int), kindOf x = n → (n = 17 ∨ n = 16) → (on = true → n = 16) → on = false ∧ n = 17 ∨ n = 16 := by
      intro n hn h1 h2
      cases on
      · rcases h1 with h1 | h1
        · exact .inl ⟨rfl, h1⟩
        · exact .inr h1
      · exact .inr (h2 rfl)
    have hcase : on = false ∧ kindOf x = 17 ∨ kindOf x = 16 := key _ rfl hkk (fun h => hkk.elim (fun e => absurd ⟨h, e⟩ hgo) id)
    clear key hkk hgo
    have hcase2 : ∃ n : Int, kindOf x = n ∧ (on = false ∧ n = 17 ∨ on = false ∧ n = 16 ∨ on = true ∧ n = 16) := by
      rcases hcase with ⟨h1, h2⟩ | h2
      · exact ⟨17, h2, .inl ⟨h1, rfl⟩⟩
      · cases on
        · exact ⟨16, h2, .inr (.inl ⟨rfl, rfl⟩)⟩
        · exact ⟨16, h2, .inr (.inr ⟨rfl, rfl⟩)⟩
    clear hcase
    obtain ⟨n9, hn9, hn⟩ := hcase2
    have HQ := Lib.hid hn9
    clear hn9
    obtain ⟨b9, hb9⟩ : ∃ b9, b9 = on := ⟨_, rfl⟩
    rcases hn with ⟨rfl, rfl⟩ | ⟨rfl, rfl⟩ | ⟨rfl, rfl⟩
    all_goals
      go_enter Try.func34, Try.ntmps34
      go_wp2_with fail
      refine (refRight15_any l cs _ _ _ hDb).mono ?_
      rintro e w2 ⟨rfl, hb2⟩
      rw [HK.out]
      have d0 := cellK hb2 (by omega) c0
      have d1 := cellK hb2 (by omega) c1
      have hs2 := hb2.size
      go_wp2_with fail
      refine (refHas10_any l _ _ hlen hfit _ (hDb.nodes.nodes.kept hb2)).mono ?_
      rintro e w3 ⟨rfl, hb3⟩
      rw [HH.out]
      have hs3 := hb3.size
      have d03 := cellK hb3 (by omega) d0
      have d13 := cellK hb3 (by omega) d1
      have f0 := cellK hb3 (by omega) (cellK hb2 hb e0)
      have f1 := cellK hb3 (by omega) (cellK hb2 hb e1)
      have f2 := cellK hb3 (by omega) (cellK hb2 hb e2)
      have f3 := cellK hb3 (by omega) (cellK hb2 hb e3)
      have f4 := cellK hb3 (by omega) (cellK hb2 hb e4)
      go_wp2_with fail
      refine (refOf11_any x va vk (by omega) (fun a ha => Nat.le_trans (z2 a ha) (by omega)) _ ((hat.kept hb2).kept hb3)).mono ?_
      rintro e w4 ⟨rfl, hb4⟩
      rw [HQ.out]
      have hs4 := hb4.size
      have d04 := cellK hb4 (by omega) d03
      have d14 := cellK hb4 (by omega) d13
      go_wp2_with fail
      refine (refCopied15_any cs _ _ hsz (((hDb.ctls.kept hb2).kept hb3).kept hb4)).mono ?_
      rintro e w5 ⟨L, vo, rfl, hL, hO, hb5⟩
      have d05 := cellK hb5 (by omega) d04
      have hb05 := bs (bs (bs (bs hb1 hb2) hb3) hb4) hb5
      have hs05 := (bs (bs (bs hb1 hb2) hb3) hb4).size
      have hLl : L.length = cs.length := by rw [← hL.out, List.length_map]
      have hKL : K < L.length := by rw [hLl, ← Hll.out]; exact hkl
      obtain ⟨g, gc, cur, rfl, hgb, hg, ⟨_, _, _, t3, t4, _⟩, _⟩ := hO.at hKL
      obtain ⟨L1, m1, hO1, hb6⟩ := hO.setCh hKL b9
      subst hb9
      have hK1' : K < L1.length := by have := congrArg List.length m1; rw [List.length_set, List.length_map, List.length_map] at this; omega
      obtain ⟨L2, m2, hO2, hb7⟩ := hO1.setDc hK1' true
      have hy0 : w5.frozen? ⟨g, K * 10 + 3, none⟩ = false := cells_not_frozen hg
      have hy1 : w5.frozen? ⟨g, K * 10 + 4, none⟩ = false := cells_not_frozen hg
      have hfin := Lib.hid (chk_end (hL.out.trans ((clrP_none cs).symm.trans hpF.out)) hKL hK1' m1 m2)
      rw [hLl] at *
      clear m1 m2
      have hCt := hO2.ctls
      rw [hfin.out, ← hF.out] at hCt
      go_wp2_with fail
      go_loopw [10] (fun i wr => i = .int .i64 0 ∧ wr = w5) (fun _ _ => 0)
      case atStart => exact ⟨rfl, rfl⟩
      case round =>
        obtain ⟨rfl, rfl⟩ := hrel
        go_wp2_with fail
        go_ret2
        exact ⟨_, ret_two hR.out.symm, hCt, hb05.trans ((hb6.trans hb7).mono (by omega))⟩
  obtain ⟨rfl, hk17⟩ := hgo
  have hpF := Lib.hid (fun j : Nat => show offP l (K : Nat) true j = (radB l j && togB l (K : Nat) j) by unfold offP; rw [hrK, decide_eq_true hk17]; rfl)
  have HQ := Lib.hid hk17
  clear hkk hk17 hrK
  go_enter Try.func34, Try.ntmps34
  go_wp2_with fail
  refine (refRight15_any l cs _ _ _ hDb).mono ?_
  rintro e w2 ⟨rfl, hb2⟩
  rw [HK.out]
  have d0 := cellK hb2 (by omega) c0
  have d1 := cellK hb2 (by omega) c1
  have hs2 := hb2.size
  go_wp2_with fail
  refine (refHas10_any l _ _ hlen hfit _ (hDb.nodes.nodes.kept hb2)).mono ?_
  rintro e w3 ⟨rfl, hb3⟩
  rw [HH.out]
  have hs3 := hb3.size
  have d03 := cellK hb3 (by omega) d0
  have d13 := cellK hb3 (by omega) d1
  have f0 := cellK hb3 (by omega) (cellK hb2 hb e0)
  have f1 := cellK hb3 (by omega) (cellK hb2 hb e1)
  have f2 := cellK hb3 (by omega) (cellK hb2 hb e2)
  have f3 := cellK hb3 (by omega) (cellK hb2 hb e3)
  have f4 := cellK hb3 (by omega) (cellK hb2 hb e4)
  go_wp2_with fail
  refine (refOf11_any x va vk (by omega) (fun a ha => Nat.le_trans (z2 a ha) (by omega)) _ ((hat.kept hb2).kept hb3)).mono ?_
  rintro e w4 ⟨rfl, hb4⟩
  rw [HQ.out]
  have hs4 := hb4.size
  have d04 := cellK hb4 (by omega) d03
  have d14 := cellK hb4 (by omega) d13
  go_wp2_with fail
  refine (refCopied15_any cs _ _ hsz (((hDb.ctls.kept hb2).kept hb3).kept hb4)).mono ?_
  rintro e w5 ⟨L, vo, rfl, hL, hO, hb5⟩
  have hb15 := bs (bs (bs hb2 hb3) hb4) hb5
  have hs14 := (bs (bs hb2 hb3) hb4).size
  have hLl : L.length = cs.length := by rw [← hL.out, List.length_map]
  obtain ⟨ao, gc, rfl, _⟩ := hO.len
  rw [hLl] at hO ⊢
  have hL0 := Lib.hid (hL.out.trans ((clrP_none cs).symm.trans (clrP_congr (p' := fun j => decide (j < 0) && offP l (K : Nat) true j) (fun j _ => by simp))))
  generalize hW1 : World.alloc _ _ = W1 at *
  go_wp2_with fail
  go_loopw [10] (fun i wr => ∃ (k : Nat) (L : List CtT), k ≤ l.length ∧ i = .int .i64 k ∧ Hid (L.map (·.1) = clrP cs (fun j => decide (j < k) && offP l (K : Nat) true j)) ∧ OC w4.heap.size L (.slice ao cs.length gc) wr ∧ Below W1.heap.size W1 wr) (fun i _ => l.length - (intOf i).toNat)
  case atStart => exact ⟨0, L, Nat.zero_le _, rfl, hL0, hO, hb15⟩
  case round =>
    obtain ⟨k, L', hkT, rfl, hL', hO', hbel⟩ := hrel
    have hLl' : L'.length = cs.length := by have := congrArg List.length hL'.out; rwa [List.length_map, clrP_len] at this
    have dr := cellK hbel (by omega) c0
    have hNr := hDb.nodes.nodes.kept hbel
    have hsr := hbel.size
    by_cases hlt : k < l.length
    · have hk0 : (0 : Int) ≤ (k : Int) := by omega
      have hk1 : (k : Int) < (l.length : Int) := by omega
      have hk2 : (k : Int) < (cs.length : Int) := by have := Hll.out; omega
      have hok := (hRP.node k _ (List.getElem?_eq_getElem hlt)).1
      have y1 := one_ats hok
      have y2 := one_vals hok
      have hrk := show radB l (k : Nat) = decide (kindOf l[k] = 17) by unfold radB; rw [kindF_in hk0 hk1, kOf_at hlt]
      obtain ⟨b7, o7, cap7, va7, vk7, hv, hb7, g0, g1, g2, g3, g4, hat7, hks7⟩ := hNr.at hlt
      cases hv
      generalize l[k] = y at *
      clear hok
      have skip : offP l (K : Nat) true k = false → Hid (L'.map (·.1) = clrP cs (fun j => decide (j < k + 1) && offP l (K : Nat) true j)) := fun h => Lib.hid (hL'.out.trans (clrP_congr (fun j _ => by
        by_cases e : j = k
        · subst e; rw [h, Bool.and_false, Bool.and_false]
        · congr 1
          rw [decide_eq_decide]
          omega)))
      have Skip := Lib.hid skip
      clear skip
      by_cases hky : kindOf y = 17
      case neg =>
        have hq1 := Lib.hid (intNe hky)
        have hS := Skip.out (by rw [hpF.out, hrk, decide_eq_false hky]; rfl)
        clear hky hrk
        go_wp2_with fail
        refine (refOf11_any y _ _ (by omega) (fun a ha => Nat.le_trans (y2 a ha) (by omega)) _ hat7).mono ?_
        rintro e w6 ⟨rfl, hb6⟩
        have q1 := hq1.out
        go_wp2_with fail
        go_roundw
        case rel => exact ⟨k + 1, L', by omega, by go_num, hS, hO'.kept hb6, bs hbel hb6⟩
        case measure => simp [intOf]; omega
      have HY := Lib.hid hky
      rw [decide_eq_true hky] at hrk
      clear hky
      cases ht : togB l (K : Nat) (k : Nat)
      · have HT := Lib.hid ht
        have hS := Skip.out (by rw [hpF.out, ht, Bool.and_false])
        clear ht hrk
        go_wp2_with fail
        refine (refOf11_any y _ _ (by omega) (fun a ha => Nat.le_trans (y2 a ha) (by omega)) _ hat7).mono ?_
        rintro e w6 ⟨rfl, hb6⟩
        rw [HY.out]
        have dr6 := cellK hb6 (by omega) dr
        go_wp2_with fail
        refine (together_any l _ K k hkl hlt hRP hfit _ (hNr.kept hb6)).mono ?_
        rintro e w7 ⟨rfl, hb7'⟩
        rw [HT.out]
        go_wp2_with fail
        go_roundw
        case rel => exact ⟨k + 1, L', by omega, by go_num, hS, (hO'.kept hb6).kept hb7', bs (bs hbel hb6) hb7'⟩
        case measure => simp [intOf]; omega
      · have HT := Lib.hid ht
        have hp9 := Lib.hid (show offP l (K : Nat) true k = true by rw [hpF.out, hrk, ht]; rfl)
        clear ht hrk
        go_wp2_with fail
        refine (refOf11_any y _ _ (by omega) (fun a ha => Nat.le_trans (y2 a ha) (by omega)) _ hat7).mono ?_
        rintro e w6 ⟨rfl, hb6⟩
        rw [HY.out]
        have dr6 := cellK hb6 (by omega) dr
        go_wp2_with fail
        refine (together_any l _ K k hkl hlt hRP hfit _ (hNr.kept hb6)).mono ?_
        rintro e w7 ⟨rfl, hb7'⟩
        rw [HT.out]
        have hO7 := (hO'.kept hb6).kept hb7'
        have hkL : k < L'.length := by omega
        obtain ⟨g, gc', cur, hv, hgb, hg, ⟨_, _, _, t3, _⟩, _⟩ := hO7.at hkL
        rw [hLl'] at hv
        cases hv
        obtain ⟨L1, m1, hO1, hb8⟩ := hO7.setCh hkL false
        have hz0 : w7.frozen? ⟨g, k * 10 + 3, none⟩ = false := cells_not_frozen hg
        have hm := Lib.hid (m1.trans (clr_step hL'.out hkL (p' := fun j => decide (j < k + 1) && offP l (K : Nat) true j) (fun j _ => by
          by_cases e : j = k
          · subst e; rw [hp9.out]; simp
          · rw [decide_eq_false e, Bool.or_false]
            congr 1
            rw [decide_eq_decide]
            omega)))
        clear m1
        go_wp2_with fail
        go_roundw
        case rel => exact ⟨k + 1, L1, by omega, by go_num, hm, hO1, (bs (bs hbel hb6) hb7').trans (hb8.mono (by omega))⟩
        case measure => simp [intOf]; omega
    · obtain rfl : k = l.length := by omega
      have hL9 := Lib.hid (show L'.map (·.1) = clrP cs (offP l (K : Nat) true) from hL'.out.trans (clrP_congr (fun j hj => by rw [decide_eq_true (by have := Hll.out; omega), Bool.true_and])))
      have hKL : K < L'.length := by rw [hLl', ← Hll.out]; exact hkl
      obtain ⟨g, gc', cur, hv, hgb, hg, ⟨_, _, _, t3, t4, _⟩, _⟩ := hO'.at hKL
      rw [hLl'] at hv
      cases hv
      obtain ⟨L1, m1, hO1, hb5'⟩ := hO'.setCh hKL true
      have hK1' : K < L1.length := by have := congrArg List.length m1; rw [List.length_set, List.length_map, List.length_map] at this; omega
      obtain ⟨L2, m2, hO2, hb6⟩ := hO1.setDc hK1' true
      have hy0 : wr.frozen? ⟨g, K * 10 + 3, none⟩ = false := cells_not_frozen hg
      have hy1 : wr.frozen? ⟨g, K * 10 + 4, none⟩ = false := cells_not_frozen hg
      have hfin := Lib.hid (chk_end hL9.out hKL hK1' m1 m2)
      clear m1 m2
      have hCt := hO2.ctls
      rw [hfin.out, ← hF.out] at hCt
      go_wp2_with fail
      go_ret2
      exact ⟨_, ret_two hR.out.symm, hCt, (bs hb1 hbel).trans ((hb5'.trans hb6).mono (by omega))⟩
end Go.Proofs.Ytenicjebccdekaa

/-
  The law GroupChecks: the walk.
-/
namespace Go.Proofs.Ytenicjebccdekaa
set_option linter.unusedVariables false
set_option linter.unusedSimpArgs false
open Go.RowKit PT

theorem SizedC.same {cs cs' : List Ct} (h : SizedC cs) (hl : cs'.length = cs.length) (hf : ∀ (j : Nat) (c : Ct), cs'[j]? = some c → ∃ c0, cs[j]? = some c0 ∧ c.fi = c0.fi) : SizedC cs' := by
  refine ⟨by rw [hl]; exact h.len, fun c hc => ?_⟩
  obtain ⟨j, hj, rfl⟩ := List.getElem_of_mem hc
  obtain ⟨c0, h0, e⟩ := hf j _ (List.getElem?_eq_getElem hj)
  rw [e]
  exact h.fi' _ (List.mem_of_getElem? h0)
theorem SizedC.chk {l : List Nd} {cs : List Ct} {id : Int} {on : Bool} (h : SizedC cs) : SizedC (chkF l cs id on) := by
  unfold chkF
  split
  · refine h.same (chkP_len _ _ _ _) (fun j c hc => ?_)
    unfold chkP at hc
    rw [List.getElem?_mapIdx] at hc
    cases h0 : cs[j]? with
    | none => rw [h0] at hc; cases hc
    | some c0 =>
      rw [h0] at hc
      refine ⟨c0, rfl, ?_⟩
      simp only [Option.map_some, Option.some.injEq] at hc
      rw [← hc]
      split
      · rfl
      · split <;> rfl
  · exact ⟨by simp, by simp⟩
set_option maxHeartbeats 4000000 in
set_option maxRecDepth 100000 in
theorem groupChecks_walk (l : List Nd) (cs : List Ct) (vn vc : Value) (id : Int) (on : Bool) (w : World) (hD : DocAt l cs vn vc w) (hid : (Lit.int .i64 id).wf = true) :
    Calls Try.prog 8 #[.agg #[vn, vc], .int .i64 id, .bool on] w fun e w' => e = .returned (.bool true) ∧ Below w.heap.size w w' := by
  obtain ⟨a1, cap1, rfl⟩ := hD.nodes.nodes.len
  obtain ⟨a2, cap2, rfl⟩ := hD.ctls.len
  obtain ⟨hD1, hb1, hs1, c0, c1⟩ := doc_box (T := 38) hD
  have hZ : SizedC (chkF l cs id on) := hD.sz.chk
  have hzz := hD.sz
  go_enter Try.func8, Try.ntmps8
  go_wp2_with fail
  generalize World.alloc _ _ = W1 at hD1 hb1 hs1 c0 c1 ⊢
  refine (wakes17_any _).mono ?_
  rintro e w2 ⟨rfl, hb2⟩
  have hD2 := hD1.kept hb2
  have d0 := cellK hb2 (by omega) c0
  have d1 := cellK hb2 (by omega) c1
  have hs2 := hb2.size
  go_wp2_with fail
  refine (lawCopied17_any l cs _ _ _ hD2).mono ?_
  rintro e w3 ⟨vn3, vc3, rfl, hO3, hb3⟩
  have hb03 := bs (bs hb1 hb2) hb3
  obtain ⟨a3, cap3, rfl⟩ := hO3.nodes.nodes.len
  obtain ⟨a4, cap4, rfl⟩ := hO3.ctls.len
  have hs3 := hb3.size
  have d03 := cellK hb3 (by omega) d0
  have d13 := cellK hb3 (by omega) d1
  obtain ⟨hO4, hb4, hs4, y0, y1⟩ := doc_box (T := 38) hO3
  go_wp2_with fail
  generalize World.alloc _ _ = W4 at hO4 hb4 hs4 y0 y1 ⊢
  have d04 := cellK hb4 (by omega) d03
  have d14 := cellK hb4 (by omega) d13
  have hD4 := (hD2.kept hb3).kept hb4
  refine (check_any l cs _ _ id on _ hO4).mono ?_
  rintro e w5 ⟨v5, rfl, hC5, hb5⟩
  have d05 := cellK hb5 (by omega) d04
  have d15 := cellK hb5 (by omega) d14
  have y05 := cellK hb5 (by omega) y0
  have y15 := cellK hb5 (by omega) y1
  have hs5 := hb5.size
  go_wp2_with fail
  refine (refCheck_any l cs _ _ id on _ (hD4.kept hb5)).mono ?_
  rintro e w6 ⟨v6, rfl, hC6, hb6⟩
  generalize chkE l cs id = z
  have d06 := cellK hb6 (by omega) d05
  have d16 := cellK hb6 (by omega) d15
  have y06 := cellK hb6 (by omega) y05
  have y16 := cellK hb6 (by omega) y15
  have hs6 := hb6.size
  go_wp2_with fail
  refine (refSame15_yes _ _ _ _ (hC5.kept hb6) hC6 hZ).mono ?_
  rintro e w7 ⟨rfl, hb7⟩
  have d17 := cellK hb7 (by omega) d16
  have y17 := cellK hb7 (by omega) y16
  go_wp2_with fail
  refine (refSame15_yes cs _ _ _ (((hO4.ctls.kept hb5).kept hb6).kept hb7) (((hD4.ctls.kept hb5).kept hb6).kept hb7) hzz).mono ?_
  rintro e w8 ⟨rfl, hb8⟩
  go_wp2_with fail
  go_ret
  exact ⟨rfl, bs (bs (bs (bs (bs hb03 hb4) hb5) hb6) hb7) hb8⟩
end Go.Proofs.Ytenicjebccdekaa

/-
  OF EACH GROUP AT MOST ONE IS CHECKED: group.One: the walk; the range over the map of groups.
-/
namespace Go.Proofs.Ytenicjebccdekaa
set_option linter.unusedVariables false
set_option linter.unusedSimpArgs false
open Go.RowKit PT

def chB (cs : List Ct) (k : Int) : Bool := match cs[k.toNat]? with
  | some c => c.ch
  | none => false
theorem chB_at {cs : List Ct} {k : Nat} (hk : k < cs.length) : chB cs (k : Nat) = cs[k].ch := by
  unfold chB; rw [Int.toNat_natCast, List.getElem?_eq_getElem hk]
noncomputable def cntM (l : List Nd) (cs : List Ct) (j : Int) : Nat := (memF l j).countP (chB cs)
def OneP (l : List Nd) (cs : List Ct) : Prop := ∀ j : Nat, j < l.length → cntM l cs j ≤ 1
noncomputable def oneF (l : List Nd) (cs : List Ct) : Bool := okD l cs && @decide (OneP l cs) (Classical.propDecidable _)
theorem oneF_yes {l : List Nd} {cs : List Ct} (h : okD l cs = true) (h1 : OneP l cs) : oneF l cs = true := by
  unfold oneF; rw [h, @decide_eq_true _ (Classical.propDecidable _) h1]; rfl
theorem oneF_no {l : List Nd} {cs : List Ct} (h1 : ¬ OneP l cs) : oneF l cs = false := by
  unfold oneF; rw [@decide_eq_false _ (Classical.propDecidable _) h1, Bool.and_false]
theorem oneF_bad {l : List Nd} {cs : List Ct} (h : okD l cs = false) : oneF l cs = false := by
  unfold oneF; rw [h]; rfl
theorem oneF_iff {l : List Nd} {cs : List Ct} : oneF l cs = true ↔ okD l cs = true ∧ OneP l cs := by
  unfold oneF
  rw [Bool.and_eq_true, @decide_eq_true_iff _ (Classical.propDecidable _)]
noncomputable def cntK (l : List Nd) (cs : List Ct) (kl : Lit) : Nat := (atK l (treesF l l.length) kl).countP (chB cs)
theorem cntM_key {l : List Nd} (cs : List Ct) (h : RightP l) {j : Int} (hr : radB l j = true) : cntM l cs j = cntK l cs (klF l j) := by
  unfold cntM cntK memF
  rw [if_pos ⟨rightB_yes h, hr⟩]
theorem mem_self {l : List Nd} (h : RightP l) {j : Nat} (hr : radB l j = true) : (j : Int) ∈ memF l j := by
  obtain ⟨j0, j1⟩ := rad_in hr
  have := memF_iff h (id := j) j (by omega)
  rw [hr, Bool.true_and, Bool.true_and, show togB l j j = true by unfold togB; rw [decide_eq_true rfl]; rfl] at this
  exact of_decide_eq_true this
theorem tree_self {l : List Nd} (h : RightP l) {j : Nat} (hr : radB l j = true) : (j : Int) ∈ treesF l l.length := by
  have := mem_self h hr
  unfold memF at this
  rw [if_pos ⟨rightB_yes h, hr⟩] at this
  exact (List.mem_filter.1 this).1
/-- a member of the row at a key -/
theorem atK_mem {l : List Nd} (h : RightP l) {kl : Lit} {c : Int} (hc : c ∈ atK l (treesF l l.length) kl) : 0 ≤ c ∧ c < l.length ∧ radB l c = true ∧ klF l c = kl := by
  obtain ⟨h1, h2⟩ := List.mem_filter.1 hc
  obtain ⟨a, b, d, _⟩ := trees_mem h _ (Nat.le_refl _) c h1
  exact ⟨a, b, d, (isK_iff l kl c).1 h2⟩
theorem one_of_keys {l : List Nd} {cs : List Ct} (h : RightP l) {D : Du} (hD : GInv l (treesF l l.length) D) (hk : ∀ kl, Go.Maps.has D kl = true → cntK l cs kl ≤ 1) : OneP l cs := by
  intro j hj
  cases hr : radB l j
  · unfold cntM memF
    rw [if_neg (fun h => by rw [hr] at h; cases h.2)]
    exact Nat.zero_le _
  · rw [cntM_key cs h hr]
    exact hk _ ((hD.has _).2 ⟨_, tree_self h hr, rfl⟩)
theorem not_one {l : List Nd} {cs : List Ct} (h : RightP l) {kl : Lit} (hk : 1 < cntK l cs kl) : ¬ OneP l cs := by
  intro hO
  have hne : atK l (treesF l l.length) kl ≠ [] := by
    intro e
    unfold cntK at hk
    rw [e] at hk
    simp at hk
  obtain ⟨c, hc⟩ := List.exists_mem_of_ne_nil _ hne
  obtain ⟨c0, c1, hr, hkl⟩ := atK_mem h hc
  obtain ⟨j, rfl⟩ := Int.eq_ofNat_of_zero_le c0
  have := hO j (by omega)
  rw [cntM_key cs h hr, hkl] at this
  omega
/-- the range's step over a map of rows of numbers -/
theorem wpList_next_groups {P : Program} (w : World) {ops : Array Oper} {rest : List Oper} {o : Oper} {a : Act} {Q : Exit → Act → World → Prop}
    (hg : o.guard = none) (it : Operand) (hop : o.op = Op.next it false) (k e : TypeId) (K : Go.Maps.Keyed P k) (wA : World) (base b r n : Nat) (D : Du) (left : Lit → Bool) (cnt : Nat)
    (hit : a.eval it = .pointer (some ⟨r, 0, none⟩)) (h : w.ranges P k (rowElem wA base e .i64) b r n D left cnt)
    (hDone : cnt = 0 → (∀ kl, left kl = false) → wpList P ops Q rest (a.put o.dst (.tuple #[.bool false])) w)
    (hMore : ∀ (x : Value) (ad : Option Addr) (cp : Nat) (zs : List Int) (kl : Lit) (w' : World) (cnt' : Nat), left kl = true → wA.ownsInts base e .i64 (.slice ad zs.length cp) zs → D.atKey kl .nil = rowDatum .i64 (.slice ad zs.length cp) zs → w'.ranges P k (rowElem wA base e .i64) b r n D (fun z => left z && !z.sameKey kl) cnt' → cnt' < cnt →
      w.grownBy w' (some r) → w'.heap.size = w.heap.size → (Instr.entry (.pointer (some ⟨r, 0, none⟩))).run P w' = .ok (.tuple #[x, .slice ad zs.length cp]) w' → wpList P ops Q rest (a.put o.dst (.tuple #[.bool true, x, .slice ad zs.length cp])) w') :
    wpList P ops Q (o :: rest) a w :=
  wpList_next_ranges (α := Value) (β := Option Addr × Nat × Nat) w hg it hop k K (rowElem wA base e .i64) (fun x => x) (fun c => .slice c.1 c.2.1 c.2.2) (fun key kl hkey => ⟨key, rfl⟩)
    (fun v y hv => by
      obtain ⟨zs, ho, _⟩ := rowElem_inv hv
      obtain ⟨ad, cap, rfl, _⟩ := own_form ho.1
      exact ⟨(ad, zs.length, cap), rfl⟩)
    b r n D left cnt hit h hDone (fun x c kl y w' cnt' hkey hlk hv hat hrg hlt hgr hsz hen => by
      obtain ⟨zs, ho, rfl⟩ := rowElem_inv hv
      obtain ⟨ad, cap, e, _⟩ := own_form ho.1
      obtain ⟨c1, c2, c3⟩ := c
      simp only at e hen ho ⊢
      injection e with e1 e2 e3
      subst e1
      subst e2
      subst e3
      exact hMore x _ _ zs kl w' cnt' hlk ho (hat .nil) hrg hlt hgr hsz hen)
theorem groups_map {P : Program} {w : World} {k e : TypeId} {base b n : Nat} {D : Du} (h : w.ownsGroups P k base e .i64 b n D) : w.ownsMap P k (rowElem w base e .i64) b n D := by
  obtain ⟨es, clock, h1, h2, h3, h4, _⟩ := h
  exact ⟨es, clock, h1, h2, h3, h4⟩
theorem ints_ov {w : World} {base : Nat} {e : TypeId} {v : Value} {zs : List Int} (h : w.ownsInts base e .i64 v zs) : OV base e (ints zs) v w := by
  have h1 := h.1
  unfold OV
  rw [ints_len]
  exact h1
theorem count_take {p : Int → Bool} {T : List Int} {k : Nat} (hk : k < T.length) : (T.take (k + 1)).countP p = (T.take k).countP p + if p T[k] = true then 1 else 0 := by
  rw [List.take_succ_eq_append_getElem hk, List.countP_append]
  simp [List.countP_cons]
set_option maxHeartbeats 8000000 in
set_option maxRecDepth 100000 in
theorem grpOne_any (l : List Nd) (cs : List Ct) (vn vc : Value) (w : World) (hD : DocAt l cs vn vc w) :
    Calls Try.prog 39 #[.agg #[vn, vc]] w fun e w' => e = .returned (.bool (oneF l cs)) ∧ Below w.heap.size w w' := by
  have hfit := hD.nodes.fits
  obtain ⟨a1, cap1, rfl⟩ := hD.nodes.nodes.len
  obtain ⟨a2, cap2, rfl⟩ := hD.ctls.len
  obtain ⟨hD1, hb1, hs1, c0, c1⟩ := doc_box (T := 38) hD
  cases hk : okD l cs
  · have hR := Lib.hid (oneF_bad hk)
    have HK := Lib.hid hk
    clear hk
    go_enter Try.func39, Try.ntmps39
    go_wp2_with fail
    refine (optRight_any l cs _ _ _ hD1).mono ?_
    rintro e w2 ⟨rfl, hb2⟩
    rw [HK.out]
    go_wp2_with fail
    go_ret
    exact ⟨ret_bool hR.out.symm, bs hb1 hb2⟩
  have hk2 := hk
  unfold okD at hk2
  rw [Bool.and_eq_true, decide_eq_true_iff] at hk2
  obtain ⟨hrB, hll⟩ := hk2
  have hRP := (rightB_iff l).1 hrB
  have HK := Lib.hid hk
  have Hll := Lib.hid hll
  have hmax := hRP.max
  have hTr := Lib.hid (fun (kl : Lit) c (hc : c ∈ atK l (treesF l l.length) kl) => atK_mem hRP hc)
  have hno := Lib.hid (fun (kl : Lit) (h : 1 < cntK l cs kl) => oneF_no (not_one (l := l) (cs := cs) hRP h))
  have hyes := Lib.hid (fun (D : Du) (hD : GInv l (treesF l l.length) D) (h : ∀ kl, Go.Maps.has D kl = true → cntK l cs kl ≤ 1) => oneF_yes hk (one_of_keys (cs := cs) hRP hD h))
  have hcK := Lib.hid (fun kl => show cntK l cs kl = (atK l (treesF l l.length) kl).countP (chB cs) from rfl)
  have htl := trees_len hRP l.length (Nat.le_refl _)
  clear hk hll
  go_enter Try.func39, Try.ntmps39
  go_wp2_with fail
  generalize World.alloc _ _ = W1 at hD1 hb1 hs1 c0 c1 ⊢
  refine (optRight_any l cs _ _ _ hD1).mono ?_
  rintro e w2 ⟨rfl, hb2⟩
  rw [HK.out]
  have d0 := cellK hb2 (by omega) c0
  have d1 := cellK hb2 (by omega) c1
  have hs2 := hb2.size
  go_wp2_with fail
  refine (groupAll_any l hRP _ _ hfit (hD1.nodes.nodes.kept hb2)).mono ?_
  rintro e w3 ⟨D, rfl, hG, hInv, hb3⟩
  have hb13 := bs hb2 hb3
  have hs3 := hb13.size
  have e1 := cellK hb3 (by omega) d1
  have hCt := hD1.ctls.kept hb13
  have hown := groups_map hG
  obtain ⟨hbl, _⟩ := og_lt hG
  generalize hT : (treesF l l.length).length = nT at *
  go_wp2_with (first
    | (at_range; refine wpList_range_own _ rfl _ 70 rfl 73 28 keyLaw Try.underlying70 _ w2.heap.size nT D rfl hown ?_; intro w4 hrg4 hg4 hs4))
  go_frame
  have hb4 := grown_below hg4
  go_loopw [15] (fun _ wr => ∃ (left : Lit → Bool) (cnt : Nat), wr.ranges Try.prog 73 (rowElem w3 (w2.heap.size + 1) 3 .i64) w2.heap.size w3.heap.size nT D left cnt ∧ Below w3.heap.size w3 wr ∧ Hid (∀ kl, Go.Maps.has D kl = true → left kl = false → cntK l cs kl ≤ 1))
    (fun _ wr => wr.rangeLeft w2.heap.size w3.heap.size)
  case atStart => exact ⟨_, _, hrg4, hb4, Lib.hid (fun kl h1 h2 => by rw [h1] at h2; cases h2)⟩
  case round =>
    obtain ⟨left, cnt, hrg, hbel, hvis⟩ := hrel
    go_wp2_with (first
      | (at_next; refine wpList_next_groups _ rfl _ rfl 73 3 keyLaw w3 (w2.heap.size + 1) w2.heap.size w3.heap.size nT D left cnt rfl hrg ?_ ?_))
    · intro _ hl0
      have hR := Lib.hid (hyes.out D hInv (fun kl h => hvis.out kl h (hl0 kl)))
      go_wp2_with fail
      go_ret
      exact ⟨ret_bool hR.out.symm, (bs hb1 hb13).trans (hbel.mono (by have := (bs hb1 hb13).size; omega))⟩
    · intro x ad cp zs kl w5 cnt5 hlk ho hat hrg5 hlt5 hg5 hs5 hen
      have hzs := hInv.zs ho hat
      have hb5 : Below w3.heap.size wr w5 := (Below.refl _ wr).grown hg5 hbel.size (fun k hk => by cases hk; exact Nat.le_refl _)
      have hb35 : Below w3.heap.size w3 w5 := hbel.trans hb5
      have hov := (ints_ov ho).kept hb35
      have f1 := cellK hb35 (by omega) e1
      have hC5 := hCt.kept hb35
      have hzr := Lib.hid (fun c (hc : c ∈ zs) => by rw [hzs] at hc; exact hTr.out kl c hc)
      have hck := Lib.hid (show cntK l cs kl = zs.countP (chB cs) by rw [hcK.out, hzs])
      have hzl : zs.length ≤ nT := by rw [hzs, ← hT]; exact List.length_filter_le _ _
      have hcl := List.countP_le_length (p := chB cs) (l := zs)
      clear hzs hat ho
      go_wp2_with fail
      go_loopw [5, 21] (fun n i wx => ∃ k : Nat, k ≤ zs.length ∧ i = .int .i64 k ∧ n = .int .i64 (((zs.take k).countP (chB cs) : Nat) : Int) ∧ wx = w5) (fun _ i _ => zs.length - (intOf i).toNat)
      case atStart => exact ⟨0, Nat.zero_le _, rfl, rfl, rfl⟩
      case round =>
        obtain ⟨k, hkz, rfl, rfl, rfl⟩ := hrel
        have hck2 := List.countP_le_length (p := chB cs) (l := zs.take k)
        have htk := List.length_take_le k zs
        by_cases hlt : k < zs.length
        · obtain ⟨q0, q1, _⟩ := hzr.out zs[k] (List.getElem_mem hlt)
          obtain ⟨tg, tgc, hv, _, hcell⟩ := hov.at (by intro e; have := congrArg List.length e; rw [ints_len, List.length_nil] at this; omega)
          rw [ints_len] at hv
          cases hv
          have hcc := hcell k (.int .i64 zs[k]) (by rw [ints, List.getElem?_map, List.getElem?_eq_getElem hlt]; rfl)
          have hnx := Lib.hid (count_take (p := chB cs) hlt)
          have hk0 : (0 : Int) ≤ (k : Int) := by omega
          have hk1 : (k : Int) < (zs.length : Int) := by omega
          generalize zs[k] = c at *
          obtain ⟨q, rfl⟩ := Int.eq_ofNat_of_zero_le q0
          have hqc : q < cs.length := by have := Hll.out; omega
          have hq1 : (q : Int) < (cs.length : Int) := by omega
          obtain ⟨b, o, cap', vf, hv, hb, ⟨_, _, _, t3, _⟩, _⟩ := hC5.at hqc
          cases hv
          rw [chB_at hqc] at hnx
          generalize cs[q] = y at *
          cases hy : y.ch
          · rw [hy] at t3
            have HN := Lib.hid (hnx.out.trans (by rw [hy]; rfl) : (zs.take (k + 1)).countP (chB cs) = (zs.take k).countP (chB cs))
            clear hy hnx
            go_wp2_with fail
            go_roundw
            case rel => exact ⟨k + 1, by omega, by go_num, by rw [HN.out], trivial⟩
            case measure => simp [intOf]; omega
          · rw [hy] at t3
            have HN := Lib.hid (hnx.out.trans (by rw [hy]; rfl) : (zs.take (k + 1)).countP (chB cs) = (zs.take k).countP (chB cs) + 1)
            clear hy hnx
            go_wp2_with fail
            go_roundw
            case rel => exact ⟨k + 1, by omega, by go_num, by rw [HN.out]; go_num, trivial⟩
            case measure => simp [intOf]; omega
        · obtain rfl : k = zs.length := by omega
          rw [List.take_of_length_le (Nat.le_refl _)] at *
          rw [← hck.out] at *
          by_cases h1 : 1 < cntK l cs kl
          · have h1' : decide ((1 : Int) < (cntK l cs kl : Int)) = true := decide_eq_true (by omega)
            have h1'' : (1 : Int) < (cntK l cs kl : Int) := by omega
            have hR := Lib.hid (hno.out kl h1)
            clear h1
            go_wp2_with fail
            go_ret
            exact ⟨ret_bool hR.out.symm, (bs hb1 hb13).trans (hb35.mono (by have := (bs hb1 hb13).size; omega))⟩
          · have h1' : decide ((1 : Int) < (cntK l cs kl : Int)) = false := decide_eq_false (by omega)
            have hv2 := Lib.hid (show ∀ z, Go.Maps.has D z = true → (left z && !z.sameKey kl) = false → cntK l cs z ≤ 1 from fun z hz hlz => by
              cases hls : left z
              · exact hvis.out z hz hls
              · rw [hls, Bool.true_and, Bool.not_eq_false'] at hlz
                rw [WideAt.sameKey_eq hlz]
                omega)
            clear h1
            go_wp2_with fail
            go_roundw
            case rel => exact ⟨_, cnt5, hrg5, hb35, hv2⟩
            case measure => rw [hrg5.left_eq, hrg.left_eq]; exact hlt5
end Go.Proofs.Ytenicjebccdekaa

/-
  OF EACH GROUP AT MOST ONE IS CHECKED, by the document: ref17.One: the walk.
-/
namespace Go.Proofs.Ytenicjebccdekaa
set_option linter.unusedVariables false
set_option linter.unusedSimpArgs false
open Go.RowKit PT

set_option maxHeartbeats 8000000 in
set_option maxRecDepth 100000 in
theorem refOne_any (l : List Nd) (cs : List Ct) (vn vc : Value) (w : World) (hD : DocAt l cs vn vc w) :
    Calls Try.prog 38 #[.agg #[vn, vc]] w fun e w' => e = .returned (.bool (oneF l cs)) ∧ Below w.heap.size w w' := by
  have hfit := hD.nodes.fits
  have hlen := hD.nodes.len
  obtain ⟨a1, cap1, rfl⟩ := hD.nodes.nodes.len
  obtain ⟨a2, cap2, rfl⟩ := hD.ctls.len
  obtain ⟨hD1, hb1, hs1, c0, c1⟩ := doc_box (T := 38) hD
  cases hk : okD l cs
  · have hR := Lib.hid (oneF_bad hk)
    have HK := Lib.hid hk
    clear hk
    go_enter Try.func38, Try.ntmps38
    go_wp2_with fail
    refine (refRight15_any l cs _ _ _ hD1).mono ?_
    rintro e w2 ⟨rfl, hb2⟩
    rw [HK.out]
    go_wp2_with fail
    go_ret
    exact ⟨ret_bool hR.out.symm, bs hb1 hb2⟩
  have hk2 := hk
  unfold okD at hk2
  rw [Bool.and_eq_true, decide_eq_true_iff] at hk2
  obtain ⟨hrB, hll⟩ := hk2
  have hRP := (rightB_iff l).1 hrB
  have HK := Lib.hid hk
  have Hll := Lib.hid hll
  have hmax := hRP.max
  have hno := Lib.hid (fun (j : Nat) (hj : j < l.length) (h : 1 < cntM l cs j) => oneF_no (l := l) (cs := cs) (fun hO => by have := hO j hj; omega))
  have hyes := Lib.hid (fun (h : ∀ j : Nat, j < l.length → cntM l cs j ≤ 1) => oneF_yes hk h)
  have hcM := Lib.hid (fun j : Nat => show cntM l cs j = (memF l j).countP (chB cs) from rfl)
  have hms := Lib.hid (fun (id k : Int) (h : k ∈ memF l id) => mem_same h)
  clear hk hll
  go_enter Try.func38, Try.ntmps38
  go_wp2_with fail
  generalize World.alloc _ _ = W1 at hD1 hb1 hs1 c0 c1 ⊢
  refine (refRight15_any l cs _ _ _ hD1).mono ?_
  rintro e w2 ⟨rfl, hb2⟩
  rw [HK.out]
  go_wp2_with fail
  go_loopw [3] (fun i wr => ∃ k : Nat, k ≤ l.length ∧ i = .int .i64 k ∧ Below W1.heap.size W1 wr ∧ Hid (∀ j : Nat, j < k → cntM l cs j ≤ 1)) (fun i _ => l.length - (intOf i).toNat)
  case atStart => exact ⟨0, Nat.zero_le _, rfl, hb2, Lib.hid (fun j hj => absurd hj (Nat.not_lt_zero _))⟩
  case round =>
    obtain ⟨i, hi, rfl, hbel, hvis⟩ := hrel
    have d0 := cellK hbel (by omega) c0
    have d1 := cellK hbel (by omega) c1
    have hNr := hD1.nodes.nodes.kept hbel
    have hsr := hbel.size
    by_cases hlt : i < l.length
    case neg =>
      obtain rfl : i = l.length := by omega
      have hR := Lib.hid (hyes.out hvis.out)
      go_wp2_with fail
      go_ret
      exact ⟨ret_bool hR.out.symm, bs hb1 hbel⟩
    have hi0 : (0 : Int) ≤ (i : Int) := by omega
    have hi1 : (i : Int) < (l.length : Int) := by omega
    have hml := mem_len (l := l) (i : Nat)
    have hmz := Lib.hid (hms.out (i : Nat))
    have hck := Lib.hid (hcM.out i)
    go_wp2_with fail
    refine (refMembers_any l _ (i : Nat) hlen hfit _ hNr).mono ?_
    generalize memF l (i : Nat) = zs at hml hmz hck ⊢
    rintro e w5 ⟨tv, rfl, hT, hb5⟩
    obtain ⟨ta, tc, rfl, _⟩ := hT.form
    rw [ints_len] at hT ⊢
    have hb15 := bs hbel hb5
    have hcl := List.countP_le_length (p := chB cs) (l := zs)
    go_wp2_with fail
    go_loopw [4, 6] (fun n i wx => ∃ k : Nat, k ≤ zs.length ∧ i = .int .i64 k ∧ n = .int .i64 (((zs.take k).countP (chB cs) : Nat) : Int) ∧ Below w5.heap.size w5 wx) (fun _ i _ => zs.length - (intOf i).toNat)
    case atStart => exact ⟨0, Nat.zero_le _, rfl, rfl, Below.refl _ _⟩
    case round =>
      obtain ⟨k, hkz, rfl, rfl, hbx⟩ := hrel
      have hck2 := List.countP_le_length (p := chB cs) (l := zs.take k)
      have htk := List.length_take_le k zs
      have hb1x := bs hb15 hbx
      have f1 := cellK hb1x (by omega) c1
      by_cases hltk : k < zs.length
      · obtain ⟨_, _, q0, q1⟩ := hmz.out zs[k] (List.getElem_mem hltk)
        obtain ⟨tg, tgc, hv, _, hcell⟩ := (hT.kept hbx).at (by intro e; have := congrArg List.length e; rw [ints_len, List.length_nil] at this; omega)
        rw [ints_len] at hv
        cases hv
        have hcc := hcell k (.int .i64 zs[k]) (by rw [ints, List.getElem?_map, List.getElem?_eq_getElem hltk]; rfl)
        have hnx := Lib.hid (count_take (p := chB cs) hltk)
        have hk0 : (0 : Int) ≤ (k : Int) := by omega
        have hk1 : (k : Int) < (zs.length : Int) := by omega
        generalize zs[k] = c at *
        obtain ⟨q, rfl⟩ := Int.eq_ofNat_of_zero_le q0
        have hqc : q < cs.length := by have := Hll.out; omega
        have hq0 : (0 : Int) ≤ (q : Int) := by omega
        have hq1 : (q : Int) < (cs.length : Int) := by omega
        obtain ⟨b, o, cap', vf, hv, hb, ⟨_, _, _, t3, _⟩, _⟩ := (hD1.ctls.kept hb1x).at hqc
        cases hv
        rw [chB_at hqc] at hnx
        generalize cs[q] = y at *
        cases hy : y.ch
        · rw [hy] at t3
          have HN := Lib.hid (hnx.out.trans (by rw [hy]; rfl) : (zs.take (k + 1)).countP (chB cs) = (zs.take k).countP (chB cs))
          clear hy hnx
          go_wp2_with fail
          go_quiet (fail)
          go_wp2_with fail
          go_roundw
          case rel => exact ⟨k + 1, by omega, by go_num, by rw [HN.out], hbx.trans ((below_draws wr _).mono hbx.size)⟩
          case measure => simp [intOf]; omega
        · rw [hy] at t3
          have HN := Lib.hid (hnx.out.trans (by rw [hy]; rfl) : (zs.take (k + 1)).countP (chB cs) = (zs.take k).countP (chB cs) + 1)
          clear hy hnx
          go_wp2_with fail
          go_quiet (fail)
          go_wp2_with fail
          go_roundw
          case rel => exact ⟨k + 1, by omega, by go_num, by rw [HN.out]; go_num, hbx.trans ((below_draws wr _).mono hbx.size)⟩
          case measure => simp [intOf]; omega
      · obtain rfl : k = zs.length := by omega
        rw [List.take_of_length_le (Nat.le_refl _)] at *
        rw [← hck.out] at *
        by_cases h1 : 1 < cntM l cs i
        · have h1' : decide ((1 : Int) < (cntM l cs i : Int)) = true := decide_eq_true (by omega)
          have h1'' : (1 : Int) < (cntM l cs i : Int) := by omega
          have hR := Lib.hid (hno.out i hlt h1)
          clear h1
          go_wp2_with fail
          go_ret
          exact ⟨ret_bool hR.out.symm, bs hb1 hb1x⟩
        · have h1' : decide ((1 : Int) < (cntM l cs i : Int)) = false := decide_eq_false (by omega)
          have hv2 := Lib.hid (show ∀ j : Nat, j < i + 1 → cntM l cs j ≤ 1 from fun j hj => by
            by_cases e : j = i
            · subst e; omega
            · exact hvis.out j (by omega))
          clear h1
          go_wp2_with fail
          go_roundw
          case rel => exact ⟨i + 1, by omega, by go_num, hb1x, hv2⟩
          case measure => simp [intOf]; omega
end Go.Proofs.Ytenicjebccdekaa
