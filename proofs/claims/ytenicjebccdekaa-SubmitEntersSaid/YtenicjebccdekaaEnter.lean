/-
  WHAT A PERSON's KEY DOES: submit.Enter, ref24.Enter: the walks.
-/
import Derived.Test.YtenicjebccdekaaRefIn
import Derived.Test.YtenicjebccdekaaOwnDis
import Derived.Test.YtenicjebccdekaaRefDis
namespace Go.Proofs.Ytenicjebccdekaa
set_option linter.unusedVariables false
set_option linter.unusedSimpArgs false
open Go.RowKit PT

noncomputable def entP (l : List Nd) (c : Int) : Bool := blocksB (kOf l c)
noncomputable def entN (l : List Nd) (f : Int) : Nat := ((elemsF l f).filter (entP l)).length
noncomputable def entF (l : List Nd) (id : Int) : Int × Int :=
  if FormF l id < 0 ∨ blocksB (kindF l id) = false ∨ disF l id = true then (-1, 0)
  else if 0 ≤ defF l (FormF l id) then (if disF l (defF l (FormF l id)) = true then (-1, 0) else (defF l (FormF l id), 1))
  else if 1 < entN l (FormF l id) then (-1, 0) else (FormF l id, 2)
def entT (p : Int × Int) : Value := .tuple #[.int .i64 p.1, .int .i64 p.2]
theorem Form_in {l : List Nd} {id : Int} (h : ¬ FormF l id < 0) : hasB l id = true := by
  cases e : hasB l id
  · rw [FormF_out e] at h; omega
  · rfl
theorem elem_in {l : List Nd} {j c : Int} (h : c ∈ elemsF l j) : 0 ≤ c ∧ c < l.length := by
  unfold elemsF at h
  obtain ⟨_, _, _, a, b, _⟩ := inF_mem (List.mem_filter.1 h).1
  exact ⟨a, b⟩
set_option maxHeartbeats 8000000 in
set_option maxRecDepth 100000 in
theorem enter_any (l : List Nd) (v : Value) (id : Int) (hl : l.length ≤ 1000000000000000000) (hz : ∀ x ∈ l, Fits x) (w : World) (hU : Nodes l v w) :
    Calls Try.prog 50 #[v, .int .i64 id] w fun e w' => e = .returned (entT (entF l id)) ∧ Below w.heap.size w w' := by
  obtain ⟨a, cap, rfl⟩ := hU.len
  have hE := show entF l id = (if FormF l id < 0 ∨ blocksB (kindF l id) = false ∨ disF l id = true then (-1, 0)
    else if 0 ≤ defF l (FormF l id) then (if disF l (defF l (FormF l id)) = true then (-1, 0) else (defF l (FormF l id), 1))
    else if 1 < entN l (FormF l id) then (-1, 0) else (FormF l id, 2)) from rfl
  by_cases h0 : FormF l id < 0
  · have hR := Lib.hid (hE.trans (if_pos (Or.inl h0)))
    clear hE
    go_enter Try.func50, Try.ntmps50
    go_wp2_with fail
    refine (ownerFormTop_any l _ id hl hz _ hU).mono ?_
    generalize FormF l id = z at h0 ⊢
    rintro e w1 ⟨rfl, hb1⟩
    go_wp2_with fail
    go_ret2
    exact ⟨by rw [hR.out]; rfl, hb1⟩
  have hh := Form_in h0
  obtain ⟨i0, i1, hRP⟩ := (hasB_iff l id).1 hh
  have hmax := hRP.max
  obtain ⟨K, rfl⟩ := Int.eq_ofNat_of_zero_le i0
  have hkl : K < l.length := by omega
  rw [kindF_in i0 i1, kOf_at hkl] at hE
  have hok := (hRP.node K _ (List.getElem?_eq_getElem hkl)).1
  have z1 := one_ats hok
  have z2 := one_vals hok
  have hUK := Lib.hid (fun W hU' => Nodes.at (w := W) (v := .slice a l.length cap) hU' hkl)
  generalize l[K] = x at *
  clear hok hh
  obtain ⟨r0, r1⟩ := kindOf_range x
  have hK0 : (0 : Int) ≤ (K : Int) := by omega
  have hK1 : (K : Int) < (l.length : Int) := by omega
  have hf0 : 0 ≤ FormF l (K : Nat) := by omega
  obtain ⟨F, hF⟩ := Int.eq_ofNat_of_zero_le hf0
  rw [hF] at hE h0
  have HF := Lib.hid hF
  have hF0 : decide ((F : Int) < 0) = false := decide_eq_false h0
  clear hF hf0
  cases hB : blocksB (kindOf x)
  · have HB := Lib.hid hB
    have hR := Lib.hid (hE.trans (if_pos (Or.inr (Or.inl hB))))
    clear hE hB
    go_enter Try.func50, Try.ntmps50
    go_wp2_with fail
    refine (ownerFormTop_any l _ _ hl hz _ hU).mono ?_
    rintro e w1 ⟨rfl, hb1⟩
    rw [HF.out]
    obtain ⟨b, o, cap', va, vk, hv, hb, c0, c1, c2, c3, c4, hat, hks⟩ := hUK.out _ (hU.kept hb1)
    cases hv
    obtain ⟨a1, cap1, rfl⟩ := hat.len
    obtain ⟨a2, cap2, rfl⟩ := hks.len
    go_wp2_with fail
    refine (kindsOf_any x _ _ (by omega) (fun a ha => Nat.le_trans (z2 a ha) (by omega)) _ hat).mono ?_
    rintro e w2 ⟨rfl, hb2⟩
    have hb02 := bs hb1 hb2
    go_wp2_with fail
    refine (kindsBlocks_any _ r0 r1 _).mono ?_
    rintro e w3 ⟨rfl, rfl⟩
    rw [HB.out]
    go_wp2_with fail
    go_ret2
    exact ⟨by rw [hR.out]; rfl, hb02⟩
  have HB := Lib.hid hB
  cases hD : disF l (K : Nat)
  case true =>
    have HD := Lib.hid hD
    have hR := Lib.hid (hE.trans (if_pos (Or.inr (Or.inr hD))))
    clear hE hB hD
    go_enter Try.func50, Try.ntmps50
    go_wp2_with fail
    refine (ownerFormTop_any l _ _ hl hz _ hU).mono ?_
    rintro e w1 ⟨rfl, hb1⟩
    rw [HF.out]
    obtain ⟨b, o, cap', va, vk, hv, hb, c0, c1, c2, c3, c4, hat, hks⟩ := hUK.out _ (hU.kept hb1)
    cases hv
    obtain ⟨a1, cap1, rfl⟩ := hat.len
    obtain ⟨a2, cap2, rfl⟩ := hks.len
    go_wp2_with fail
    refine (kindsOf_any x _ _ (by omega) (fun a ha => Nat.le_trans (z2 a ha) (by omega)) _ hat).mono ?_
    rintro e w2 ⟨rfl, hb2⟩
    have hb02 := bs hb1 hb2
    go_wp2_with fail
    refine (kindsBlocks_any _ r0 r1 _).mono ?_
    rintro e w3 ⟨rfl, rfl⟩
    rw [HB.out]
    go_wp2_with fail
    refine (disabled_any l _ _ hl hz hRP.vals _ (hU.kept hb02)).mono ?_
    rintro e w4 ⟨rfl, hb4⟩
    rw [HD.out]
    have hb04 := bs hb02 hb4
    go_wp2_with fail
    go_ret2
    exact ⟨by rw [hR.out]; rfl, hb04⟩
  have HD := Lib.hid hD
  rw [if_neg (fun h => h.elim h0 (fun h => h.elim (fun h => by rw [hB] at h; cases h) (fun h => by rw [hD] at h; cases h)))] at hE
  clear hB hD
  by_cases hd : 0 ≤ defF l (F : Nat)
  · rw [if_pos hd] at hE
    obtain ⟨B, hBe⟩ := Int.eq_ofNat_of_zero_le hd
    rw [hBe] at hE
    have HDe := Lib.hid hBe
    clear hd hBe
    cases hx : disF l (B : Nat)
    · have HX := Lib.hid hx
      have hR := Lib.hid (hE.trans (if_neg (by rw [hx]; exact Bool.false_ne_true)))
      clear hE hx
      go_enter Try.func50, Try.ntmps50
      go_wp2_with fail
      refine (ownerFormTop_any l _ _ hl hz _ hU).mono ?_
      rintro e w1 ⟨rfl, hb1⟩
      rw [HF.out]
      obtain ⟨b, o, cap', va, vk, hv, hb, c0, c1, c2, c3, c4, hat, hks⟩ := hUK.out _ (hU.kept hb1)
      cases hv
      obtain ⟨a1, cap1, rfl⟩ := hat.len
      obtain ⟨a2, cap2, rfl⟩ := hks.len
      go_wp2_with fail
      refine (kindsOf_any x _ _ (by omega) (fun a ha => Nat.le_trans (z2 a ha) (by omega)) _ hat).mono ?_
      rintro e w2 ⟨rfl, hb2⟩
      have hb02 := bs hb1 hb2
      go_wp2_with fail
      refine (kindsBlocks_any _ r0 r1 _).mono ?_
      rintro e w3 ⟨rfl, rfl⟩
      rw [HB.out]
      go_wp2_with fail
      refine (disabled_any l _ _ hl hz hRP.vals _ (hU.kept hb02)).mono ?_
      rintro e w4 ⟨rfl, hb4⟩
      rw [HD.out]
      have hb04 := bs hb02 hb4
      go_wp2_with fail
      refine (default_any l _ _ hl hz _ (hU.kept hb04)).mono ?_
      rintro e w5 ⟨rfl, hb5⟩
      rw [HDe.out]
      have hb05 := bs hb04 hb5
      go_wp2_with fail
      refine (disabled_any l _ _ hl hz hRP.vals _ (hU.kept hb05)).mono ?_
      rintro e w6 ⟨rfl, hb6⟩
      rw [HX.out]
      go_wp2_with fail
      go_ret2
      exact ⟨by rw [hR.out]; rfl, bs hb05 hb6⟩
    · have HX := Lib.hid hx
      have hR := Lib.hid (hE.trans (if_pos hx))
      clear hE hx
      go_enter Try.func50, Try.ntmps50
      go_wp2_with fail
      refine (ownerFormTop_any l _ _ hl hz _ hU).mono ?_
      rintro e w1 ⟨rfl, hb1⟩
      rw [HF.out]
      obtain ⟨b, o, cap', va, vk, hv, hb, c0, c1, c2, c3, c4, hat, hks⟩ := hUK.out _ (hU.kept hb1)
      cases hv
      obtain ⟨a1, cap1, rfl⟩ := hat.len
      obtain ⟨a2, cap2, rfl⟩ := hks.len
      go_wp2_with fail
      refine (kindsOf_any x _ _ (by omega) (fun a ha => Nat.le_trans (z2 a ha) (by omega)) _ hat).mono ?_
      rintro e w2 ⟨rfl, hb2⟩
      have hb02 := bs hb1 hb2
      go_wp2_with fail
      refine (kindsBlocks_any _ r0 r1 _).mono ?_
      rintro e w3 ⟨rfl, rfl⟩
      rw [HB.out]
      go_wp2_with fail
      refine (disabled_any l _ _ hl hz hRP.vals _ (hU.kept hb02)).mono ?_
      rintro e w4 ⟨rfl, hb4⟩
      rw [HD.out]
      have hb04 := bs hb02 hb4
      go_wp2_with fail
      refine (default_any l _ _ hl hz _ (hU.kept hb04)).mono ?_
      rintro e w5 ⟨rfl, hb5⟩
      rw [HDe.out]
      have hb05 := bs hb04 hb5
      go_wp2_with fail
      refine (disabled_any l _ _ hl hz hRP.vals _ (hU.kept hb05)).mono ?_
      rintro e w6 ⟨rfl, hb6⟩
      rw [HX.out]
      go_wp2_with fail
      go_ret2
      exact ⟨by rw [hR.out]; rfl, bs hb05 hb6⟩
  rw [if_neg hd] at hE
  have HDe := Lib.hid (show decide (0 ≤ defF l (F : Nat)) = false from decide_eq_false hd)
  have hNe := Lib.hid (show entN l (F : Nat) = ((elemsF l (F : Nat)).filter (entP l)).length from rfl)
  have hel : (elemsF l (F : Nat)).length ≤ 400 := Nat.le_trans (List.length_filter_le _ _) (Nat.le_trans (inF_len _) hmax)
  have hmem := Lib.hid (fun c (h : c ∈ elemsF l (F : Nat)) => elem_in h)
  have hPe := Lib.hid (fun c => show entP l c = blocksB (kOf l c) from rfl)
  have hE := Lib.hid hE
  clear hd
  go_enter Try.func50, Try.ntmps50
  go_wp2_with fail
  refine (ownerFormTop_any l _ _ hl hz _ hU).mono ?_
  rintro e w1 ⟨rfl, hb1⟩
  rw [HF.out]
  obtain ⟨b, o, cap', va, vk, hv, hb, c0, c1, c2, c3, c4, hat, hks⟩ := hUK.out _ (hU.kept hb1)
  cases hv
  obtain ⟨a1, cap1, rfl⟩ := hat.len
  obtain ⟨a2, cap2, rfl⟩ := hks.len
  go_wp2_with fail
  refine (kindsOf_any x _ _ (by omega) (fun a ha => Nat.le_trans (z2 a ha) (by omega)) _ hat).mono ?_
  rintro e w2 ⟨rfl, hb2⟩
  have hb02 := bs hb1 hb2
  go_wp2_with fail
  refine (kindsBlocks_any _ r0 r1 _).mono ?_
  rintro e w3 ⟨rfl, rfl⟩
  rw [HB.out]
  go_wp2_with fail
  refine (disabled_any l _ _ hl hz hRP.vals _ (hU.kept hb02)).mono ?_
  rintro e w4 ⟨rfl, hb4⟩
  rw [HD.out]
  have hb04 := bs hb02 hb4
  go_wp2_with fail
  refine (default_any l _ _ hl hz _ (hU.kept hb04)).mono ?_
  have hdq := HDe.out
  generalize defF l (F : Nat) = z at hdq ⊢
  rintro e w5 ⟨rfl, hb5⟩
  have hb05 := bs hb04 hb5
  go_wp2_with fail
  refine (elements_any l _ _ hl hz _ (hU.kept hb05)).mono ?_
  generalize elemsF l (F : Nat) = I at hNe hel hmem ⊢
  rintro e w6 ⟨vo, rfl, hov, hb6⟩
  have hb06 := bs hb05 hb6
  obtain ⟨a5, c5, rfl, _⟩ := hov.form
  rw [ints_len] at hov ⊢
  clear hdq hb c0 c1 c2 c3 c4 hat hks
  go_wp2_with fail
  go_loopw [8, 43] (fun n i wr => ∃ k : Nat, k ≤ I.length ∧ i = .int .i64 k ∧ n = .int .i64 (((I.take k).filter (entP l)).length : Nat) ∧ Below w6.heap.size w6 wr) (fun _ i _ => I.length - (intOf i).toNat)
  case atStart => exact ⟨0, Nat.zero_le _, rfl, rfl, Below.refl _ _⟩
  case round =>
    obtain ⟨k, hk, rfl, rfl, hbel⟩ := hrel
    have hb0r := hb06.trans (hbel.mono hb06.size)
    have hfl : ((I.take k).filter (entP l)).length ≤ k := Nat.le_trans (List.length_filter_le _ _) (List.length_take_le _ _)
    by_cases hlt : k < I.length
    · obtain ⟨g, gc, hv, _, hcell⟩ := (hov.kept hbel).at (by intro e; have := congrArg List.length e; rw [ints_len, List.length_nil] at this; omega)
      rw [ints_len] at hv
      cases hv
      have hcc := hcell k (.int .i64 I[k]) (by rw [ints, List.getElem?_map, List.getElem?_eq_getElem hlt]; rfl)
      obtain ⟨d0, d1⟩ := hmem.out I[k] (List.getElem_mem hlt)
      have hfs := Lib.hid (filter_snoc (p := entP l) hlt)
      have hk0 : (0 : Int) ≤ (k : Int) := by omega
      have hk1 : (k : Int) < (I.length : Int) := by omega
      generalize I[k] = c at *
      obtain ⟨q, rfl⟩ := Int.eq_ofNat_of_zero_le d0
      have hq : q < l.length := by omega
      have hp := hPe.out (q : Int)
      rw [kOf_at hq] at hp
      have hok := (hRP.node q _ (List.getElem?_eq_getElem hq)).1
      have y1 := one_ats hok
      have y2 := one_vals hok
      obtain ⟨b7, o7, cap7, va7, vk7, hv, hb7, g0, g1, g2, g3, g4, hat7, hks7⟩ := (hU.kept hb0r).at hq
      cases hv
      generalize l[q] = y at *
      clear hok
      obtain ⟨s0, s1⟩ := kindOf_range y
      obtain ⟨a3, cap3, rfl⟩ := hat7.len
      obtain ⟨a4, cap4, rfl⟩ := hks7.len
      have hn0 : (0 : Int) ≤ (((I.take k).filter (entP l)).length : Int) := by omega
      cases hY : blocksB (kindOf y)
      · have HY := Lib.hid hY
        have hN := Lib.hid (show ((I.take (k + 1)).filter (entP l)).length = ((I.take k).filter (entP l)).length by rw [hfs.out, hp, hY]; simp)
        clear hp hY
        generalize ((I.take k).filter (entP l)).length = n at *
        go_wp2_with fail
        refine (kindsOf_any y _ _ (by omega) (fun a ha => Nat.le_trans (y2 a ha) (by omega)) _ hat7).mono ?_
        rintro e w7 ⟨rfl, hb7b⟩
        go_wp2_with fail
        refine (kindsBlocks_any _ s0 s1 _).mono ?_
        rintro e w8 ⟨rfl, rfl⟩
        rw [HY.out]
        go_wp2_with fail
        go_roundw
        case rel => exact ⟨k + 1, by omega, by go_num, by rw [hN.out], bs hbel hb7b⟩
        case measure => simp [intOf]; omega
      · have HY := Lib.hid hY
        have hN := Lib.hid (show ((I.take (k + 1)).filter (entP l)).length = ((I.take k).filter (entP l)).length + 1 by rw [hfs.out, hp, hY]; simp)
        clear hp hY
        generalize ((I.take k).filter (entP l)).length = n at *
        have hnn : (n : Int) ≤ 1000 := by omega
        go_wp2_with fail
        refine (kindsOf_any y _ _ (by omega) (fun a ha => Nat.le_trans (y2 a ha) (by omega)) _ hat7).mono ?_
        rintro e w7 ⟨rfl, hb7b⟩
        go_wp2_with fail
        refine (kindsBlocks_any _ s0 s1 _).mono ?_
        rintro e w8 ⟨rfl, rfl⟩
        rw [HY.out]
        go_wp2_with fail
        go_roundw
        case rel => exact ⟨k + 1, by omega, by go_num, by rw [hN.out]; go_num, bs hbel hb7b⟩
        case measure => simp [intOf]; omega
    · obtain rfl : k = I.length := by omega
      rw [List.take_of_length_le (Nat.le_refl _)] at hfl ⊢
      have hE9 := hE.out
      rw [hNe.out] at hE9
      generalize (I.filter (entP l)).length = n at *
      by_cases hn : 1 < n
      · have hR := Lib.hid (hE9.trans (if_pos hn))
        have q1 : (1 : Int) < (n : Int) := by omega
        have q2 : decide ((n : Int) ≤ 1) = false := decide_eq_false (by omega)
        have q3 : decide (n ≤ 1) = false := decide_eq_false (by omega)
        clear hE9
        go_wp2_with fail
        go_ret2
        exact ⟨by rw [hR.out]; rfl, hb0r⟩
      · have hR := Lib.hid (hE9.trans (if_neg hn))
        have q1 : decide ((1 : Int) < (n : Int)) = false := decide_eq_false (by omega)
        have q2 : (n : Int) ≤ 1 := by omega
        have q3 : n ≤ 1 := by omega
        have q4 : decide (1 < n) = false := decide_eq_false (by omega)
        clear hE9
        go_wp2_with fail
        go_ret2
        exact ⟨by rw [hR.out]; rfl, hb0r⟩
set_option maxHeartbeats 8000000 in
set_option maxRecDepth 100000 in
theorem refEnter_any (l : List Nd) (v : Value) (id : Int) (hl : l.length ≤ 1000000000000000000) (hz : ∀ x ∈ l, Fits x) (w : World) (hU : Nodes l v w) :
    Calls Try.prog 51 #[v, .int .i64 id] w fun e w' => e = .returned (entT (entF l id)) ∧ Below w.heap.size w w' := by
  obtain ⟨a, cap, rfl⟩ := hU.len
  have hE := show entF l id = (if FormF l id < 0 ∨ blocksB (kindF l id) = false ∨ disF l id = true then (-1, 0)
    else if 0 ≤ defF l (FormF l id) then (if disF l (defF l (FormF l id)) = true then (-1, 0) else (defF l (FormF l id), 1))
    else if 1 < entN l (FormF l id) then (-1, 0) else (FormF l id, 2)) from rfl
  by_cases h0 : FormF l id < 0
  · have hR := Lib.hid (hE.trans (if_pos (Or.inl h0)))
    clear hE
    go_enter Try.func51, Try.ntmps51
    go_wp2_with fail
    refine (refForm_any l _ id hl hz _ hU).mono ?_
    generalize FormF l id = z at h0 ⊢
    rintro e w1 ⟨rfl, hb1⟩
    go_wp2_with fail
    go_ret2
    exact ⟨by rw [hR.out]; rfl, hb1⟩
  have hh := Form_in h0
  obtain ⟨i0, i1, hRP⟩ := (hasB_iff l id).1 hh
  have hmax := hRP.max
  obtain ⟨K, rfl⟩ := Int.eq_ofNat_of_zero_le i0
  have hkl : K < l.length := by omega
  rw [kindF_in i0 i1, kOf_at hkl] at hE
  have hok := (hRP.node K _ (List.getElem?_eq_getElem hkl)).1
  have z1 := one_ats hok
  have z2 := one_vals hok
  have hUK := Lib.hid (fun W hU' => Nodes.at (w := W) (v := .slice a l.length cap) hU' hkl)
  generalize l[K] = x at *
  clear hok hh
  obtain ⟨r0, r1⟩ := kindOf_range x
  have hK0 : (0 : Int) ≤ (K : Int) := by omega
  have hK1 : (K : Int) < (l.length : Int) := by omega
  have hf0 : 0 ≤ FormF l (K : Nat) := by omega
  obtain ⟨F, hF⟩ := Int.eq_ofNat_of_zero_le hf0
  rw [hF] at hE h0
  have HF := Lib.hid hF
  have hF0 : decide ((F : Int) < 0) = false := decide_eq_false h0
  clear hF hf0
  cases hB : blocksB (kindOf x)
  · have HB := Lib.hid hB
    have hR := Lib.hid (hE.trans (if_pos (Or.inr (Or.inl hB))))
    clear hE hB
    go_enter Try.func51, Try.ntmps51
    go_wp2_with fail
    refine (refForm_any l _ _ hl hz _ hU).mono ?_
    rintro e w1 ⟨rfl, hb1⟩
    rw [HF.out]
    obtain ⟨b, o, cap', va, vk, hv, hb, c0, c1, c2, c3, c4, hat, hks⟩ := hUK.out _ (hU.kept hb1)
    cases hv
    obtain ⟨a1, cap1, rfl⟩ := hat.len
    obtain ⟨a2, cap2, rfl⟩ := hks.len
    go_wp2_with fail
    refine (refOf11_any x _ _ (by omega) (fun a ha => Nat.le_trans (z2 a ha) (by omega)) _ hat).mono ?_
    rintro e w2 ⟨rfl, hb2⟩
    have hb02 := bs hb1 hb2
    go_wp2_with fail
    refine (refIs6_any _ r0 r1 _).mono ?_
    rintro e w3 ⟨rfl, rfl⟩
    rw [HB.out]
    go_wp2_with fail
    go_ret2
    exact ⟨by rw [hR.out]; rfl, hb02⟩
  have HB := Lib.hid hB
  cases hD : disF l (K : Nat)
  case true =>
    have HD := Lib.hid hD
    have hR := Lib.hid (hE.trans (if_pos (Or.inr (Or.inr hD))))
    clear hE hB hD
    go_enter Try.func51, Try.ntmps51
    go_wp2_with fail
    refine (refForm_any l _ _ hl hz _ hU).mono ?_
    rintro e w1 ⟨rfl, hb1⟩
    rw [HF.out]
    obtain ⟨b, o, cap', va, vk, hv, hb, c0, c1, c2, c3, c4, hat, hks⟩ := hUK.out _ (hU.kept hb1)
    cases hv
    obtain ⟨a1, cap1, rfl⟩ := hat.len
    obtain ⟨a2, cap2, rfl⟩ := hks.len
    go_wp2_with fail
    refine (refOf11_any x _ _ (by omega) (fun a ha => Nat.le_trans (z2 a ha) (by omega)) _ hat).mono ?_
    rintro e w2 ⟨rfl, hb2⟩
    have hb02 := bs hb1 hb2
    go_wp2_with fail
    refine (refIs6_any _ r0 r1 _).mono ?_
    rintro e w3 ⟨rfl, rfl⟩
    rw [HB.out]
    go_wp2_with fail
    refine (refDisabled_any l _ _ hl hz _ (hU.kept hb02)).mono ?_
    rintro e w4 ⟨rfl, hb4⟩
    rw [HD.out]
    have hb04 := bs hb02 hb4
    go_wp2_with fail
    go_ret2
    exact ⟨by rw [hR.out]; rfl, hb04⟩
  have HD := Lib.hid hD
  rw [if_neg (fun h => h.elim h0 (fun h => h.elim (fun h => by rw [hB] at h; cases h) (fun h => by rw [hD] at h; cases h)))] at hE
  clear hB hD
  by_cases hd : 0 ≤ defF l (F : Nat)
  · rw [if_pos hd] at hE
    obtain ⟨B, hBe⟩ := Int.eq_ofNat_of_zero_le hd
    rw [hBe] at hE
    have HDe := Lib.hid hBe
    clear hd hBe
    cases hx : disF l (B : Nat)
    · have HX := Lib.hid hx
      have hR := Lib.hid (hE.trans (if_neg (by rw [hx]; exact Bool.false_ne_true)))
      clear hE hx
      go_enter Try.func51, Try.ntmps51
      go_wp2_with fail
      refine (refForm_any l _ _ hl hz _ hU).mono ?_
      rintro e w1 ⟨rfl, hb1⟩
      rw [HF.out]
      obtain ⟨b, o, cap', va, vk, hv, hb, c0, c1, c2, c3, c4, hat, hks⟩ := hUK.out _ (hU.kept hb1)
      cases hv
      obtain ⟨a1, cap1, rfl⟩ := hat.len
      obtain ⟨a2, cap2, rfl⟩ := hks.len
      go_wp2_with fail
      refine (refOf11_any x _ _ (by omega) (fun a ha => Nat.le_trans (z2 a ha) (by omega)) _ hat).mono ?_
      rintro e w2 ⟨rfl, hb2⟩
      have hb02 := bs hb1 hb2
      go_wp2_with fail
      refine (refIs6_any _ r0 r1 _).mono ?_
      rintro e w3 ⟨rfl, rfl⟩
      rw [HB.out]
      go_wp2_with fail
      refine (refDisabled_any l _ _ hl hz _ (hU.kept hb02)).mono ?_
      rintro e w4 ⟨rfl, hb4⟩
      rw [HD.out]
      have hb04 := bs hb02 hb4
      go_wp2_with fail
      refine (refDefault_any l _ _ hl hz _ (hU.kept hb04)).mono ?_
      rintro e w5 ⟨rfl, hb5⟩
      rw [HDe.out]
      have hb05 := bs hb04 hb5
      go_wp2_with fail
      refine (refDisabled_any l _ _ hl hz _ (hU.kept hb05)).mono ?_
      rintro e w6 ⟨rfl, hb6⟩
      rw [HX.out]
      go_wp2_with fail
      go_ret2
      exact ⟨by rw [hR.out]; rfl, bs hb05 hb6⟩
    · have HX := Lib.hid hx
      have hR := Lib.hid (hE.trans (if_pos hx))
      clear hE hx
      go_enter Try.func51, Try.ntmps51
      go_wp2_with fail
      refine (refForm_any l _ _ hl hz _ hU).mono ?_
      rintro e w1 ⟨rfl, hb1⟩
      rw [HF.out]
      obtain ⟨b, o, cap', va, vk, hv, hb, c0, c1, c2, c3, c4, hat, hks⟩ := hUK.out _ (hU.kept hb1)
      cases hv
      obtain ⟨a1, cap1, rfl⟩ := hat.len
      obtain ⟨a2, cap2, rfl⟩ := hks.len
      go_wp2_with fail
      refine (refOf11_any x _ _ (by omega) (fun a ha => Nat.le_trans (z2 a ha) (by omega)) _ hat).mono ?_
      rintro e w2 ⟨rfl, hb2⟩
      have hb02 := bs hb1 hb2
      go_wp2_with fail
      refine (refIs6_any _ r0 r1 _).mono ?_
      rintro e w3 ⟨rfl, rfl⟩
      rw [HB.out]
      go_wp2_with fail
      refine (refDisabled_any l _ _ hl hz _ (hU.kept hb02)).mono ?_
      rintro e w4 ⟨rfl, hb4⟩
      rw [HD.out]
      have hb04 := bs hb02 hb4
      go_wp2_with fail
      refine (refDefault_any l _ _ hl hz _ (hU.kept hb04)).mono ?_
      rintro e w5 ⟨rfl, hb5⟩
      rw [HDe.out]
      have hb05 := bs hb04 hb5
      go_wp2_with fail
      refine (refDisabled_any l _ _ hl hz _ (hU.kept hb05)).mono ?_
      rintro e w6 ⟨rfl, hb6⟩
      rw [HX.out]
      go_wp2_with fail
      go_ret2
      exact ⟨by rw [hR.out]; rfl, bs hb05 hb6⟩
  rw [if_neg hd] at hE
  have HDe := Lib.hid (show decide (0 ≤ defF l (F : Nat)) = false from decide_eq_false hd)
  have hNe := Lib.hid (show entN l (F : Nat) = ((elemsF l (F : Nat)).filter (entP l)).length from rfl)
  have hel : (elemsF l (F : Nat)).length ≤ 400 := Nat.le_trans (List.length_filter_le _ _) (Nat.le_trans (inF_len _) hmax)
  have hmem := Lib.hid (fun c (h : c ∈ elemsF l (F : Nat)) => elem_in h)
  have hPe := Lib.hid (fun c => show entP l c = blocksB (kOf l c) from rfl)
  have hE := Lib.hid hE
  clear hd
  go_enter Try.func51, Try.ntmps51
  go_wp2_with fail
  refine (refForm_any l _ _ hl hz _ hU).mono ?_
  rintro e w1 ⟨rfl, hb1⟩
  rw [HF.out]
  obtain ⟨b, o, cap', va, vk, hv, hb, c0, c1, c2, c3, c4, hat, hks⟩ := hUK.out _ (hU.kept hb1)
  cases hv
  obtain ⟨a1, cap1, rfl⟩ := hat.len
  obtain ⟨a2, cap2, rfl⟩ := hks.len
  go_wp2_with fail
  refine (refOf11_any x _ _ (by omega) (fun a ha => Nat.le_trans (z2 a ha) (by omega)) _ hat).mono ?_
  rintro e w2 ⟨rfl, hb2⟩
  have hb02 := bs hb1 hb2
  go_wp2_with fail
  refine (refIs6_any _ r0 r1 _).mono ?_
  rintro e w3 ⟨rfl, rfl⟩
  rw [HB.out]
  go_wp2_with fail
  refine (refDisabled_any l _ _ hl hz _ (hU.kept hb02)).mono ?_
  rintro e w4 ⟨rfl, hb4⟩
  rw [HD.out]
  have hb04 := bs hb02 hb4
  go_wp2_with fail
  refine (refDefault_any l _ _ hl hz _ (hU.kept hb04)).mono ?_
  have hdq := HDe.out
  generalize defF l (F : Nat) = z at hdq ⊢
  rintro e w5 ⟨rfl, hb5⟩
  have hb05 := bs hb04 hb5
  go_wp2_with fail
  refine (refElements_any l _ _ hl hz _ (hU.kept hb05)).mono ?_
  generalize elemsF l (F : Nat) = I at hNe hel hmem ⊢
  rintro e w6 ⟨vo, rfl, hov, hb6⟩
  have hb06 := bs hb05 hb6
  obtain ⟨a5, c5, rfl, _⟩ := hov.form
  rw [ints_len] at hov ⊢
  clear hdq hb c0 c1 c2 c3 c4 hat hks
  go_wp2_with fail
  go_loopw [8, 10] (fun n i wr => ∃ k : Nat, k ≤ I.length ∧ i = .int .i64 k ∧ n = .int .i64 (((I.take k).filter (entP l)).length : Nat) ∧ Below w6.heap.size w6 wr) (fun _ i _ => I.length - (intOf i).toNat)
  case atStart => exact ⟨0, Nat.zero_le _, rfl, rfl, Below.refl _ _⟩
  case round =>
    obtain ⟨k, hk, rfl, rfl, hbel⟩ := hrel
    have hb0r := hb06.trans (hbel.mono hb06.size)
    have hfl : ((I.take k).filter (entP l)).length ≤ k := Nat.le_trans (List.length_filter_le _ _) (List.length_take_le _ _)
    by_cases hlt : k < I.length
    · obtain ⟨g, gc, hv, _, hcell⟩ := (hov.kept hbel).at (by intro e; have := congrArg List.length e; rw [ints_len, List.length_nil] at this; omega)
      rw [ints_len] at hv
      cases hv
      have hcc := hcell k (.int .i64 I[k]) (by rw [ints, List.getElem?_map, List.getElem?_eq_getElem hlt]; rfl)
      obtain ⟨d0, d1⟩ := hmem.out I[k] (List.getElem_mem hlt)
      have hfs := Lib.hid (filter_snoc (p := entP l) hlt)
      have hk0 : (0 : Int) ≤ (k : Int) := by omega
      have hk1 : (k : Int) < (I.length : Int) := by omega
      generalize I[k] = c at *
      obtain ⟨q, rfl⟩ := Int.eq_ofNat_of_zero_le d0
      have hq : q < l.length := by omega
      have hp := hPe.out (q : Int)
      rw [kOf_at hq] at hp
      have hok := (hRP.node q _ (List.getElem?_eq_getElem hq)).1
      have y1 := one_ats hok
      have y2 := one_vals hok
      obtain ⟨b7, o7, cap7, va7, vk7, hv, hb7, g0, g1, g2, g3, g4, hat7, hks7⟩ := (hU.kept hb0r).at hq
      cases hv
      generalize l[q] = y at *
      clear hok
      obtain ⟨s0, s1⟩ := kindOf_range y
      obtain ⟨a3, cap3, rfl⟩ := hat7.len
      obtain ⟨a4, cap4, rfl⟩ := hks7.len
      have hn0 : (0 : Int) ≤ (((I.take k).filter (entP l)).length : Int) := by omega
      cases hY : blocksB (kindOf y)
      · have HY := Lib.hid hY
        have hN := Lib.hid (show ((I.take (k + 1)).filter (entP l)).length = ((I.take k).filter (entP l)).length by rw [hfs.out, hp, hY]; simp)
        clear hp hY
        generalize ((I.take k).filter (entP l)).length = n at *
        go_wp2_with fail
        refine (refOf11_any y _ _ (by omega) (fun a ha => Nat.le_trans (y2 a ha) (by omega)) _ hat7).mono ?_
        rintro e w7 ⟨rfl, hb7b⟩
        go_wp2_with fail
        refine (refIs6_any _ s0 s1 _).mono ?_
        rintro e w8 ⟨rfl, rfl⟩
        rw [HY.out]
        go_wp2_with fail
        go_roundw
        case rel => exact ⟨k + 1, by omega, by go_num, by rw [hN.out], bs hbel hb7b⟩
        case measure => simp [intOf]; omega
      · have HY := Lib.hid hY
        have hN := Lib.hid (show ((I.take (k + 1)).filter (entP l)).length = ((I.take k).filter (entP l)).length + 1 by rw [hfs.out, hp, hY]; simp)
        clear hp hY
        generalize ((I.take k).filter (entP l)).length = n at *
        have hnn : (n : Int) ≤ 1000 := by omega
        go_wp2_with fail
        refine (refOf11_any y _ _ (by omega) (fun a ha => Nat.le_trans (y2 a ha) (by omega)) _ hat7).mono ?_
        rintro e w7 ⟨rfl, hb7b⟩
        go_wp2_with fail
        refine (refIs6_any _ s0 s1 _).mono ?_
        rintro e w8 ⟨rfl, rfl⟩
        rw [HY.out]
        go_wp2_with fail
        go_roundw
        case rel => exact ⟨k + 1, by omega, by go_num, by rw [hN.out]; go_num, bs hbel hb7b⟩
        case measure => simp [intOf]; omega
    · obtain rfl : k = I.length := by omega
      rw [List.take_of_length_le (Nat.le_refl _)] at hfl ⊢
      have hE9 := hE.out
      rw [hNe.out] at hE9
      generalize (I.filter (entP l)).length = n at *
      by_cases hn : 1 < n
      · have hR := Lib.hid (hE9.trans (if_pos hn))
        have q1 : (1 : Int) < (n : Int) := by omega
        have q2 : decide ((n : Int) ≤ 1) = false := decide_eq_false (by omega)
        have q3 : decide (n ≤ 1) = false := decide_eq_false (by omega)
        clear hE9
        go_wp2_with fail
        go_ret2
        exact ⟨by rw [hR.out]; rfl, hb0r⟩
      · have hR := Lib.hid (hE9.trans (if_neg hn))
        have q1 : decide ((1 : Int) < (n : Int)) = false := decide_eq_false (by omega)
        have q2 : (n : Int) ≤ 1 := by omega
        have q3 : n ≤ 1 := by omega
        have q4 : decide (1 < n) = false := decide_eq_false (by omega)
        clear hE9
        go_wp2_with fail
        go_ret2
        exact ⟨by rw [hR.out]; rfl, hb0r⟩
end Go.Proofs.Ytenicjebccdekaa
