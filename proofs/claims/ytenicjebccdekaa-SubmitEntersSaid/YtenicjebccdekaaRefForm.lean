/-
  A CONTROL's ⟨#[102, 111, 114, 109]⟩ by the document: ref16.Form: the walk.
-/
import Derived.Test.YtenicjebccdekaaOwnForm
import Derived.Test.YtenicjebccdekaaRefByID
namespace Go.Proofs.Ytenicjebccdekaa
set_option linter.unusedVariables false
set_option linter.unusedSimpArgs false
open Go.RowKit PT

theorem form_toList : (⟨#[102, 111, 114, 109]⟩ : ByteArray).toList = [102, 111, 114, 109] := by rw [ByteArray.toList_eq]
theorem otK_form (nm : ByteArray) : otK nm = 30 ↔ nm = ⟨#[102, 111, 114, 109]⟩ := by
  constructor
  · intro h
    unfold otK at h
    split at h
    · omega
    · rename_i i hi
      have h2 : i = 2 := by omega
      subst h2
      obtain ⟨hl, he, _⟩ := List.findIdx?_eq_some_iff_getElem.1 hi
      exact (of_decide_eq_true he).symm
  · rintro rfl
    rfl
theorem kind_form (x : Nd) : kindOf x = 30 ↔ x.nm = ⟨#[102, 111, 114, 109]⟩ := by
  have h1 := tyK_range (tyOf x)
  have hb : 25 ≤ btK (tyOf x) ∧ btK (tyOf x) ≤ 27 := by
    unfold btK; split
    · omega
    · split <;> omega
  have hne : ∀ {a : ByteArray}, x.nm = a → a ≠ ⟨#[102, 111, 114, 109]⟩ → ¬ x.nm = ⟨#[102, 111, 114, 109]⟩ := fun h h2 h3 => h2 (h.symm.trans h3)
  unfold kindOf
  split
  · rename_i h
    exact ⟨fun e => by omega, fun e => absurd e (hne h (by decide))⟩
  · split
    · rename_i h
      exact ⟨fun e => by omega, fun e => absurd e (hne h (by decide))⟩
    · split
      · rename_i h
        exact ⟨fun e => by omega, fun e => absurd e (hne h (by decide))⟩
      · split
        · rename_i h
          exact ⟨fun e => by omega, fun e => absurd e (hne h (by decide))⟩
        · exact otK_form x.nm
theorem kindF_form {l : List Nd} {f : Int} (h0 : 0 ≤ f) (h1 : f < l.length) : kindF l f = 30 ↔ nmOf l f = ⟨#[102, 111, 114, 109]⟩ := by
  obtain ⟨q, rfl⟩ := Int.eq_ofNat_of_zero_le h0
  have hq : q < l.length := by omega
  unfold kindF
  rw [if_pos ⟨h0, h1⟩, kOf_at hq, nmOf_at hq]
  exact kind_form _
theorem namedF_range (l : List Nd) (s : ByteArray) : namedF l s = -1 ∨ 0 ≤ namedF l s ∧ namedF l s < l.length := by
  unfold namedF
  split
  · rename_i h
    have hRP := (rightB_iff l).1 h.2
    unfold firstF
    cases hf : (ord l 0).find? (idK l s) with
    | none => exact .inl rfl
    | some c =>
      right
      obtain ⟨c0, c1, _⟩ := ord_mem hRP (by omega) (by have := hRP.pos; omega) (List.mem_of_find?_eq_some hf)
      exact ⟨c0, c1⟩
  · exact .inl rfl
theorem list0 : listB 0 = false := by decide
theorem FormF_out {l : List Nd} {id : Int} (h : hasB l id = false) : FormF l id = -1 := by
  unfold FormF
  split
  · rename_i hr
    have hk : kindF l id = 0 := by
      refine if_neg (fun hh => ?_)
      rw [(hasB_iff l id).2 ⟨hh.1, hh.2, (rightB_iff l).1 hr⟩] at h
      cases h
    unfold formF
    rw [hk, if_pos ⟨list0, by omega⟩]
  · rfl
set_option maxHeartbeats 4000000 in
set_option maxRecDepth 100000 in
theorem refForm_any (l : List Nd) (v : Value) (id : Int) (hl : l.length ≤ 1000000000000000000) (hz : ∀ x ∈ l, Fits x) (w : World) (hU : Nodes l v w) :
    Calls Try.prog 17 #[v, .int .i64 id] w fun e w' => e = .returned (.int .i64 (FormF l id)) ∧ Below w.heap.size w w' := by
  obtain ⟨a, cap, rfl⟩ := hU.len
  cases hh : hasB l id
  · have hR := Lib.hid (FormF_out hh)
    have HH := Lib.hid hh
    clear hh
    go_enter Try.func17, Try.ntmps17
    go_wp2_with fail
    refine (refHas10_any l _ id hl hz _ hU).mono ?_
    rintro e w' ⟨rfl, hb⟩
    rw [HH.out]
    go_wp2_with fail
    go_ret
    exact ⟨ret_int hR.out.symm, hb⟩
  have HH := Lib.hid hh
  obtain ⟨h0, h1, hRP⟩ := (hasB_iff l id).1 hh
  obtain ⟨K, rfl⟩ := Int.eq_ofNat_of_zero_le h0
  have hkl : K < l.length := by omega
  have hTp := Lib.hid (show topB l (K : Nat) = topF l (K : Nat) by unfold topB; rw [hh]; rfl)
  have hUp := Lib.hid (show upB l (K : Nat) ⟨#[102, 111, 114, 109]⟩ = nearF l ⟨#[102, 111, 114, 109]⟩ (paOf l (K : Nat)) by unfold upB; rw [hh]; rfl)
  have hF := show FormF l (K : Nat) = if listB (kindF l (K : Nat)) = false ∧ kindF l (K : Nat) ≠ 20 then -1 else match attF l (K : Nat) ⟨#[102, 111, 114, 109]⟩ with
    | some s => (if topB l (K : Nat) = 0 then (if kindF l (namedF l s) = 30 then namedF l s else -1) else upB l (K : Nat) ⟨#[102, 111, 114, 109]⟩)
    | none => upB l (K : Nat) ⟨#[102, 111, 114, 109]⟩ from if_pos (rightB_yes hRP)
  rw [show kindF l (K : Nat) = kOf l (K : Nat) from if_pos ⟨h0, h1⟩, show attF l (K : Nat) ⟨#[102, 111, 114, 109]⟩ = atO (atsOf l (K : Nat)) ⟨#[102, 111, 114, 109]⟩ by unfold attF; rw [hh]; rfl, atsOf_at hkl] at hF
  obtain ⟨k0, k1⟩ : 0 ≤ kOf l (K : Nat) ∧ kOf l (K : Nat) ≤ 35 := by rw [kOf_at hkl]; exact kindOf_range _
  obtain ⟨b, o, cap', va, vk, hv, hb, c0, c1, c2, c3, c4, hat, hks⟩ := hU.at hkl
  cases hv
  have hal := one_ats (hRP.node K _ (List.getElem?_eq_getElem hkl)).1
  generalize l[K] = x at *
  clear hh
  obtain ⟨kk, hkk⟩ : ∃ kk, kOf l (K : Nat) = kk := ⟨_, rfl⟩
  rw [hkk] at k0 k1 hF
  have HKI := Lib.hid hkk
  have hF := Lib.hid hF
  clear hkk
  have hK0 : (0 : Int) ≤ (K : Int) := by omega
  have hK1 : (K : Int) < (l.length : Int) := by omega
  cases hL : listB kk
  · by_cases h20 : kk = 20
    case neg =>
      have hR := Lib.hid (hF.out.trans (if_pos ⟨hL, h20⟩))
      have HL := Lib.hid hL
      have q1 : (kk == 20) = false := intNe h20
      have q2 : (kk != 20) = true := by rw [bne, q1]; rfl
      clear hL h20
      go_enter Try.func17, Try.ntmps17
      go_wp2_with fail
      refine (refHas10_any l _ _ hl hz _ hU).mono ?_
      rintro e w0 ⟨rfl, hb00⟩
      rw [HH.out]
      go_wp2_with fail
      refine (ref16Kind_any l _ K hkl hRP _ (hU.kept hb00)).mono ?_
      rintro e w1 ⟨rfl, hb01⟩
      have hb1 := hb00.trans (hb01.mono hb00.size)
      rw [HKI.out]
      go_wp2_with fail
      refine (refIs1_any kk k0 k1 _).mono ?_
      rintro e w2 ⟨rfl, rfl⟩
      rw [HL.out]
      go_wp2_with fail
      go_ret
      exact ⟨ret_int hR.out.symm, hb1⟩
    have hC := Lib.hid (hF.out.trans (if_neg (fun h => h.2 h20)))
    have HL := Lib.hid hL
    clear hL
    subst h20
    go_enter Try.func17, Try.ntmps17
    go_wp2_with fail
    refine (refHas10_any l _ _ hl hz _ hU).mono ?_
    rintro e w0 ⟨rfl, hb00⟩
    rw [HH.out]
    go_wp2_with fail
    refine (ref16Kind_any l _ K hkl hRP _ (hU.kept hb00)).mono ?_
    rintro e w1 ⟨rfl, hb01⟩
    have hb1 := hb00.trans (hb01.mono hb00.size)
    rw [HKI.out]
    go_wp2_with fail
    refine (refIs1_any 20 k0 k1 _).mono ?_
    rintro e w2 ⟨rfl, rfl⟩
    rw [HL.out]
    have hg1 := hb1.size
    replace c2 := cellK hb1 hb c2
    have hat1 := hat.kept hb1
    cases ha : atO x.ats ⟨#[102, 111, 114, 109]⟩ with
    | none =>
      have hR := Lib.hid (show FormF l (K : Nat) = nearF l ⟨#[102, 111, 114, 109]⟩ (paOf l (K : Nat)) by rw [hC.out, ha]; exact hUp.out)
      clear hC
      have HA := Lib.hid ha
      clear ha
      go_wp2_with fail
      refine (refAttr14_any x.ats _ ⟨#[102, 111, 114, 109]⟩ (by omega) _ hat1).mono ?_
      rintro e w3 ⟨rfl, rfl⟩
      rw [HA.out]
      unfold atT
      go_wp2_with fail
      refine (refUp_any l _ K ⟨#[102, 111, 114, 109]⟩ hkl hRP _ (hU.kept hb1)).mono ?_
      rintro e w9 ⟨rfl, rfl⟩
      go_wp2_with fail
      go_ret
      exact ⟨ret_int hR.out.symm, hb1⟩
    | some s =>
      have HA := Lib.hid ha
      by_cases ht : topF l (K : Nat) = 0
      · have HT := Lib.hid ht
        rcases namedF_range l s with hf | ⟨hf0, hf1⟩
        · have hR := Lib.hid (show FormF l (K : Nat) = -1 by rw [hC.out, ha]; show (if topB l (K : Nat) = 0 then (if kindF l (namedF l s) = 30 then namedF l s else -1) else upB l (K : Nat) ⟨#[102, 111, 114, 109]⟩) = -1; rw [if_pos (hTp.out.trans ht), hf]; rfl)
          have HF := Lib.hid hf
          clear hC ha ht hf
          go_wp2_with fail
          refine (refAttr14_any x.ats _ ⟨#[102, 111, 114, 109]⟩ (by omega) _ hat1).mono ?_
          rintro e w3 ⟨rfl, rfl⟩
          rw [HA.out]
          unfold atT
          go_wp2_with fail
          refine (refTop_any l _ K hkl hRP _ (hU.kept hb1)).mono ?_
          rintro e w4 ⟨rfl, rfl⟩
          rw [HT.out]
          go_wp2_with fail
          refine (refByID_any l hRP _ s _ hz (hU.kept hb1)).mono ?_
          rintro e w5 ⟨rfl, hb5⟩
          have hb15 := hb1.trans (hb5.mono hg1)
          rw [HF.out]
          go_wp2_with fail
          go_ret
          exact ⟨ret_int hR.out.symm, hb15⟩
        · have HK := kindF_form hf0 hf1
          obtain ⟨q, hq⟩ := Int.eq_ofNat_of_zero_le hf0
          rw [hq] at hf0 hf1 HK
          have hql : q < l.length := by omega
          have hnq := nmOf_at hql
          by_cases hn : nmOf l (q : Nat) = ⟨#[102, 111, 114, 109]⟩
          · have hR := Lib.hid (show FormF l (K : Nat) = (q : Nat) by rw [hC.out, ha]; show (if topB l (K : Nat) = 0 then (if kindF l (namedF l s) = 30 then namedF l s else -1) else upB l (K : Nat) ⟨#[102, 111, 114, 109]⟩) = _; rw [if_pos (hTp.out.trans ht), hq, if_pos (HK.2 hn)])
            rw [hnq] at hn
            have HQ := Lib.hid hq
            have q1 := sTrue hn
            rw [form_toList] at q1
            clear hC ha ht hn hq HK hnq
            go_wp2_with fail
            refine (refAttr14_any x.ats _ ⟨#[102, 111, 114, 109]⟩ (by omega) _ hat1).mono ?_
            rintro e w3 ⟨rfl, rfl⟩
            rw [HA.out]
            unfold atT
            go_wp2_with fail
            refine (refTop_any l _ K hkl hRP _ (hU.kept hb1)).mono ?_
            rintro e w4 ⟨rfl, rfl⟩
            rw [HT.out]
            go_wp2_with fail
            refine (refByID_any l hRP _ s _ hz (hU.kept hb1)).mono ?_
            rintro e w5 ⟨rfl, hb5⟩
            have hb15 := hb1.trans (hb5.mono hg1)
            rw [HQ.out]
            obtain ⟨b2, o2, cap2, va2, vk2, hv2, hb2, g0, g1, g2, g3, g4, _, _⟩ := (hU.kept hb15).at hql
            cases hv2
            generalize l[q] = y at *
            go_wp2_with fail
            go_ret
            exact ⟨ret_int hR.out.symm, hb15⟩
          · have hR := Lib.hid (show FormF l (K : Nat) = -1 by rw [hC.out, ha]; show (if topB l (K : Nat) = 0 then (if kindF l (namedF l s) = 30 then namedF l s else -1) else upB l (K : Nat) ⟨#[102, 111, 114, 109]⟩) = _; rw [if_pos (hTp.out.trans ht), hq, if_neg (fun h => hn (HK.1 h))])
            rw [hnq] at hn
            have HQ := Lib.hid hq
            have q1 := sFalse hn
            rw [form_toList] at q1
            clear hC ha ht hn hq HK hnq
            go_wp2_with fail
            refine (refAttr14_any x.ats _ ⟨#[102, 111, 114, 109]⟩ (by omega) _ hat1).mono ?_
            rintro e w3 ⟨rfl, rfl⟩
            rw [HA.out]
            unfold atT
            go_wp2_with fail
            refine (refTop_any l _ K hkl hRP _ (hU.kept hb1)).mono ?_
            rintro e w4 ⟨rfl, rfl⟩
            rw [HT.out]
            go_wp2_with fail
            refine (refByID_any l hRP _ s _ hz (hU.kept hb1)).mono ?_
            rintro e w5 ⟨rfl, hb5⟩
            have hb15 := hb1.trans (hb5.mono hg1)
            rw [HQ.out]
            obtain ⟨b2, o2, cap2, va2, vk2, hv2, hb2, g0, g1, g2, g3, g4, _, _⟩ := (hU.kept hb15).at hql
            cases hv2
            generalize l[q] = y at *
            go_wp2_with fail
            go_ret
            exact ⟨ret_int hR.out.symm, hb15⟩
      · have hR := Lib.hid (show FormF l (K : Nat) = nearF l ⟨#[102, 111, 114, 109]⟩ (paOf l (K : Nat)) by rw [hC.out, ha]; show (if topB l (K : Nat) = 0 then (if kindF l (namedF l s) = 30 then namedF l s else -1) else upB l (K : Nat) ⟨#[102, 111, 114, 109]⟩) = _; rw [if_neg (fun h => ht (hTp.out.symm.trans h))]; exact hUp.out)
        have ht1 : (topF l (K : Nat) == 0) = false := intNe ht
        clear hC ha ht
        go_wp2_with fail
        refine (refAttr14_any x.ats _ ⟨#[102, 111, 114, 109]⟩ (by omega) _ hat1).mono ?_
        rintro e w3 ⟨rfl, rfl⟩
        rw [HA.out]
        unfold atT
        go_wp2_with fail
        refine (refTop_any l _ K hkl hRP _ (hU.kept hb1)).mono ?_
        rintro e w4 ⟨rfl, rfl⟩
        go_wp2_with fail
        refine (refUp_any l _ K ⟨#[102, 111, 114, 109]⟩ hkl hRP _ (hU.kept hb1)).mono ?_
        rintro e w9 ⟨rfl, rfl⟩
        go_wp2_with fail
        go_ret
        exact ⟨ret_int hR.out.symm, hb1⟩
  · have hC := Lib.hid (hF.out.trans (if_neg (fun h => by rw [hL] at h; cases h.1)))
    have HL := Lib.hid hL
    clear hL
    go_enter Try.func17, Try.ntmps17
    go_wp2_with fail
    refine (refHas10_any l _ _ hl hz _ hU).mono ?_
    rintro e w0 ⟨rfl, hb00⟩
    rw [HH.out]
    go_wp2_with fail
    refine (ref16Kind_any l _ K hkl hRP _ (hU.kept hb00)).mono ?_
    rintro e w1 ⟨rfl, hb01⟩
    have hb1 := hb00.trans (hb01.mono hb00.size)
    rw [HKI.out]
    go_wp2_with fail
    refine (refIs1_any kk k0 k1 _).mono ?_
    rintro e w2 ⟨rfl, rfl⟩
    rw [HL.out]
    have hg1 := hb1.size
    replace c2 := cellK hb1 hb c2
    have hat1 := hat.kept hb1
    cases ha : atO x.ats ⟨#[102, 111, 114, 109]⟩ with
    | none =>
      have hR := Lib.hid (show FormF l (K : Nat) = nearF l ⟨#[102, 111, 114, 109]⟩ (paOf l (K : Nat)) by rw [hC.out, ha]; exact hUp.out)
      clear hC
      have HA := Lib.hid ha
      clear ha
      go_wp2_with fail
      refine (refAttr14_any x.ats _ ⟨#[102, 111, 114, 109]⟩ (by omega) _ hat1).mono ?_
      rintro e w3 ⟨rfl, rfl⟩
      rw [HA.out]
      unfold atT
      go_wp2_with fail
      refine (refUp_any l _ K ⟨#[102, 111, 114, 109]⟩ hkl hRP _ (hU.kept hb1)).mono ?_
      rintro e w9 ⟨rfl, rfl⟩
      go_wp2_with fail
      go_ret
      exact ⟨ret_int hR.out.symm, hb1⟩
    | some s =>
      have HA := Lib.hid ha
      by_cases ht : topF l (K : Nat) = 0
      · have HT := Lib.hid ht
        rcases namedF_range l s with hf | ⟨hf0, hf1⟩
        · have hR := Lib.hid (show FormF l (K : Nat) = -1 by rw [hC.out, ha]; show (if topB l (K : Nat) = 0 then (if kindF l (namedF l s) = 30 then namedF l s else -1) else upB l (K : Nat) ⟨#[102, 111, 114, 109]⟩) = -1; rw [if_pos (hTp.out.trans ht), hf]; rfl)
          have HF := Lib.hid hf
          clear hC ha ht hf
          go_wp2_with fail
          refine (refAttr14_any x.ats _ ⟨#[102, 111, 114, 109]⟩ (by omega) _ hat1).mono ?_
          rintro e w3 ⟨rfl, rfl⟩
          rw [HA.out]
          unfold atT
          go_wp2_with fail
          refine (refTop_any l _ K hkl hRP _ (hU.kept hb1)).mono ?_
          rintro e w4 ⟨rfl, rfl⟩
          rw [HT.out]
          go_wp2_with fail
          refine (refByID_any l hRP _ s _ hz (hU.kept hb1)).mono ?_
          rintro e w5 ⟨rfl, hb5⟩
          have hb15 := hb1.trans (hb5.mono hg1)
          rw [HF.out]
          go_wp2_with fail
          go_ret
          exact ⟨ret_int hR.out.symm, hb15⟩
        · have HK := kindF_form hf0 hf1
          obtain ⟨q, hq⟩ := Int.eq_ofNat_of_zero_le hf0
          rw [hq] at hf0 hf1 HK
          have hql : q < l.length := by omega
          have hnq := nmOf_at hql
          by_cases hn : nmOf l (q : Nat) = ⟨#[102, 111, 114, 109]⟩
          · have hR := Lib.hid (show FormF l (K : Nat) = (q : Nat) by rw [hC.out, ha]; show (if topB l (K : Nat) = 0 then (if kindF l (namedF l s) = 30 then namedF l s else -1) else upB l (K : Nat) ⟨#[102, 111, 114, 109]⟩) = _; rw [if_pos (hTp.out.trans ht), hq, if_pos (HK.2 hn)])
            rw [hnq] at hn
            have HQ := Lib.hid hq
            have q1 := sTrue hn
            rw [form_toList] at q1
            clear hC ha ht hn hq HK hnq
            go_wp2_with fail
            refine (refAttr14_any x.ats _ ⟨#[102, 111, 114, 109]⟩ (by omega) _ hat1).mono ?_
            rintro e w3 ⟨rfl, rfl⟩
            rw [HA.out]
            unfold atT
            go_wp2_with fail
            refine (refTop_any l _ K hkl hRP _ (hU.kept hb1)).mono ?_
            rintro e w4 ⟨rfl, rfl⟩
            rw [HT.out]
            go_wp2_with fail
            refine (refByID_any l hRP _ s _ hz (hU.kept hb1)).mono ?_
            rintro e w5 ⟨rfl, hb5⟩
            have hb15 := hb1.trans (hb5.mono hg1)
            rw [HQ.out]
            obtain ⟨b2, o2, cap2, va2, vk2, hv2, hb2, g0, g1, g2, g3, g4, _, _⟩ := (hU.kept hb15).at hql
            cases hv2
            generalize l[q] = y at *
            go_wp2_with fail
            go_ret
            exact ⟨ret_int hR.out.symm, hb15⟩
          · have hR := Lib.hid (show FormF l (K : Nat) = -1 by rw [hC.out, ha]; show (if topB l (K : Nat) = 0 then (if kindF l (namedF l s) = 30 then namedF l s else -1) else upB l (K : Nat) ⟨#[102, 111, 114, 109]⟩) = _; rw [if_pos (hTp.out.trans ht), hq, if_neg (fun h => hn (HK.1 h))])
            rw [hnq] at hn
            have HQ := Lib.hid hq
            have q1 := sFalse hn
            rw [form_toList] at q1
            clear hC ha ht hn hq HK hnq
            go_wp2_with fail
            refine (refAttr14_any x.ats _ ⟨#[102, 111, 114, 109]⟩ (by omega) _ hat1).mono ?_
            rintro e w3 ⟨rfl, rfl⟩
            rw [HA.out]
            unfold atT
            go_wp2_with fail
            refine (refTop_any l _ K hkl hRP _ (hU.kept hb1)).mono ?_
            rintro e w4 ⟨rfl, rfl⟩
            rw [HT.out]
            go_wp2_with fail
            refine (refByID_any l hRP _ s _ hz (hU.kept hb1)).mono ?_
            rintro e w5 ⟨rfl, hb5⟩
            have hb15 := hb1.trans (hb5.mono hg1)
            rw [HQ.out]
            obtain ⟨b2, o2, cap2, va2, vk2, hv2, hb2, g0, g1, g2, g3, g4, _, _⟩ := (hU.kept hb15).at hql
            cases hv2
            generalize l[q] = y at *
            go_wp2_with fail
            go_ret
            exact ⟨ret_int hR.out.symm, hb15⟩
      · have hR := Lib.hid (show FormF l (K : Nat) = nearF l ⟨#[102, 111, 114, 109]⟩ (paOf l (K : Nat)) by rw [hC.out, ha]; show (if topB l (K : Nat) = 0 then (if kindF l (namedF l s) = 30 then namedF l s else -1) else upB l (K : Nat) ⟨#[102, 111, 114, 109]⟩) = _; rw [if_neg (fun h => ht (hTp.out.symm.trans h))]; exact hUp.out)
        have ht1 : (topF l (K : Nat) == 0) = false := intNe ht
        clear hC ha ht
        go_wp2_with fail
        refine (refAttr14_any x.ats _ ⟨#[102, 111, 114, 109]⟩ (by omega) _ hat1).mono ?_
        rintro e w3 ⟨rfl, rfl⟩
        rw [HA.out]
        unfold atT
        go_wp2_with fail
        refine (refTop_any l _ K hkl hRP _ (hU.kept hb1)).mono ?_
        rintro e w4 ⟨rfl, rfl⟩
        go_wp2_with fail
        refine (refUp_any l _ K ⟨#[102, 111, 114, 109]⟩ hkl hRP _ (hU.kept hb1)).mono ?_
        rintro e w9 ⟨rfl, rfl⟩
        go_wp2_with fail
        go_ret
        exact ⟨ret_int hR.out.symm, hb1⟩
end Go.Proofs.Ytenicjebccdekaa
