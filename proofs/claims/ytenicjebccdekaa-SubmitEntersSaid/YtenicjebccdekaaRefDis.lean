/-
  WHAT IS DISABLED by the document: ref16.spared, ref16.Disabled: the walks.
-/
import Derived.Test.YtenicjebccdekaaPlainDis
namespace Go.Proofs.Ytenicjebccdekaa
set_option linter.unusedVariables false
set_option linter.unusedSimpArgs false
open Go.RowKit PT

theorem leg_toList : (⟨#[108, 101, 103, 101, 110, 100]⟩ : ByteArray).toList = [108, 101, 103, 101, 110, 100] := by rw [ByteArray.toList_eq]
theorem set_toList : (⟨#[102, 105, 101, 108, 100, 115, 101, 116]⟩ : ByteArray).toList = [102, 105, 101, 108, 100, 115, 101, 116] := by rw [ByteArray.toList_eq]
theorem legQ_hit {l : List Nd} {f : Int} {k : Nat} (hk : k < (ksOf l f).length) (hno : ∀ x ∈ (ksOf l f).take k, decide (nmOf l x = ⟨#[108, 101, 103, 101, 110, 100]⟩) = false) (h : nmOf l (ksOf l f)[k] = ⟨#[108, 101, 103, 101, 110, 100]⟩) : legQ l f = some (ksOf l f)[k] := by
  unfold legQ
  rw [List.find?_eq_some_iff_getElem]
  refine ⟨decide_eq_true h, k, hk, rfl, fun j hj => ?_⟩
  have := hno (ksOf l f)[j] (by
    rw [List.mem_take_iff_getElem]
    exact ⟨j, by omega, rfl⟩)
  simpa using this
theorem legQ_none {l : List Nd} {f : Int} (hno : ∀ x ∈ ksOf l f, decide (nmOf l x = ⟨#[108, 101, 103, 101, 110, 100]⟩) = false) : legQ l f = none := by
  unfold legQ
  rw [List.find?_eq_none]
  intro x hx
  rw [hno x hx]
  exact Bool.false_ne_true
set_option maxHeartbeats 4000000 in
set_option maxRecDepth 100000 in
theorem spared_any (l : List Nd) (v : Value) (K F : Nat) (hkl : K < l.length) (hfl : F < l.length) (hRP : RightP l) (w : World) (hU : Nodes l v w) :
    Calls Try.prog 70 #[v, .int .i64 K, .int .i64 F] w fun e w' => e = .returned (.bool (spB l K F)) ∧ w = w' := by
  obtain ⟨a, cap, rfl⟩ := hU.len
  obtain ⟨b, o, cap', va, vk, hv, hb, c0, c1, c2, c3, c4, hat, hks⟩ := hU.at hfl
  cases hv
  have hke := ksOf_at hfl
  have hkid := Lib.hid (fun (c : Int) (hc : c ∈ ksOf l F) => hRP.kid (k := (F : Int)) (by omega) (by omega) hc)
  have hhit := Lib.hid (fun k hk hno h => legQ_hit (l := l) (f := F) (k := k) hk hno h)
  have hnone := Lib.hid (fun h => legQ_none (l := l) (f := F) h)
  have hkn := hRP.nodup (k := (F : Int)) (by omega) (by omega)
  have hkz : (ksOf l (F : Int)).length ≤ 400 := Nat.le_trans (nodup_len hkn (fun c' hc' => ⟨(hRP.kid (by omega) (by omega) hc').1, (hRP.kid (by omega) (by omega) hc').2.1⟩)) hRP.max
  have hSp := Lib.hid (show spB l K F = match legQ l F with | some k => decide (k = (K : Int)) || withinF l k (paOf l K) | none => false from rfl)
  rw [hke] at hkz hkid hhit hnone
  clear hkn hke
  generalize l[F] = x at *
  obtain ⟨a2, cap2, rfl⟩ := hks.len
  have hF0 : (0 : Int) ≤ (F : Int) := by omega
  have hF1 : (F : Int) < (l.length : Int) := by omega
  go_enter Try.func70, Try.ntmps70
  go_wp2_with fail
  go_loop [7] (fun i => ∃ k : Nat, k ≤ x.ks.length ∧ i = .int .i64 k ∧ Hid (∀ c ∈ x.ks.take k, decide (nmOf l c = ⟨#[108, 101, 103, 101, 110, 100]⟩) = false)) (fun i => x.ks.length - (intOf i).toNat)
  case atStart => exact ⟨0, Nat.zero_le _, rfl, Lib.hid (by simp)⟩
  case round =>
    obtain ⟨k, hk, rfl, hA⟩ := hrel
    by_cases hlt : k < x.ks.length
    · obtain ⟨kb, ko, kcap', kv, khb, kc0⟩ := hks.at hlt
      cases kv
      obtain ⟨d0, d1, _⟩ := hkid.out x.ks[k] (List.getElem_mem hlt)
      have hT := Lib.hid (fun h => take_mem_snoc (P := fun c => decide (nmOf l c = ⟨#[108, 101, 103, 101, 110, 100]⟩) = false) hlt hA.out h)
      have hH := Lib.hid (fun h => hhit.out k hlt hA.out h)
      have hk0 : (0 : Int) ≤ (k : Int) := by omega
      have hk1 : (k : Int) < (x.ks.length : Int) := by omega
      generalize x.ks[k] = c at *
      obtain ⟨q, rfl⟩ := Int.eq_ofNat_of_zero_le d0
      have hq : q < l.length := by omega
      have hnm := nmOf_at hq
      obtain ⟨b2, o2, cap2', va2, vk2, hv, hb2, g0, g1, g2, g3, g4, _, _⟩ := hU.at hq
      cases hv
      by_cases hn : nmOf l (q : Nat) = ⟨#[108, 101, 103, 101, 110, 100]⟩
      · have hN := hH.out hn
        have hN := Lib.hid (show spB l K F = (decide ((q : Int) = (K : Int)) || withinF l q (paOf l K)) by rw [hSp.out, hN])
        rw [hnm] at hn
        have q1 := sTrue hn
        rw [leg_toList] at q1
        clear hn hnm
        generalize l[q] = y at *
        by_cases e : (q : Int) = (K : Int)
        · have hM := Lib.hid (show spB l K F = true by rw [hN.out, decide_eq_true e]; rfl)
          have q3 : ((q : Int) == (K : Int)) = true := by rw [e]; exact beq_self_eq_true _
          have q4 : decide ((q : Int) = (K : Int)) = true := decide_eq_true e
          have q5 : q = K := by omega
          clear e
          subst q5
          go_wp2_with fail
          go_ret
          exact ⟨ret_bool hM.out.symm, rfl⟩
        · have hM := Lib.hid (show spB l K F = withinF l q (paOf l K) by rw [hN.out, decide_eq_false e]; rfl)
          have q3 := intNe e
          have q4 : decide (q = K) = false := decide_eq_false (by omega)
          have q5 : (q == K) = false := by rw [beq_eq_false_iff_ne]; omega
          clear e
          go_wp2_with fail
          refine (refWithin_any l _ K q hkl hRP _ hU).mono ?_
          rintro e w2 ⟨rfl, rfl⟩
          go_wp2_with fail
          go_ret
          exact ⟨ret_bool hM.out.symm, rfl⟩
      · have hN := Lib.hid (hT.out (decide_eq_false hn))
        rw [hnm] at hn
        have q1 := sFalse hn
        rw [leg_toList] at q1
        clear hn hnm
        generalize l[q] = y at *
        go_wp2_with fail
        go_round
        case rel => exact ⟨k + 1, by omega, by go_num, hN⟩
        case measure => simp [intOf]; omega
    · obtain rfl : k = x.ks.length := by omega
      have hN := hnone.out (by have := hA.out; rwa [List.take_of_length_le (Nat.le_refl _)] at this)
      have hN := Lib.hid (show spB l K F = false by rw [hSp.out, hN])
      go_wp2_with fail
      go_ret
      exact ⟨ret_bool hN.out.symm, rfl⟩
theorem upDis_none {l : List Nd} (h : RightP l) {id : Int} (h0 : 0 ≤ id) (h1 : id < l.length) (hno : ∀ f : Nat, f < l.length → setQ l id f = false) : upDis l id = false := by
  cases hu : upDis l id
  · rfl
  · obtain ⟨f, f0, f1, hf⟩ := (upDis_iff h h0 h1).1 hu
    obtain ⟨q, rfl⟩ := Int.eq_ofNat_of_zero_le f0
    rw [hno q (by omega)] at hf
    cases hf
set_option maxHeartbeats 4000000 in
set_option maxRecDepth 100000 in
theorem refDisabled_any (l : List Nd) (v : Value) (id : Int) (hl : l.length ≤ 1000000000000000000) (hz : ∀ x ∈ l, Fits x) (w : World) (hU : Nodes l v w) :
    Calls Try.prog 24 #[v, .int .i64 id] w fun e w' => e = .returned (.bool (disF l id)) ∧ Below w.heap.size w w' := by
  obtain ⟨a, cap, rfl⟩ := hU.len
  cases hh : hasB l id
  · have HH := Lib.hid hh
    have hR := Lib.hid (disF_out hh)
    clear hh
    go_enter Try.func24, Try.ntmps24
    go_wp2_with fail
    refine (refHas10_any l _ id hl hz _ hU).mono ?_
    rintro e w' ⟨rfl, hb⟩
    rw [HH.out]
    go_wp2_with fail
    go_ret
    exact ⟨ret_bool hR.out.symm, hb⟩
  have HH := Lib.hid hh
  obtain ⟨i0, i1, hRP⟩ := (hasB_iff l id).1 hh
  have hD := disF_in hRP i0 i1
  obtain ⟨K, rfl⟩ := Int.eq_ofNat_of_zero_le i0
  have hkl : K < l.length := by omega
  clear hh
  obtain ⟨k0, k1⟩ := kindF_range l (K : Nat)
  rw [kindF_in i0 i1] at k0 k1
  obtain ⟨kk, hkk⟩ : ∃ kk, kOf l (K : Nat) = kk := ⟨_, rfl⟩
  rw [hkk] at k0 k1 hD
  have HKI := Lib.hid hkk
  clear hkk
  by_cases hA : submB kk = false ∧ kk ≠ 29
  · obtain ⟨hL, h29⟩ := hA
    have hR := Lib.hid (show disF l (K : Nat) = false by rw [hD, hL, decide_eq_false h29]; simp)
    have HL := Lib.hid hL
    have q1 : (kk == 29) = false := intNe h29
    have q2 : (kk != 29) = true := by rw [bne, q1]; rfl
    clear hL h29 hD
    go_enter Try.func24, Try.ntmps24
    go_wp2_with fail
    refine (refHas10_any l _ _ hl hz _ hU).mono ?_
    rintro e w1 ⟨rfl, hb1⟩
    rw [HH.out]
    go_wp2_with fail
    refine (ref16Kind_any l _ K hkl hRP _ (hU.kept hb1)).mono ?_
    rintro e w2 ⟨rfl, hb2⟩
    rw [HKI.out]
    go_wp2_with fail
    refine (refIs2_any kk k0 k1 _).mono ?_
    rintro e w3 ⟨rfl, rfl⟩
    rw [HL.out]
    go_wp2_with fail
    go_ret
    exact ⟨ret_bool hR.out.symm, bs hb1 hb2⟩
  have hS : (submB kk || decide (kk = 29)) = true := by
    cases hs : submB kk
    · rw [decide_eq_true (by by_cases e : kk = 29; exact e; exact absurd ⟨hs, e⟩ hA)]; rfl
    · rfl
  rw [hS, Bool.true_and] at hD
  obtain ⟨b9, HL, hq⟩ : ∃ b, Hid (submB kk = b) ∧ (b = true ∨ (b = false ∧ Hid ((kk == 29) = true) ∧ Hid ((kk != 29) = false))) := by
    by_cases hs : submB kk = true
    · exact ⟨true, Lib.hid hs, .inl rfl⟩
    · have hs' : submB kk = false := by simpa using hs
      have e : kk = 29 := by by_cases e : kk = 29; exact e; exact absurd ⟨hs', e⟩ hA
      exact ⟨false, Lib.hid hs', .inr ⟨rfl, by unfold Hid; rw [e]; rfl, by unfold Hid; rw [e]; rfl⟩⟩
  clear hS hA
  have hmax := hRP.max
  have hD := Lib.hid hD
  have hdA := Lib.hid (show disA l (K : Nat) = (atO l[K].ats ⟨#[100, 105, 115, 97, 98, 108, 101, 100]⟩).isSome by unfold disA; rw [atsOf_at hkl])
  have hal := one_ats (hRP.node K _ (List.getElem?_eq_getElem hkl)).1
  have hK0 : (0 : Int) ≤ (K : Int) := by omega
  have hK1 : (K : Int) < (l.length : Int) := by omega
  have hyes := Lib.hid (fun (f : Nat) (hf : f < l.length) (h : setQ l (K : Nat) f = true) => (upDis_iff hRP i0 i1).2 ⟨f, by omega, by omega, h⟩)
  have hno := Lib.hid (fun h => upDis_none hRP i0 i1 h)
  go_enter Try.func24, Try.ntmps24
  go_wp2_with fail
  refine (refHas10_any l _ _ hl hz _ hU).mono ?_
  rintro e w1 ⟨rfl, hb1⟩
  rw [HH.out]
  go_wp2_with fail
  refine (ref16Kind_any l _ K hkl hRP _ (hU.kept hb1)).mono ?_
  rintro e w2 ⟨rfl, hb2⟩
  rw [HKI.out]
  have hb02 := bs hb1 hb2
  go_wp2_with fail
  refine (refIs2_any kk k0 k1 _).mono ?_
  rintro e w3 ⟨rfl, rfl⟩
  rw [HL.out]
  obtain ⟨b, o, cap', va, vk, hv, hb, c0, c1, c2, c3, c4, hat, hks⟩ := (hU.kept hb02).at hkl
  cases hv
  generalize l[K] = x at *
  obtain ⟨a1, cap1, rfl⟩ := hat.len
  obtain ⟨a2, cap2, rfl⟩ := hks.len
  rcases hq with rfl | ⟨rfl, hq1, hq2⟩
  case' inr => have q1 := hq1.out; have q2 := hq2.out
  all_goals
    go_wp2_with fail
    refine (refHas15_any x _ _ ⟨#[100, 105, 115, 97, 98, 108, 101, 100]⟩ (by omega) _ hat).mono ?_
    rintro e w4 ⟨rfl, hb4⟩
    have hb04 := bs hb02 hb4
    have hg4 := hb04.size
    rw [← hdA.out]
    cases hda : disA l (K : Nat)
    case true =>
      have hR := Lib.hid (show disF l (K : Nat) = true by rw [hD.out, hda]; rfl)
      clear hda
      go_wp2_with fail
      go_ret
      exact ⟨ret_bool hR.out.symm, hb04⟩
    have hR := Lib.hid (show disF l (K : Nat) = upDis l (K : Nat) by rw [hD.out, hda]; rfl)
    clear hda
    go_wp2_with fail
    go_loopw [6] (fun i wr => ∃ k : Nat, k ≤ l.length ∧ i = .int .i64 k ∧ Hid (∀ f : Nat, f < k → setQ l (K : Nat) f = false) ∧ Below w4.heap.size w4 wr) (fun i _ => l.length - (intOf i).toNat)
    case atStart => exact ⟨0, Nat.zero_le _, rfl, Lib.hid (fun f hf => absurd hf (Nat.not_lt_zero _)), Below.refl _ _⟩
    case round =>
      obtain ⟨f, hfl, rfl, hA, hbel⟩ := hrel
      have hb0r := hb04.trans (hbel.mono hg4)
      by_cases hlt : f < l.length
      · have hstep := Lib.hid (fun (h : setQ l (K : Nat) f = false) => show ∀ g : Nat, g < f + 1 → setQ l (K : Nat) g = false from fun g hg => by
          by_cases e : g = f
          · rw [e]; exact h
          · exact hA.out g (by omega))
        have hs := show setQ l (K : Nat) f = (decide (nmOf l f = ⟨#[102, 105, 101, 108, 100, 115, 101, 116]⟩) && (disA l f && (withinF l f (paOf l (K : Nat)) && !spB l (K : Nat) f))) from rfl
        have hhit := Lib.hid (hyes.out f hlt)
        have hal2 := one_ats (hRP.node f _ (List.getElem?_eq_getElem hlt)).1
        have hdP := Lib.hid (show disA l (f : Nat) = (atO l[f].ats ⟨#[100, 105, 115, 97, 98, 108, 101, 100]⟩).isSome by unfold disA; rw [atsOf_at hlt])
        have hUr := hU.kept hb0r
        obtain ⟨b2, o2, cap2, va2, vk2, hv, hbb, g0, g1, g2, g3, g4, hat2, hks2⟩ := hUr.at hlt
        cases hv
        rw [nmOf_at hlt] at hs
        have hf0 : (0 : Int) ≤ (f : Int) := by omega
        have hf1 : (f : Int) < (l.length : Int) := by omega
        have hfz : f < 1000000000000000000 := by omega
        generalize l[f] = y at *
        obtain ⟨a3, cap3, rfl⟩ := hat2.len
        obtain ⟨a4, cap4, rfl⟩ := hks2.len
        by_cases hn : y.nm = ⟨#[102, 105, 101, 108, 100, 115, 101, 116]⟩
        case neg =>
          have hN := Lib.hid (hstep.out (by rw [hs, decide_eq_false hn]; rfl))
          have q1 := sFalse hn
          rw [set_toList] at q1
          clear hn hs
          go_wp2_with fail
          go_roundw
          case rel => exact ⟨f + 1, by omega, by go_num, hN, hbel⟩
          case measure => simp [intOf]; omega
        rw [decide_eq_true hn, Bool.true_and] at hs
        have q1 := sTrue hn
        rw [set_toList] at q1
        clear hn
        cases hda : disA l (f : Nat)
        case false =>
          have hN := Lib.hid (hstep.out (by rw [hs, hda]; rfl))
          have HD := Lib.hid (hdP.out.symm.trans hda)
          clear hda hs
          go_wp2_with fail
          refine (refHas15_any y _ _ ⟨#[100, 105, 115, 97, 98, 108, 101, 100]⟩ (by omega) _ hat2).mono ?_
          rintro e w5 ⟨rfl, hb5⟩
          rw [HD.out]
          go_wp2_with fail
          go_roundw
          case rel => exact ⟨f + 1, by omega, by go_num, hN, bs hbel hb5⟩
          case measure => simp [intOf]; omega
        have HD := Lib.hid (hdP.out.symm.trans hda)
        rw [hda, Bool.true_and] at hs
        clear hda
        cases hw : withinF l (f : Nat) (paOf l (K : Nat))
        case false =>
          have hN := Lib.hid (hstep.out (by rw [hs, hw]; rfl))
          have HW := Lib.hid hw
          clear hw hs
          go_wp2_with fail
          refine (refHas15_any y _ _ ⟨#[100, 105, 115, 97, 98, 108, 101, 100]⟩ (by omega) _ hat2).mono ?_
          rintro e w5 ⟨rfl, hb5⟩
          rw [HD.out]
          go_wp2_with fail
          refine (refWithin_any l _ K (f : Nat) hkl hRP _ (hUr.kept hb5)).mono ?_
          rintro e w6 ⟨rfl, rfl⟩
          rw [HW.out]
          go_wp2_with fail
          go_roundw
          case rel => exact ⟨f + 1, by omega, by go_num, hN, bs hbel hb5⟩
          case measure => simp [intOf]; omega
        have HW := Lib.hid hw
        rw [hw, Bool.true_and] at hs
        clear hw
        cases hsp : spB l (K : Nat) (f : Nat)
        case true =>
          have hN := Lib.hid (hstep.out (by rw [hs, hsp]; rfl))
          have HS := Lib.hid hsp
          clear hsp hs
          go_wp2_with fail
          refine (refHas15_any y _ _ ⟨#[100, 105, 115, 97, 98, 108, 101, 100]⟩ (by omega) _ hat2).mono ?_
          rintro e w5 ⟨rfl, hb5⟩
          rw [HD.out]
          go_wp2_with fail
          refine (refWithin_any l _ K (f : Nat) hkl hRP _ (hUr.kept hb5)).mono ?_
          rintro e w6 ⟨rfl, rfl⟩
          rw [HW.out]
          go_wp2_with fail
          refine (spared_any l _ K f hkl hlt hRP _ (hUr.kept hb5)).mono ?_
          rintro e w6 ⟨rfl, rfl⟩
          rw [HS.out]
          go_wp2_with fail
          go_roundw
          case rel => exact ⟨f + 1, by omega, by go_num, hN, bs hbel hb5⟩
          case measure => simp [intOf]; omega
        have hN := Lib.hid (hhit.out (by rw [hs, hsp]; rfl))
        have HS := Lib.hid hsp
        clear hsp hs
        go_wp2_with fail
        refine (refHas15_any y _ _ ⟨#[100, 105, 115, 97, 98, 108, 101, 100]⟩ (by omega) _ hat2).mono ?_
        rintro e w5 ⟨rfl, hb5⟩
        rw [HD.out]
        go_wp2_with fail
        refine (refWithin_any l _ K (f : Nat) hkl hRP _ (hUr.kept hb5)).mono ?_
        rintro e w6 ⟨rfl, rfl⟩
        rw [HW.out]
        go_wp2_with fail
        refine (spared_any l _ K f hkl hlt hRP _ (hUr.kept hb5)).mono ?_
        rintro e w6 ⟨rfl, rfl⟩
        rw [HS.out]
        go_wp2_with fail
        go_ret
        exact ⟨ret_bool (by rw [hR.out, hN.out]), bs hb0r hb5⟩
      · obtain rfl : f = l.length := by omega
        have hN := Lib.hid (hno.out hA.out)
        go_wp2_with fail
        go_ret
        exact ⟨ret_bool (by rw [hR.out, hN.out]), hb0r⟩
end Go.Proofs.Ytenicjebccdekaa
