/-
  WHAT IS DISABLED: slices.IndexFunc over numbers, owner.legend, owner.Disabled: the walks.
-/
import Derived.Test.YtenicjebccdekaaPlainDis
namespace Go.Proofs.Ytenicjebccdekaa
set_option linter.unusedVariables false
set_option linter.unusedSimpArgs false
open Go.RowKit PT

/-- the first place of a number with .. ; -1: there is none -/
def fn (l : List Int) (f : Int → Bool) : Int := match l.findIdx? f with
  | none => -1
  | some i => (i : Int)
theorem fn_none {l : List Int} {f : Int → Bool} (h : ∀ x ∈ l, f x = false) : fn l f = -1 := by
  unfold fn
  rw [List.findIdx?_eq_none_iff.2 (fun x hx => by simpa using h x hx)]
theorem fn_hit {l : List Int} {f : Int → Bool} {k : Nat} (hk : k < l.length) (hno : ∀ x ∈ l.take k, f x = false) (h : f l[k] = true) : fn l f = k := by
  unfold fn
  rw [List.findIdx?_eq_some_iff_getElem.2 ⟨hk, h, fun j hj => by
    have := hno l[j] (by
      rw [List.mem_take_iff_getElem]
      exact ⟨j, by omega, rfl⟩)
    simpa using this⟩]
theorem fn_cases (l : List Int) (f : Int → Bool) : (fn l f = -1 ∧ firstF f l = -1) ∨ ∃ k, ∃ hk : k < l.length, fn l f = (k : Nat) ∧ firstF f l = l[k] := by
  unfold fn
  cases h : l.findIdx? f with
  | none =>
    left
    refine ⟨rfl, firstF_none (fun x hx => by simpa using List.findIdx?_eq_none_iff.1 h x hx)⟩
  | some i =>
    right
    obtain ⟨hk, h1, h2⟩ := List.findIdx?_eq_some_iff_getElem.1 h
    refine ⟨i, hk, rfl, firstF_hit hk (fun x hx => ?_) h1⟩
    rw [List.mem_take_iff_getElem] at hx
    obtain ⟨j, hj, rfl⟩ := hx
    have := h2 j (by omega)
    simpa using this
set_option maxHeartbeats 1000000 in
set_option maxRecDepth 100000 in
theorem indexFuncI_any (l : List Int) (f : Int → Bool) (u : Value) (g : Nat) (lb : Array Value) (eg : ∀ args w, (callFunc g args).run Try.prog w = .ok (.enter g args) w) (hl : l.length ≤ 1000000000000000) (w : World) (hU : Nums l u w)
    (hp : ∀ W, Below w.heap.size w W → ∀ x ∈ l, Calls Try.prog g (#[.int .i64 x] ++ lb) W fun e w' => e = .returned (.bool (f x)) ∧ Below W.heap.size W w') :
    Calls Try.prog 105 #[u, .func (.func g) #[] lb] w fun e w' => e = .returned (.int .i64 (fn l f)) ∧ Below w.heap.size w w' := by
  obtain ⟨a, cap, rfl⟩ := hU.len
  go_enter Try.func105, Try.ntmps105
  go_wp2_with fail
  go_loopw [8] (fun i wr => ∃ k : Nat, k ≤ l.length ∧ i = .int .i64 k ∧ Hid (∀ x ∈ l.take k, f x = false) ∧ Below w.heap.size w wr) (fun i _ => l.length - (intOf i).toNat)
  case atStart => exact ⟨0, Nat.zero_le _, rfl, Lib.hid (by simp), Below.refl _ _⟩
  case round =>
    obtain ⟨k, hk, rfl, hA, hbel⟩ := hrel
    by_cases hlt : k < l.length
    · obtain ⟨b, o, cap', hv, hb, hc0⟩ := (hU.kept hbel).at hlt
      cases hv
      have hT := Lib.hid (fun h => take_mem_snoc (P := fun x => f x = false) hlt hA.out h)
      have hH := Lib.hid (fun h => fn_hit hlt hA.out h)
      have hM := List.getElem_mem hlt
      have hcall := hp wr hbel l[k] hM
      generalize l[k] = x at *
      have HC := Lib.hid hcall
      clear hcall
      go_wp2_with fail
      refine HC.out.mono ?_
      rintro e w2 ⟨rfl, hb2⟩
      cases hf : f x
      · have hN := Lib.hid (hT.out hf)
        clear hf
        go_wp2_with fail
        go_roundw
        case rel => exact ⟨k + 1, by omega, by go_num, hN, hbel.trans (hb2.mono hbel.size)⟩
        case measure => simp [intOf]; omega
      · have hN := Lib.hid (hH.out hf)
        clear hf
        go_wp2_with fail
        go_ret
        exact ⟨ret_int hN.out.symm, hbel.trans (hb2.mono hbel.size)⟩
    · obtain rfl : k = l.length := by omega
      have hN := Lib.hid (show fn l f = -1 from fn_none (by have := hA.out; rwa [List.take_of_length_le (Nat.le_refl _)] at this))
      go_wp2_with fail
      go_ret
      exact ⟨ret_int hN.out.symm, hbel⟩
set_option maxHeartbeats 1000000 in
set_option maxRecDepth 100000 in
theorem legendFn_any (l : List Nd) (v : Value) (x : Int) (hRP : RightP l) (B : Nat) (w : World) (hU : Nodes l v w) (hc : w.cell? ⟨B, 0, none⟩ = some v) :
    Calls Try.prog 106 #[.int .i64 x, .pointer (some ⟨B, 0, none⟩)] w fun e w' => e = .returned (.bool (decide (kindF l x = 34))) ∧ Below w.heap.size w w' := by
  have hmax := hRP.max
  obtain ⟨a, cap, rfl⟩ := hU.len
  by_cases hk : kindF l x = 34
  · have HK := Lib.hid hk
    have hR := Lib.hid (decide_eq_true hk)
    clear hk
    go_enter Try.func106, Try.ntmps106
    go_wp2_with fail
    refine (ownerKind_any l _ x (by omega) hRP.vals _ hU).mono ?_
    rintro e w2 ⟨rfl, hb2⟩
    rw [HK.out]
    go_wp2_with fail
    go_ret
    exact ⟨ret_bool hR.out.symm, hb2⟩
  · have hq := Lib.hid (intNe hk)
    have hR := Lib.hid (decide_eq_false hk)
    clear hk
    go_enter Try.func106, Try.ntmps106
    go_wp2_with fail
    refine (ownerKind_any l _ x (by omega) hRP.vals _ hU).mono ?_
    rintro e w2 ⟨rfl, hb2⟩
    have q1 := hq.out
    go_wp2_with fail
    go_ret
    exact ⟨ret_bool hR.out.symm, hb2⟩
set_option maxHeartbeats 1000000 in
set_option maxRecDepth 100000 in
theorem legend_any (l : List Nd) (v : Value) (K : Nat) (hkl : K < l.length) (hRP : RightP l) (w : World) (hU : Nodes l v w) :
    Calls Try.prog 67 #[v, .int .i64 K] w fun e w' => e = .returned (.int .i64 (legF l K)) ∧ Below w.heap.size w w' := by
  obtain ⟨a, cap, rfl⟩ := hU.len
  have hb0 := (Below.refl w.heap.size w).alloc (Nat.le_refl _) (.cells #[.slice a l.length cap] 22)
  have hn0 := Go.heap_alloc_new w (.cells #[.slice a l.length cap] 22)
  have hs0 : (w.alloc (.cells #[.slice a l.length cap] 22)).heap.size = w.heap.size + 1 := by simp
  have hU0 := hU.kept hb0
  have hc0 : (w.alloc (.cells #[.slice a l.length cap] 22)).cell? ⟨w.heap.size, 0, none⟩ = some (.slice a l.length cap) := by simp only [World.cell?, hn0]; rfl
  obtain ⟨b, o, cap', va, vk, hv, hb, c0, c1, c2, c3, c4, hat, hks⟩ := hU0.at hkl
  cases hv
  have hp : ∀ W, Below (w.alloc (.cells #[.slice (some ⟨b, o, none⟩) l.length cap] 22)).heap.size (w.alloc (.cells #[.slice (some ⟨b, o, none⟩) l.length cap] 22)) W → ∀ x ∈ l[K].ks, Calls Try.prog 106 (#[.int .i64 x] ++ #[.pointer (some ⟨w.heap.size, 0, none⟩)]) W fun e w' => e = .returned (.bool (decide (kindF l x = 34))) ∧ Below W.heap.size W w' := by
    intro W hW x hx
    exact legendFn_any l _ x hRP w.heap.size W (hU0.kept hW) (cellK hW (by omega) hc0)
  have HP := Lib.hid hp
  have hke := ksOf_at hkl
  have hR := Lib.hid (show legF l (K : Nat) = firstF (fun x => decide (kindF l x = 34)) l[K].ks by unfold legF; rw [hke])
  have hkn := hRP.nodup (k := (K : Int)) (by omega) (by omega)
  have hkz : (ksOf l (K : Int)).length ≤ 400 := Nat.le_trans (nodup_len hkn (fun c' hc' => ⟨(hRP.kid (by omega) (by omega) hc').1, (hRP.kid (by omega) (by omega) hc').2.1⟩)) hRP.max
  rw [hke] at hkz
  have hcs := fn_cases l[K].ks (fun x => decide (kindF l x = 34))
  clear hp hkn hke
  have hK0 : (0 : Int) ≤ (K : Int) := by omega
  have hK1 : (K : Int) < (l.length : Int) := by omega
  generalize l[K] = x at *
  obtain ⟨a2, cap2, rfl⟩ := hks.len
  rcases hcs with ⟨h1, h2⟩ | ⟨k, hk, h1, h2⟩
  · have hE := Lib.hid (hR.out.trans h2)
    have H1 := Lib.hid h1
    clear h1 h2 hn0 hs0
    go_enter Try.func67, Try.ntmps67
    go_wp2_with fail
    refine (indexFuncI_any x.ks _ _ 106 #[.pointer (some ⟨w.heap.size, 0, none⟩)] (enters_of Try.func106 (by kernel_rfl) rfl) (by omega) _ hks HP.out).mono ?_
    rintro e w2 ⟨rfl, hb2⟩
    rw [H1.out]
    go_wp2_with fail
    go_ret
    exact ⟨ret_int hE.out.symm, bs hb0 hb2⟩
  · have H1 := Lib.hid h1
    have hE := Lib.hid (hR.out.trans h2)
    clear h1 h2
    have hk0 : (0 : Int) ≤ (k : Int) := by omega
    have hk1 : (k : Int) < (x.ks.length : Int) := by omega
    have hs9 : w.heap.size < (w.alloc (.cells #[.slice (some ⟨b, o, none⟩) l.length cap] 22)).heap.size := by omega
    clear hn0 hs0
    go_enter Try.func67, Try.ntmps67
    go_wp2_with fail
    refine (indexFuncI_any x.ks _ _ 106 #[.pointer (some ⟨w.heap.size, 0, none⟩)] (enters_of Try.func106 (by kernel_rfl) rfl) (by omega) _ hks HP.out).mono ?_
    rintro e w2 ⟨rfl, hb2⟩
    rw [H1.out]
    have d0 := cellK hb2 hs9 hc0
    have d4 := cellK hb2 hb c4
    obtain ⟨b9, o9, cap9, hv9, hb9, d9⟩ := (hks.kept hb2).at hk
    cases hv9
    generalize x.ks[k] = y at *
    go_wp2_with fail
    go_ret
    exact ⟨ret_int hE.out.symm, bs hb0 hb2⟩
set_option maxHeartbeats 4000000 in
set_option maxRecDepth 100000 in
theorem disabled_any (l : List Nd) (v : Value) (id : Int) (hl : l.length ≤ 1000000000000000000) (hz : ∀ x ∈ l, Fits x) (hz2 : ∀ x ∈ l, x.ats.length ≤ 1000000000000000 ∧ ∀ a ∈ x.ats, a.v.size ≤ 140737488351232) (w : World) (hU : Nodes l v w) :
    Calls Try.prog 23 #[v, .int .i64 id] w fun e w' => e = .returned (.bool (disF l id)) ∧ Below w.heap.size w w' := by
  obtain ⟨a, cap, rfl⟩ := hU.len
  obtain ⟨k0, k1⟩ := kindF_range l id
  have hD := show disF l id = ((rightB l && (submB (kindF l id) || decide (kindF l id = 29))) && (disA l id || upDis l id)) from rfl
  have hpos := Lib.hid (fun h => kindF_pos (l := l) (k := id) h)
  obtain ⟨kk, hkk⟩ : ∃ kk, kindF l id = kk := ⟨_, rfl⟩
  rw [hkk] at k0 k1 hD
  have hk9 := hkk
  have HKI := Lib.hid hkk
  clear hkk
  by_cases hA : submB kk = false ∧ kk ≠ 29
  · obtain ⟨hL, h29⟩ := hA
    have hR := Lib.hid (show disF l id = false by rw [hD, hL, decide_eq_false h29]; simp)
    have HL := Lib.hid hL
    have q1 : (kk == 29) = false := intNe h29
    have q2 : (kk != 29) = true := by rw [bne, q1]; rfl
    clear hL h29 hD hk9
    go_enter Try.func23, Try.ntmps23
    go_wp2_with fail
    go_step3
    go_wp2_with fail
    refine (ownerKind_any l _ id hl hz2 _ hU).mono ?_
    rintro e w1 ⟨rfl, hb1⟩
    rw [HKI.out]
    go_wp2_with fail
    refine (kindsSubmits_any kk k0 k1 _).mono ?_
    rintro e w2 ⟨rfl, rfl⟩
    rw [HL.out]
    go_wp2_with fail
    try rw [Exit.noGoto_ret]
    go_ret
    exact ⟨ret_bool hR.out.symm, hb1⟩
  have hS : (submB kk || decide (kk = 29)) = true := by
    cases hs : submB kk
    · rw [decide_eq_true (by by_cases e : kk = 29; exact e; exact absurd ⟨hs, e⟩ hA)]; rfl
    · rfl
  rw [hS, Bool.and_true] at hD
  have hne : kk ≠ 0 := by rintro rfl; revert hS; decide
  obtain ⟨b9, HL, hq⟩ : ∃ b, Hid (submB kk = b) ∧ (b = true ∨ (b = false ∧ Hid ((kk == 29) = true) ∧ Hid ((kk != 29) = false))) := by
    by_cases hs : submB kk = true
    · exact ⟨true, Lib.hid hs, .inl rfl⟩
    · have hs' : submB kk = false := by simpa using hs
      have e : kk = 29 := by by_cases e : kk = 29; exact e; exact absurd ⟨hs', e⟩ hA
      exact ⟨false, Lib.hid hs', .inr ⟨rfl, by unfold Hid; rw [e]; rfl, by unfold Hid; rw [e]; rfl⟩⟩
  clear hS hA
  obtain ⟨i0, i1⟩ := hpos.out (by rw [hk9]; exact hne)
  clear hk9 hne
  obtain ⟨K, rfl⟩ := Int.eq_ofNat_of_zero_le i0
  have hkl : K < l.length := by omega
  cases hr : rightB l
  · have hR := Lib.hid (show disF l (K : Nat) = false by rw [hD, hr]; rfl)
    have HR := Lib.hid hr
    clear hr hD
    rcases hq with rfl | ⟨rfl, hq1, hq2⟩
    · go_enter Try.func23, Try.ntmps23
      go_wp2_with fail
      go_step3
      go_wp2_with fail
      refine (ownerKind_any l _ _ hl hz2 _ hU).mono ?_
      rintro e w1 ⟨rfl, hb1⟩
      rw [HKI.out]
      go_wp2_with fail
      refine (kindsSubmits_any kk k0 k1 _).mono ?_
      rintro e w2 ⟨rfl, rfl⟩
      rw [HL.out]
      go_wp2_with fail
      refine (right_any l _ hl hz _ (hU.kept hb1)).mono ?_
      rintro e w3 ⟨rfl, hb3⟩
      rw [HR.out]
      go_wp2_with fail
      try rw [Exit.noGoto_ret]
      go_ret
      exact ⟨ret_bool hR.out.symm, bs hb1 hb3⟩
    · have q1 := hq1.out
      have q2 := hq2.out
      go_enter Try.func23, Try.ntmps23
      go_wp2_with fail
      go_step3
      go_wp2_with fail
      refine (ownerKind_any l _ _ hl hz2 _ hU).mono ?_
      rintro e w1 ⟨rfl, hb1⟩
      rw [HKI.out]
      go_wp2_with fail
      refine (kindsSubmits_any kk k0 k1 _).mono ?_
      rintro e w2 ⟨rfl, rfl⟩
      rw [HL.out]
      go_wp2_with fail
      refine (right_any l _ hl hz _ (hU.kept hb1)).mono ?_
      rintro e w3 ⟨rfl, hb3⟩
      rw [HR.out]
      go_wp2_with fail
      try rw [Exit.noGoto_ret]
      go_ret
      exact ⟨ret_bool hR.out.symm, bs hb1 hb3⟩
  have hRP := (rightB_iff l).1 hr
  have hmax := hRP.max
  have HR := Lib.hid hr
  rw [hr, Bool.true_and] at hD
  clear hr
  have hD := Lib.hid hD
  have hdA := Lib.hid (show disA l (K : Nat) = (atO l[K].ats ⟨#[100, 105, 115, 97, 98, 108, 101, 100]⟩).isSome by unfold disA; rw [atsOf_at hkl])
  have hal := one_ats (hRP.node K _ (List.getElem?_eq_getElem hkl)).1
  have hpK := Lib.hid (paOf_at hkl)
  have hUK := hU.at hkl
  have hK0 : (0 : Int) ≤ (K : Int) := by omega
  have hK1 : (K : Int) < (l.length : Int) := by omega
  go_enter Try.func23, Try.ntmps23
  go_wp2_with fail
  go_step3
  go_wp2_with fail
  refine (ownerKind_any l _ _ hl hz2 _ hU).mono ?_
  rintro e w1 ⟨rfl, hb1⟩
  rw [HKI.out]
  go_wp2_with fail
  refine (kindsSubmits_any kk k0 k1 _).mono ?_
  rintro e w2 ⟨rfl, rfl⟩
  rw [HL.out]
  rcases hq with rfl | ⟨rfl, hq1, hq2⟩
  case' inr => have q1 := hq1.out; have q2 := hq2.out
  all_goals
    go_wp2_with fail
    refine (right_any l _ hl hz _ (hU.kept hb1)).mono ?_
    rintro e w3 ⟨rfl, hb3⟩
    rw [HR.out]
    have hb03 := bs hb1 hb3
    obtain ⟨b, o, cap', va, vk, hv, hb, c0, c1, c2, c3, c4, hat, hks⟩ := (hU.kept hb03).at hkl
    cases hv
    generalize l[K] = x at *
    obtain ⟨a1, cap1, rfl⟩ := hat.len
    obtain ⟨a2, cap2, rfl⟩ := hks.len
    go_wp2_with fail
    refine (ownerHas_any x _ _ ⟨#[100, 105, 115, 97, 98, 108, 101, 100]⟩ (by omega) _ hat).mono ?_
    rintro e w4 ⟨rfl, hb4⟩
    have hb04 := bs hb03 hb4
    rw [← hdA.out]
    cases hda : disA l (K : Nat)
    case true =>
      have hR := Lib.hid (show disF l (K : Nat) = true by rw [hD.out, hda]; rfl)
      clear hda
      go_wp2_with fail
      try rw [Exit.noGoto_ret]
      go_ret
      exact ⟨ret_bool hR.out.symm, hb04⟩
    have hR := Lib.hid (show disF l (K : Nat) = upDis l (K : Nat) by rw [hD.out, hda]; rfl)
    have c3' := cellK hb4 hb c3
    clear hda
    go_wp2_with fail
    go_step3
    go_wp2_with fail
    go_quiet (fail)
    go_wp2_with fail
    go_loopw [6, 7, 8] (fun f c p wr => f = .bool false ∧ ∃ k : Nat, k < l.length ∧ c = .int .i64 k ∧ p = .int .i64 (paOf l (k : Nat)) ∧ Hid (upDis l (k : Nat) = upDis l (K : Nat)) ∧ Below w4.heap.size w4 wr) (fun _ c _ _ => dep l (intOf c))
    case atStart => exact ⟨rfl, K, hkl, rfl, by rw [hpK.out], Lib.hid rfl, below_draws _ _⟩
    case round =>
      obtain ⟨rfl, c, hcl, rfl, rfl, hA, hbel⟩ := hrel
      have hb0r := hb04.trans (hbel.mono hb04.size)
      have hc0 : (0 : Int) ≤ (c : Int) := by omega
      have hc1 : (c : Int) < (l.length : Int) := by omega
      have hd := dep_lt hRP hc0 hc1
      have hp1 := hRP.pa_lt hc0 hc1
      have hs := show setP l (c : Nat) = (decide (0 ≤ paOf l (c : Nat)) && (decide (kindF l (paOf l (c : Nat)) = 29) && (disA l (paOf l (c : Nat)) && decide (legF l (paOf l (c : Nat)) ≠ (c : Nat))))) from rfl
      have hgo := Lib.hid (fun (h : setP l (c : Nat) = false) => show upDis l (K : Nat) = upDis l (paOf l (c : Nat)) by rw [← hA.out]; unfold upDis; rw [cl_go hRP _ _ hc0 hc1 (by rw [h]; rfl)])
      have hhit := Lib.hid (fun (h : setP l (c : Nat) = true) => show upDis l (K : Nat) = true by rw [← hA.out]; unfold upDis; exact cl_hit hRP _ _ hc0 hc1 (by rw [h]; rfl))
      by_cases hp0 : 0 ≤ paOf l (c : Nat)
      case neg =>
        have hN := Lib.hid (show upDis l (K : Nat) = false by rw [hgo.out (by rw [hs, decide_eq_false hp0]; rfl)]; exact cl_neg l _ _ (by omega))
        have hp9 : paOf l (c : Nat) < 0 := by omega
        clear hs
        generalize paOf l (c : Nat) = z at *
        clear hp0
        go_wp2_with fail
        try rw [Exit.noGoto_ret]
        go_ret
        exact ⟨ret_bool (by rw [hR.out, hN.out]), hb0r⟩
      rw [decide_eq_true hp0, Bool.true_and] at hs
      obtain ⟨p, hp⟩ := Int.eq_ofNat_of_zero_le hp0
      rw [hp] at hs hgo hd hp1
      have hpx := Lib.hid hp
      have hDp := Lib.hid hd
      have hgo := Lib.hid hgo.out
      have hs := Lib.hid hs
      clear hp0 hp hd
      have hpl : p < l.length := by omega
      have hp0 : (0 : Int) ≤ (p : Int) := by omega
      have hal2 := one_ats (hRP.node p _ (List.getElem?_eq_getElem hpl)).1
      have hpp := Lib.hid (paOf_at hpl)
      have hdP := Lib.hid (show disA l (p : Nat) = (atO l[p].ats ⟨#[100, 105, 115, 97, 98, 108, 101, 100]⟩).isSome by unfold disA; rw [atsOf_at hpl])
      obtain ⟨b2, o2, cap2, va2, vk2, hv, hbb, g0, g1, g2, g3, g4, hat2, hks2⟩ := (hU.kept hb0r).at hpl
      cases hv
      generalize l[p] = y at *
      obtain ⟨a3, cap3, rfl⟩ := hat2.len
      obtain ⟨a4, cap4, rfl⟩ := hks2.len
      rw [hpx.out]
      by_cases hk : kindF l (p : Nat) = 29
      case neg =>
        have hS := Lib.hid (hgo.out (by rw [hs.out, decide_eq_false hk]; rfl))
        have hq := Lib.hid (intNe hk)
        clear hk
        go_wp2_with fail
        refine (ownerKind_any l _ (p : Nat) hl hz2 _ (hU.kept hb0r)).mono ?_
        rintro e w5 ⟨rfl, hb5⟩
        have g3' := cellK hb5 hbb g3
        have q1 := hq.out
        have hb45 := bs hbel hb5
        go_wp2_with fail
        go_quiet (fail)
        go_wp2_with fail
        go_roundw
        case rel => exact ⟨rfl, p, hpl, rfl, by rw [hpp.out], Lib.hid hS.out.symm, hb45.trans ((below_draws _ _).mono hb45.size)⟩
        case measure => simp [intOf]; exact hDp.out
      have HK := Lib.hid hk
      have hs := Lib.hid (show setP l (c : Nat) = (disA l (p : Nat) && decide (legF l (p : Nat) ≠ (c : Nat))) by rw [hs.out, decide_eq_true hk]; rfl)
      clear hk
      cases hda : disA l (p : Nat)
      case false =>
        have hS := Lib.hid (hgo.out (by rw [hs.out, hda]; rfl))
        have HD := Lib.hid (hdP.out.symm.trans hda)
        clear hda
        go_wp2_with fail
        refine (ownerKind_any l _ (p : Nat) hl hz2 _ (hU.kept hb0r)).mono ?_
        rintro e w5 ⟨rfl, hb5⟩
        rw [HK.out]
        have g0' := cellK hb5 hbb g0
        have g1' := cellK hb5 hbb g1
        have g2' := cellK hb5 hbb g2
        have g3' := cellK hb5 hbb g3
        have g4' := cellK hb5 hbb g4
        have hbb5 := Nat.lt_of_lt_of_le hbb hb5.size
        go_wp2_with fail
        refine (ownerHas_any y _ _ ⟨#[100, 105, 115, 97, 98, 108, 101, 100]⟩ (by omega) _ (hat2.kept hb5)).mono ?_
        rintro e w6 ⟨rfl, hb6⟩
        rw [HD.out]
        have e3 := cellK hb6 hbb5 g3'
        have hb46 := bs (bs hbel hb5) hb6
        go_wp2_with fail
        go_quiet (fail)
        go_wp2_with fail
        go_roundw
        case rel => exact ⟨rfl, p, hpl, rfl, by rw [hpp.out], Lib.hid hS.out.symm, hb46.trans ((below_draws _ _).mono hb46.size)⟩
        case measure => simp [intOf]; exact hDp.out
      have HD := Lib.hid (hdP.out.symm.trans hda)
      have hs := Lib.hid (show setP l (c : Nat) = decide (legF l (p : Nat) ≠ (c : Nat)) by rw [hs.out, hda]; rfl)
      clear hda
      by_cases hlg : legF l (p : Nat) = (c : Nat)
      case pos =>
        have hS := Lib.hid (hgo.out (by rw [hs.out]; exact decide_eq_false (fun h => h hlg)))
        have HG := Lib.hid hlg
        clear hlg
        go_wp2_with fail
        refine (ownerKind_any l _ (p : Nat) hl hz2 _ (hU.kept hb0r)).mono ?_
        rintro e w5 ⟨rfl, hb5⟩
        rw [HK.out]
        have g0' := cellK hb5 hbb g0
        have g1' := cellK hb5 hbb g1
        have g2' := cellK hb5 hbb g2
        have g3' := cellK hb5 hbb g3
        have g4' := cellK hb5 hbb g4
        have hbb5 := Nat.lt_of_lt_of_le hbb hb5.size
        go_wp2_with fail
        refine (ownerHas_any y _ _ ⟨#[100, 105, 115, 97, 98, 108, 101, 100]⟩ (by omega) _ (hat2.kept hb5)).mono ?_
        rintro e w6 ⟨rfl, hb6⟩
        rw [HD.out]
        have e3 := cellK hb6 hbb5 g3'
        have hb06 := bs (bs hb0r hb5) hb6
        have hbb6 := Nat.lt_of_lt_of_le hbb5 hb6.size
        go_wp2_with fail
        refine (legend_any l _ p hpl hRP _ (hU.kept hb06)).mono ?_
        rintro e w7 ⟨rfl, hb7⟩
        rw [HG.out]
        have d3 := cellK hb7 hbb6 e3
        have hb47 := bs (bs (bs hbel hb5) hb6) hb7
        go_wp2_with fail
        go_quiet (fail)
        go_wp2_with fail
        go_roundw
        case rel => exact ⟨rfl, p, hpl, rfl, by rw [hpp.out], Lib.hid hS.out.symm, hb47.trans ((below_draws _ _).mono hb47.size)⟩
        case measure => simp [intOf]; exact hDp.out
      have hS := Lib.hid (hhit.out (by rw [hs.out]; exact decide_eq_true hlg))
      have q1 := intNe hlg
      have q2 : (legF l (p : Nat) != (c : Nat)) = true := by rw [bne, q1]; rfl
      have HQ := Lib.hid q1
      have HQ2 := Lib.hid q2
      clear hlg q1 q2
      go_wp2_with fail
      refine (ownerKind_any l _ (p : Nat) hl hz2 _ (hU.kept hb0r)).mono ?_
      rintro e w5 ⟨rfl, hb5⟩
      rw [HK.out]
      have g0' := cellK hb5 hbb g0
      have g1' := cellK hb5 hbb g1
      have g2' := cellK hb5 hbb g2
      have g3' := cellK hb5 hbb g3
      have g4' := cellK hb5 hbb g4
      go_wp2_with fail
      refine (ownerHas_any y _ _ ⟨#[100, 105, 115, 97, 98, 108, 101, 100]⟩ (by omega) _ (hat2.kept hb5)).mono ?_
      rintro e w6 ⟨rfl, hb6⟩
      rw [HD.out]
      have hb06 := bs (bs hb0r hb5) hb6
      go_wp2_with fail
      refine (legend_any l _ p hpl hRP _ (hU.kept hb06)).mono ?_
      rintro e w7 ⟨rfl, hb7⟩
      have q1 := HQ.out
      have q2 := HQ2.out
      go_wp2_with fail
      try rw [Exit.noGoto_ret]
      go_ret
      exact ⟨ret_bool (by rw [hR.out, hS.out]), bs hb06 hb7⟩
end Go.Proofs.Ytenicjebccdekaa
