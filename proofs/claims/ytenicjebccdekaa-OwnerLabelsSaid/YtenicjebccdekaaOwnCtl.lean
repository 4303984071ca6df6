/-
  A LABEL's CONTROL: owner.Control, ref16.Control: the walks.
-/
import Derived.Test.YtenicjebccdekaaRefIn
namespace Go.Proofs.Ytenicjebccdekaa
set_option linter.unusedVariables false
set_option linter.unusedSimpArgs false
open Go.RowKit PT

theorem tail_take {t : List Int} {k : Nat} : t.tail.take k = (t.take (k + 1)).tail := by cases t <;> simp
theorem firstF_tail_hit {p : Int → Bool} {t : List Int} {k : Nat} (hk : k + 1 < t.length) (hno : ∀ x ∈ t.tail.take k, p x = false) (h : p t[k + 1] = true) : firstF p t.tail = t[k + 1] := by
  have := firstF_hit (p := p) (t := t.tail) (k := k) (by rw [List.length_tail]; omega) hno (by rw [List.getElem_tail]; exact h)
  rwa [List.getElem_tail] at this
theorem tail_snoc {p : Int → Bool} {t : List Int} {k : Nat} (hk : k + 1 < t.length) (hno : ∀ x ∈ t.tail.take k, p x = false) (h : p t[k + 1] = false) : ∀ x ∈ t.tail.take (k + 1), p x = false :=
  take_mem_snoc (P := fun x => p x = false) (l := t.tail) (k := k) (by rw [List.length_tail]; omega) hno (by rw [List.getElem_tail]; exact h)
theorem labelB0 : labelB 0 = false := by decide
theorem namedF_kind {l : List Nd} {s : ByteArray} (h : labelB (kindF l (namedF l s)) = true) : 0 ≤ namedF l s ∧ namedF l s < l.length := by
  rcases namedF_range l s with e | e
  · rw [e, show kindF l (-1) = 0 from if_neg (fun h => by omega), labelB0] at h; cases h
  · exact e
set_option maxHeartbeats 4000000 in
set_option maxRecDepth 100000 in
theorem control_any (l : List Nd) (v : Value) (id : Int) (hl : l.length ≤ 1000000000000000000) (hz : ∀ x ∈ l, Fits x) (w : World) (hU : Nodes l v w) :
    Calls Try.prog 36 #[v, .int .i64 id] w fun e w' => e = .returned (.int .i64 (ctlF l id)) ∧ Below w.heap.size w w' := by
  obtain ⟨a, cap, rfl⟩ := hU.len
  cases hr : rightB l
  · have hR := Lib.hid (show ctlF l id = -1 from if_neg (fun h => by rw [hr] at h; cases h.1))
    have HR := Lib.hid hr
    clear hr
    go_enter Try.func36, Try.ntmps36
    go_wp2_with fail
    refine (right_any l _ hl hz _ hU).mono ?_
    rintro e w' ⟨rfl, hb⟩
    rw [HR.out]
    go_wp2_with fail
    go_ret
    exact ⟨ret_int hR.out.symm, hb⟩
  have HR := Lib.hid hr
  have hRP := (rightB_iff l).1 hr
  have hmax := hRP.max
  by_cases hk : kindF l id = 31
  case neg =>
    have hR := Lib.hid (show ctlF l id = -1 from if_neg (fun h => hk h.2))
    clear hr
    obtain ⟨kk, hkk⟩ : ∃ kk, kindF l id = kk := ⟨_, rfl⟩
    rw [hkk] at hk
    have HK := Lib.hid hkk
    have q1 : (kk == 31) = false := intNe hk
    have q2 : (kk != 31) = true := by rw [bne, q1]; rfl
    clear hkk hk
    go_enter Try.func36, Try.ntmps36
    go_wp2_with fail
    refine (right_any l _ hl hz _ hU).mono ?_
    rintro e w' ⟨rfl, hb⟩
    rw [HR.out]
    go_wp2_with fail
    refine (ownerKind_any l _ id hl hRP.vals _ (hU.kept hb)).mono ?_
    rintro e w2 ⟨rfl, hb2⟩
    rw [HK.out]
    go_wp2_with fail
    go_ret
    exact ⟨ret_int hR.out.symm, bs hb hb2⟩
  obtain ⟨i0, i1⟩ := kindF_pos (l := l) (k := id) (by omega)
  have hF := Lib.hid (show ctlF l id = match attF l id ⟨#[102, 111, 114]⟩ with
    | some s => if labelB (kindF l (namedF l s)) = true then namedF l s else -1
    | none => firstF (fun k => labelB (kindF l k)) (ord l id).tail from if_pos ⟨hr, hk⟩)
  have hO := Lib.hid (show ordB l id = ord l id by unfold ordB; rw [if_pos (hasB_yes hRP i0 i1)])
  have HK := Lib.hid hk
  have hoe := ord_eq hRP i0 i1
  have hol := ord_len hRP i0 i1
  have hmem := Lib.hid (fun c (h : c ∈ ord l id) => ord_mem hRP i0 i1 h)
  clear hr hk
  cases ha : attF l id ⟨#[102, 111, 114]⟩ with
  | some s =>
    have HA := Lib.hid ha
    cases hL : labelB (kindF l (namedF l s))
    · have hR := Lib.hid (show ctlF l id = -1 by rw [hF.out, ha]; show (if labelB (kindF l (namedF l s)) = true then namedF l s else -1) = -1; rw [hL]; rfl)
      have HL := Lib.hid hL
      clear ha hL hF hoe
      go_enter Try.func36, Try.ntmps36
      go_wp2_with fail
      refine (right_any l _ hl hz _ hU).mono ?_
      rintro e w1 ⟨rfl, hb1⟩
      rw [HR.out]
      go_wp2_with fail
      refine (ownerKind_any l _ id hl hRP.vals _ (hU.kept hb1)).mono ?_
      rintro e w2 ⟨rfl, hb2⟩
      rw [HK.out]
      have hb02 := bs hb1 hb2
      go_wp2_with fail
      refine (attr_any l _ id ⟨#[102, 111, 114]⟩ hl hz _ (hU.kept hb02)).mono ?_
      rintro e w3 ⟨rfl, hb3⟩
      rw [HA.out]
      unfold atT
      have hb03 := bs hb02 hb3
      go_wp2_with fail
      refine (named_doc_any l _ s hl hz _ (hU.kept hb03)).mono ?_
      rintro e w4 ⟨rfl, hb4⟩
      have hb04 := bs hb03 hb4
      obtain ⟨r0, r1⟩ := kindF_range l (namedF l s)
      go_wp2_with fail
      refine (ownerKind_any l _ (namedF l s) hl hRP.vals _ (hU.kept hb04)).mono ?_
      rintro e w5 ⟨rfl, hb5⟩
      go_wp2_with fail
      refine (kindsLabels_any _ r0 r1 _).mono ?_
      rintro e w6 ⟨rfl, rfl⟩
      rw [HL.out]
      go_wp2_with fail
      go_ret
      exact ⟨ret_int hR.out.symm, bs hb04 hb5⟩
    · have hR := Lib.hid (show ctlF l id = namedF l s by rw [hF.out, ha]; show (if labelB (kindF l (namedF l s)) = true then namedF l s else -1) = _; rw [hL]; rfl)
      have HL := Lib.hid hL
      clear ha hL hF hoe
      go_enter Try.func36, Try.ntmps36
      go_wp2_with fail
      refine (right_any l _ hl hz _ hU).mono ?_
      rintro e w1 ⟨rfl, hb1⟩
      rw [HR.out]
      go_wp2_with fail
      refine (ownerKind_any l _ id hl hRP.vals _ (hU.kept hb1)).mono ?_
      rintro e w2 ⟨rfl, hb2⟩
      rw [HK.out]
      have hb02 := bs hb1 hb2
      go_wp2_with fail
      refine (attr_any l _ id ⟨#[102, 111, 114]⟩ hl hz _ (hU.kept hb02)).mono ?_
      rintro e w3 ⟨rfl, hb3⟩
      rw [HA.out]
      unfold atT
      have hb03 := bs hb02 hb3
      go_wp2_with fail
      refine (named_doc_any l _ s hl hz _ (hU.kept hb03)).mono ?_
      rintro e w4 ⟨rfl, hb4⟩
      have hb04 := bs hb03 hb4
      obtain ⟨r0, r1⟩ := kindF_range l (namedF l s)
      go_wp2_with fail
      refine (ownerKind_any l _ (namedF l s) hl hRP.vals _ (hU.kept hb04)).mono ?_
      rintro e w5 ⟨rfl, hb5⟩
      go_wp2_with fail
      refine (kindsLabels_any _ r0 r1 _).mono ?_
      rintro e w6 ⟨rfl, rfl⟩
      rw [HL.out]
      go_wp2_with fail
      go_ret
      exact ⟨ret_int hR.out.symm, bs hb04 hb5⟩
  | none =>
    have HA := Lib.hid ha
    have hR := Lib.hid (show ctlF l id = firstF (fun k => labelB (kindF l k)) (ord l id).tail by rw [hF.out, ha])
    have hop : 0 < (ord l id).length := by rw [hoe]; simp
    clear ha hF hoe
    go_enter Try.func36, Try.ntmps36
    go_wp2_with fail
    refine (right_any l _ hl hz _ hU).mono ?_
    rintro e w1 ⟨rfl, hb1⟩
    rw [HR.out]
    go_wp2_with fail
    refine (ownerKind_any l _ id hl hRP.vals _ (hU.kept hb1)).mono ?_
    rintro e w2 ⟨rfl, hb2⟩
    rw [HK.out]
    have hb02 := bs hb1 hb2
    go_wp2_with fail
    refine (attr_any l _ id ⟨#[102, 111, 114]⟩ hl hz _ (hU.kept hb02)).mono ?_
    rintro e w3 ⟨rfl, hb3⟩
    rw [HA.out]
    unfold atT
    have hb03 := bs hb02 hb3
    go_wp2_with fail
    refine (orderTop_any l _ id hl hz _ (hU.kept hb03)).mono ?_
    rw [hO.out]
    generalize ord l id = I at hol hmem hR hop ⊢
    rintro e w4 ⟨vo, rfl, hov, hb4⟩
    have hb04 := bs hb03 hb4
    have hg4 := hb04.size
    obtain ⟨g, gc, rfl, _, hcell⟩ := hov.at (by intro e; have := congrArg List.length e; rw [ints_len, List.length_nil] at this; omega)
    rw [ints_len] at hov ⊢
    have hgc : I.length ≤ gc := by
      obtain ⟨_, ⟨hv, _⟩ | ⟨g', cap', cur, hv, h2, h3, h4, _⟩⟩ := hov
      · cases hv
      · injection hv with e1 e2 e3
        rw [ints_len] at h4
        omega
    have hgb : g < w4.heap.size := (World.ownsRow.lt hov g rfl).2
    have hp1 : (1 : Int) ≤ (I.length : Int) := by omega
    have hp2 : (I.length : Int) ≤ (gc : Int) := by omega
    have hIl : I.length ≤ 400 := by omega
    by_cases hg1 : gc = 1
    · subst hg1
      go_wp2_with fail
      go_loopw [40] (fun i wr => i = .int .i64 0 ∧ wr = w4) (fun _ _ => 0)
      case atStart => exact ⟨rfl, rfl⟩
      case round =>
        obtain ⟨rfl, rfl⟩ := hrel
        have hI1 : I.length - 1 = 0 := by omega
        have hN := Lib.hid (show ctlF l id = -1 by
          rw [hR.out]
          exact firstF_none (fun x hx => by
            have := List.length_pos_of_mem hx
            rw [List.length_tail] at this
            omega))
        go_wp2_with fail
        go_ret
        exact ⟨ret_int hN.out.symm, hb04⟩
    · have hg2 : (gc == 1) = false := by rw [beq_eq_false_iff_ne]; exact hg1
      go_wp2_with fail
      go_loopw [40] (fun i wr => ∃ k : Nat, k ≤ I.length - 1 ∧ i = .int .i64 k ∧ Hid (∀ x ∈ I.tail.take k, labelB (kindF l x) = false) ∧ Below w4.heap.size w4 wr) (fun i _ => I.length - 1 - (intOf i).toNat)
      case atStart => exact ⟨0, Nat.zero_le _, rfl, Lib.hid (by simp), Below.refl _ _⟩
      case round =>
        obtain ⟨k, hk, rfl, hA, hbel⟩ := hrel
        have hb0r := hb04.trans (hbel.mono hg4)
        by_cases hlt : k < I.length - 1
        · have hlt' : k + 1 < I.length := by omega
          have hcc := cellK hbel hgb (hcell (k + 1) (.int .i64 I[k + 1]) (by rw [ints, List.getElem?_map, List.getElem?_eq_getElem hlt']; rfl))
          obtain ⟨c0, c1, _⟩ := hmem.out I[k + 1] (List.getElem_mem hlt')
          have hT := Lib.hid (fun h => tail_snoc (p := fun x => labelB (kindF l x)) hlt' hA.out h)
          have hH := Lib.hid (fun h => firstF_tail_hit (p := fun x => labelB (kindF l x)) hlt' hA.out h)
          obtain ⟨r0, r1⟩ := kindF_range l I[k + 1]
          have hk0 : (0 : Int) ≤ (k : Int) := by omega
          have hk1 : (k : Int) < ((I.length - 1 : Nat) : Int) := by omega
          generalize I[k + 1] = c at *
          have hcc2 := hcc
          rw [Nat.add_comm k 1] at hcc2
          cases hL : labelB (kindF l c)
          · have HL := Lib.hid hL
            have hN := Lib.hid (hT.out hL)
            clear hL
            go_wp2_with fail
            refine (ownerKind_any l _ c hl hRP.vals _ (hU.kept hb0r)).mono ?_
            rintro e w5 ⟨rfl, hb5⟩
            go_wp2_with fail
            refine (kindsLabels_any _ r0 r1 _).mono ?_
            rintro e w6 ⟨rfl, rfl⟩
            rw [HL.out]
            go_wp2_with fail
            go_roundw
            case rel => exact ⟨k + 1, by omega, by go_num, hN, bs hbel hb5⟩
            case measure => simp [intOf]; omega
          · have HL := Lib.hid hL
            have hN := Lib.hid (hR.out.trans (hH.out hL))
            clear hL
            go_wp2_with fail
            refine (ownerKind_any l _ c hl hRP.vals _ (hU.kept hb0r)).mono ?_
            rintro e w5 ⟨rfl, hb5⟩
            go_wp2_with fail
            refine (kindsLabels_any _ r0 r1 _).mono ?_
            rintro e w6 ⟨rfl, rfl⟩
            rw [HL.out]
            go_wp2_with fail
            go_ret
            exact ⟨ret_int hN.out.symm, bs hb0r hb5⟩
        · obtain rfl : k = I.length - 1 := by omega
          have hN := Lib.hid (show ctlF l id = -1 by
            rw [hR.out]
            refine firstF_none ?_
            have := hA.out
            rwa [List.take_of_length_le (by rw [List.length_tail]; omega)] at this)
          go_wp2_with fail
          go_ret
          exact ⟨ret_int hN.out.symm, hb0r⟩
set_option maxHeartbeats 4000000 in
set_option maxRecDepth 100000 in
theorem refControl_any (l : List Nd) (v : Value) (id : Int) (hl : l.length ≤ 1000000000000000000) (hz : ∀ x ∈ l, Fits x) (w : World) (hU : Nodes l v w) :
    Calls Try.prog 37 #[v, .int .i64 id] w fun e w' => e = .returned (.int .i64 (ctlF l id)) ∧ Below w.heap.size w w' := by
  obtain ⟨a, cap, rfl⟩ := hU.len
  cases hh : isF l id 31
  · have HH := Lib.hid hh
    have hR := Lib.hid (show ctlF l id = -1 from if_neg (fun e => by rw [(isF_30 (by omega)).2 e] at hh; cases hh))
    clear hh
    go_enter Try.func37, Try.ntmps37
    go_wp2_with fail
    refine (refIs15_any l _ id 31 hl hz _ hU).mono ?_
    rintro e w' ⟨rfl, hb⟩
    rw [HH.out]
    go_wp2_with fail
    go_ret
    exact ⟨ret_int hR.out.symm, hb⟩
  have HH := Lib.hid hh
  have hc := (isF_30 (by omega)).1 hh
  have hRP := (rightB_iff l).1 hc.1
  have hmax := hRP.max
  obtain ⟨i0, i1⟩ := kindF_pos (l := l) (k := id) (by omega)
  have hF := Lib.hid (show ctlF l id = match attF l id ⟨#[102, 111, 114]⟩ with
    | some s => if labelB (kindF l (namedF l s)) = true then namedF l s else -1
    | none => firstF (fun k => labelB (kindF l k)) (ord l id).tail from if_pos hc)
  have hoe := ord_eq hRP i0 i1
  have hol := ord_len hRP i0 i1
  have hmem := Lib.hid (fun c (h : c ∈ ord l id) => ord_mem hRP i0 i1 h)
  have hAt := show attF l id ⟨#[102, 111, 114]⟩ = atO (atsOf l id) ⟨#[102, 111, 114]⟩ by unfold attF; rw [if_pos (hasB_yes hRP i0 i1)]
  obtain ⟨K, rfl⟩ := Int.eq_ofNat_of_zero_le i0
  have hkl : K < l.length := by omega
  rw [atsOf_at hkl] at hAt
  have hal := one_ats (hRP.node K _ (List.getElem?_eq_getElem hkl)).1
  have hUK := fun W hU' => Nodes.at (w := W) (v := .slice a l.length cap) hU' hkl
  generalize l[K] = x at *
  have hUK := Lib.hid hUK
  have hK0 : (0 : Int) ≤ (K : Int) := by omega
  have hK1 : (K : Int) < (l.length : Int) := by omega
  clear hh hc
  cases ha : attF l (K : Nat) ⟨#[102, 111, 114]⟩ with
  | some s =>
    have HA := Lib.hid (hAt.symm.trans ha)
    rcases namedF_range l s with hf | ⟨hf0, hf1⟩
    · have hR := Lib.hid (show ctlF l (K : Nat) = -1 by rw [hF.out, ha]; show (if labelB (kindF l (namedF l s)) = true then namedF l s else -1) = -1; rw [hf]; split <;> rfl)
      have HF := Lib.hid hf
      clear ha hf hF hoe hAt
      go_enter Try.func37, Try.ntmps37
      go_wp2_with fail
      refine (refIs15_any l _ _ 31 hl hz _ hU).mono ?_
      rintro e w1 ⟨rfl, hb1⟩
      rw [HH.out]
      obtain ⟨b, o, cap', va, vk, hv, hb, c0, c1, c2, c3, c4, hat, hks⟩ := hUK.out _ (hU.kept hb1)
      cases hv
      obtain ⟨a1, cap1, rfl⟩ := hat.len
      go_wp2_with fail
      refine (refAttr14_any x.ats _ ⟨#[102, 111, 114]⟩ (by omega) _ hat).mono ?_
      rintro e w2 ⟨rfl, rfl⟩
      rw [HA.out]
      unfold atT
      go_wp2_with fail
      refine (refByID_any l hRP _ s _ hz (hU.kept hb1)).mono ?_
      rintro e w3 ⟨rfl, hb3⟩
      rw [HF.out]
      go_wp2_with fail
      go_ret
      exact ⟨ret_int hR.out.symm, bs hb1 hb3⟩
    · obtain ⟨q, hq⟩ := Int.eq_ofNat_of_zero_le hf0
      rw [hq] at hf0 hf1
      have hql : q < l.length := by omega
      have HQ := Lib.hid hq
      have hkq := kindF_in hf0 hf1
      obtain ⟨r0, r1⟩ := kindF_range l (q : Nat)
      rw [hkq] at r0 r1
      cases hL : labelB (kOf l (q : Nat))
      · have hR := Lib.hid (show ctlF l (K : Nat) = -1 by rw [hF.out, ha]; show (if labelB (kindF l (namedF l s)) = true then namedF l s else -1) = -1; rw [hq, hkq, hL]; rfl)
        have HL := Lib.hid hL
        clear ha hq hL hF hoe hAt hkq
        go_enter Try.func37, Try.ntmps37
        go_wp2_with fail
        refine (refIs15_any l _ _ 31 hl hz _ hU).mono ?_
        rintro e w1 ⟨rfl, hb1⟩
        rw [HH.out]
        obtain ⟨b, o, cap', va, vk, hv, hb, c0, c1, c2, c3, c4, hat, hks⟩ := hUK.out _ (hU.kept hb1)
        cases hv
        obtain ⟨a1, cap1, rfl⟩ := hat.len
        go_wp2_with fail
        refine (refAttr14_any x.ats _ ⟨#[102, 111, 114]⟩ (by omega) _ hat).mono ?_
        rintro e w2 ⟨rfl, rfl⟩
        rw [HA.out]
        unfold atT
        go_wp2_with fail
        refine (refByID_any l hRP _ s _ hz (hU.kept hb1)).mono ?_
        rintro e w3 ⟨rfl, hb3⟩
        rw [HQ.out]
        go_wp2_with fail
        refine (ref16Kind_any l _ q hql hRP _ (hU.kept (bs hb1 hb3))).mono ?_
        rintro e w4 ⟨rfl, hb4⟩
        go_wp2_with fail
        refine (refIs4_any _ r0 r1 _).mono ?_
        rintro e w5 ⟨rfl, rfl⟩
        rw [HL.out]
        go_wp2_with fail
        go_ret
        exact ⟨ret_int hR.out.symm, bs (bs hb1 hb3) hb4⟩
      · have hR := Lib.hid (show ctlF l (K : Nat) = q by rw [hF.out, ha]; show (if labelB (kindF l (namedF l s)) = true then namedF l s else -1) = q; rw [hq, hkq, hL]; rfl)
        have HL := Lib.hid hL
        clear ha hq hL hF hoe hAt hkq
        go_enter Try.func37, Try.ntmps37
        go_wp2_with fail
        refine (refIs15_any l _ _ 31 hl hz _ hU).mono ?_
        rintro e w1 ⟨rfl, hb1⟩
        rw [HH.out]
        obtain ⟨b, o, cap', va, vk, hv, hb, c0, c1, c2, c3, c4, hat, hks⟩ := hUK.out _ (hU.kept hb1)
        cases hv
        obtain ⟨a1, cap1, rfl⟩ := hat.len
        go_wp2_with fail
        refine (refAttr14_any x.ats _ ⟨#[102, 111, 114]⟩ (by omega) _ hat).mono ?_
        rintro e w2 ⟨rfl, rfl⟩
        rw [HA.out]
        unfold atT
        go_wp2_with fail
        refine (refByID_any l hRP _ s _ hz (hU.kept hb1)).mono ?_
        rintro e w3 ⟨rfl, hb3⟩
        rw [HQ.out]
        go_wp2_with fail
        refine (ref16Kind_any l _ q hql hRP _ (hU.kept (bs hb1 hb3))).mono ?_
        rintro e w4 ⟨rfl, hb4⟩
        go_wp2_with fail
        refine (refIs4_any _ r0 r1 _).mono ?_
        rintro e w5 ⟨rfl, rfl⟩
        rw [HL.out]
        go_wp2_with fail
        go_ret
        exact ⟨ret_int hR.out.symm, bs (bs hb1 hb3) hb4⟩
  | none =>
    have HA := Lib.hid (hAt.symm.trans ha)
    have hR := Lib.hid (show ctlF l (K : Nat) = firstF (fun k => labelB (kindF l k)) (ord l (K : Nat)).tail by rw [hF.out, ha])
    have hop : 0 < (ord l (K : Nat)).length := by rw [hoe]; simp
    clear ha hF hoe hAt
    go_enter Try.func37, Try.ntmps37
    go_wp2_with fail
    refine (refIs15_any l _ _ 31 hl hz _ hU).mono ?_
    rintro e w1 ⟨rfl, hb1⟩
    rw [HH.out]
    obtain ⟨b, o, cap', va, vk, hv, hb, c0, c1, c2, c3, c4, hat, hks⟩ := hUK.out _ (hU.kept hb1)
    cases hv
    obtain ⟨a1, cap1, rfl⟩ := hat.len
    go_wp2_with fail
    refine (refAttr14_any x.ats _ ⟨#[102, 111, 114]⟩ (by omega) _ hat).mono ?_
    rintro e w2 ⟨rfl, rfl⟩
    rw [HA.out]
    unfold atT
    go_wp2_with fail
    refine (refOrder_any l hRP K hkl _ _ hz (hU.kept hb1)).mono ?_
    generalize ord l (K : Nat) = I at hol hmem hR hop ⊢
    rintro e w4 ⟨vo, rfl, hov, hb4⟩
    have hb04 := bs hb1 hb4
    have hg4 := hb04.size
    obtain ⟨g, gc, rfl, _, hcell⟩ := hov.at (by intro e; have := congrArg List.length e; rw [ints_len, List.length_nil] at this; omega)
    rw [ints_len] at hov ⊢
    have hgb : g < w4.heap.size := (World.ownsRow.lt hov g rfl).2
    have hIl : I.length ≤ 400 := by omega
    go_wp2_with fail
    go_loopw [9] (fun i wr => ∃ k : Nat, k + 1 ≤ I.length ∧ i = .int .i64 ((k : Int) + 1) ∧ Hid (∀ x ∈ I.tail.take k, labelB (kindF l x) = false) ∧ Below w4.heap.size w4 wr) (fun i _ => I.length - (intOf i).toNat)
    case atStart => exact ⟨0, by omega, by go_num, Lib.hid (by simp), Below.refl _ _⟩
    case round =>
      obtain ⟨k, hk, rfl, hA, hbel⟩ := hrel
      have hb0r := hb04.trans (hbel.mono hg4)
      have hkk : ((k : Int) + 1).toNat = k + 1 := by omega
      by_cases hlt : k + 1 < I.length
      · have hcc := cellK hbel hgb (hcell (k + 1) (.int .i64 I[k + 1]) (by rw [ints, List.getElem?_map, List.getElem?_eq_getElem hlt]; rfl))
        obtain ⟨d0, d1, _⟩ := hmem.out I[k + 1] (List.getElem_mem hlt)
        have hT := Lib.hid (fun h => tail_snoc (p := fun x => labelB (kindF l x)) hlt hA.out h)
        have hH := Lib.hid (fun h => firstF_tail_hit (p := fun x => labelB (kindF l x)) hlt hA.out h)
        have hk0 : (0 : Int) ≤ (k : Int) + 1 := by omega
        have hk1 : (k : Int) + 1 < (I.length : Int) := by omega
        generalize I[k + 1] = c at *
        obtain ⟨q, rfl⟩ := Int.eq_ofNat_of_zero_le d0
        have hq : q < l.length := by omega
        have hkq := kindF_in d0 d1
        obtain ⟨r0, r1⟩ := kindF_range l (q : Nat)
        rw [hkq] at r0 r1 hT hH
        cases hL : labelB (kOf l (q : Nat))
        · have HL := Lib.hid hL
          have hN := Lib.hid (hT.out hL)
          clear hL hkq
          go_wp2_with fail
          refine (ref16Kind_any l _ q hq hRP _ (hU.kept hb0r)).mono ?_
          rintro e w5 ⟨rfl, hb5⟩
          go_wp2_with fail
          refine (refIs4_any _ r0 r1 _).mono ?_
          rintro e w6 ⟨rfl, rfl⟩
          rw [HL.out]
          go_wp2_with fail
          go_roundw
          case rel => exact ⟨k + 1, by omega, by go_num, hN, bs hbel hb5⟩
          case measure => simp [intOf]; omega
        · have HL := Lib.hid hL
          have hN := Lib.hid (hR.out.trans (hH.out hL))
          clear hL hkq
          go_wp2_with fail
          refine (ref16Kind_any l _ q hq hRP _ (hU.kept hb0r)).mono ?_
          rintro e w5 ⟨rfl, hb5⟩
          have hcc5 := cellK hb5 (Nat.lt_of_lt_of_le hgb hbel.size) hcc
          go_wp2_with fail
          refine (refIs4_any _ r0 r1 _).mono ?_
          rintro e w6 ⟨rfl, rfl⟩
          rw [HL.out]
          go_wp2_with fail
          go_ret
          exact ⟨ret_int hN.out.symm, bs hb0r hb5⟩
      · have hkl2 : k = I.length - 1 := by omega
        have hN := Lib.hid (show ctlF l (K : Nat) = -1 by
          rw [hR.out]
          refine firstF_none ?_
          have := hA.out
          rwa [List.take_of_length_le (by rw [List.length_tail]; omega)] at this)
        clear hkl2
        go_wp2_with fail
        go_ret
        exact ⟨ret_int hN.out.symm, hb0r⟩
end Go.Proofs.Ytenicjebccdekaa
