/-
  A CONTROL's ⟨#[102, 111, 114, 109]⟩: owner.form, owner.Form: the walks.
-/
import Derived.Test.YtenicjebccdekaaKindAt
import Derived.Test.YtenicjebccdekaaNamed
import Derived.Test.YtenicjebccdekaaKinds
namespace Go.Proofs.Ytenicjebccdekaa
set_option linter.unusedVariables false
set_option linter.unusedSimpArgs false
open Go.RowKit PT

theorem kindF_range (l : List Nd) (i : Int) : 0 ≤ kindF l i ∧ kindF l i ≤ 35 := by
  unfold kindF kOf
  split
  · split
    · exact kindOf_range _
    · omega
  · omega
noncomputable def formF (l : List Nd) (id : Int) : Int := if listB (kindF l id) = false ∧ kindF l id ≠ 20 then -1 else match attF l id ⟨#[102, 111, 114, 109]⟩ with
  | some s => if topB l id = 0 then (if kindF l (namedF l s) = 30 then namedF l s else -1) else upB l id ⟨#[102, 111, 114, 109]⟩
  | none => upB l id ⟨#[102, 111, 114, 109]⟩
set_option maxHeartbeats 4000000 in
set_option maxRecDepth 100000 in
theorem ownerForm_any (l : List Nd) (v : Value) (id : Int) (hl : l.length ≤ 1000000000000000000) (hz : ∀ x ∈ l, Fits x) (hz2 : ∀ x ∈ l, x.ats.length ≤ 1000000000000000 ∧ ∀ a ∈ x.ats, a.v.size ≤ 140737488351232) (w : World) (hU : Nodes l v w) :
    Calls Try.prog 53 #[v, .int .i64 id] w fun e w' => e = .returned (.int .i64 (formF l id)) ∧ Below w.heap.size w w' := by
  obtain ⟨a, cap, rfl⟩ := hU.len
  obtain ⟨k0, k1⟩ := kindF_range l id
  have hF := show formF l id = if listB (kindF l id) = false ∧ kindF l id ≠ 20 then -1 else match attF l id ⟨#[102, 111, 114, 109]⟩ with
    | some s => if topB l id = 0 then (if kindF l (namedF l s) = 30 then namedF l s else -1) else upB l id ⟨#[102, 111, 114, 109]⟩
    | none => upB l id ⟨#[102, 111, 114, 109]⟩ from rfl
  obtain ⟨kk, hkk⟩ : ∃ kk, kindF l id = kk := ⟨_, rfl⟩
  rw [hkk] at k0 k1 hF
  have HKI := Lib.hid hkk
  have hF := Lib.hid hF
  clear hkk
  cases hL : listB kk
  · by_cases h20 : kk = 20
    case neg =>
      have hR := Lib.hid (hF.out.trans (if_pos ⟨hL, h20⟩))
      have HL := Lib.hid hL
      have q1 : (kk == 20) = false := intNe h20
      have q2 : (kk != 20) = true := by rw [bne, q1]; rfl
      clear hL h20
      go_enter Try.func53, Try.ntmps53
      go_wp2_with fail
      refine (ownerKind_any l _ id hl hz2 _ hU).mono ?_
      rintro e w1 ⟨rfl, hb1⟩
      rw [HKI.out]
      go_wp2_with fail
      refine (kindsListed_any kk k0 k1 _).mono ?_
      rintro e w2 ⟨rfl, rfl⟩
      rw [HL.out]
      go_wp2_with fail
      go_ret
      exact ⟨ret_int hR.out.symm, hb1⟩
    have hC := Lib.hid (hF.out.trans (if_neg (fun h => h.2 h20)))
    have HL := Lib.hid hL
    clear hL
    subst h20
    go_enter Try.func53, Try.ntmps53
    go_wp2_with fail
    refine (ownerKind_any l _ id hl hz2 _ hU).mono ?_
    rintro e w1 ⟨rfl, hb1⟩
    rw [HKI.out]
    go_wp2_with fail
    refine (kindsListed_any 20 k0 k1 _).mono ?_
    rintro e w2 ⟨rfl, rfl⟩
    rw [HL.out]
    cases ha : attF l id ⟨#[102, 111, 114, 109]⟩ with
    | none =>
      have hR := Lib.hid (show formF l id = upB l id ⟨#[102, 111, 114, 109]⟩ by rw [hC.out, ha])
      have HA := Lib.hid ha
      clear ha
      go_wp2_with fail
      refine (attr_any l _ id ⟨#[102, 111, 114, 109]⟩ hl hz _ (hU.kept hb1)).mono ?_
      rintro e w3 ⟨rfl, hb3⟩
      rw [HA.out]
      have hb13 := hb1.trans (hb3.mono hb1.size)
      unfold atT
      go_wp2_with fail
      refine (up_any l _ id ⟨#[102, 111, 114, 109]⟩ hl hz _ (hU.kept hb13)).mono ?_
      rintro e w9 ⟨rfl, hb9⟩
      go_wp2_with fail
      go_ret
      exact ⟨ret_int hR.out.symm, hb13.trans (hb9.mono hb13.size)⟩
    | some s =>
      have HA := Lib.hid ha
      by_cases ht : topB l id = 0
      · by_cases hf : kindF l (namedF l s) = 30
        · have hR := Lib.hid (show formF l id = namedF l s by rw [hC.out, ha]; show (if topB l id = 0 then (if kindF l (namedF l s) = 30 then namedF l s else -1) else upB l id ⟨#[102, 111, 114, 109]⟩) = namedF l s; rw [if_pos ht, if_pos hf])
          have HT := Lib.hid ht
          have HK := Lib.hid hf
          clear ha ht hf
          go_wp2_with fail
          refine (attr_any l _ id ⟨#[102, 111, 114, 109]⟩ hl hz _ (hU.kept hb1)).mono ?_
          rintro e w3 ⟨rfl, hb3⟩
          rw [HA.out]
          have hb13 := hb1.trans (hb3.mono hb1.size)
          unfold atT
          go_wp2_with fail
          refine (top_any l _ id hl hz _ (hU.kept hb13)).mono ?_
          rintro e w4 ⟨rfl, hb4⟩
          rw [HT.out]
          have hb14 := hb13.trans (hb4.mono hb13.size)
          go_wp2_with fail
          refine (named_doc_any l _ s hl hz _ (hU.kept hb14)).mono ?_
          rintro e w5 ⟨rfl, hb5⟩
          have hb15 := hb14.trans (hb5.mono hb14.size)
          go_wp2_with fail
          refine (ownerKind_any l _ _ hl hz2 _ (hU.kept hb15)).mono ?_
          rintro e w6 ⟨rfl, hb6⟩
          rw [HK.out]
          go_wp2_with fail
          go_ret
          exact ⟨ret_int hR.out.symm, hb15.trans (hb6.mono hb15.size)⟩
        · have hR := Lib.hid (show formF l id = -1 by rw [hC.out, ha]; show (if topB l id = 0 then (if kindF l (namedF l s) = 30 then namedF l s else -1) else upB l id ⟨#[102, 111, 114, 109]⟩) = -1; rw [if_pos ht, if_neg hf])
          have HT := Lib.hid ht
          have hf1 : (kindF l (namedF l s) == 30) = false := intNe hf
          have hf2 : (kindF l (namedF l s) != 30) = true := by rw [bne, hf1]; rfl
          clear ha ht hf
          go_wp2_with fail
          refine (attr_any l _ id ⟨#[102, 111, 114, 109]⟩ hl hz _ (hU.kept hb1)).mono ?_
          rintro e w3 ⟨rfl, hb3⟩
          rw [HA.out]
          have hb13 := hb1.trans (hb3.mono hb1.size)
          unfold atT
          go_wp2_with fail
          refine (top_any l _ id hl hz _ (hU.kept hb13)).mono ?_
          rintro e w4 ⟨rfl, hb4⟩
          rw [HT.out]
          have hb14 := hb13.trans (hb4.mono hb13.size)
          go_wp2_with fail
          refine (named_doc_any l _ s hl hz _ (hU.kept hb14)).mono ?_
          rintro e w5 ⟨rfl, hb5⟩
          have hb15 := hb14.trans (hb5.mono hb14.size)
          go_wp2_with fail
          refine (ownerKind_any l _ _ hl hz2 _ (hU.kept hb15)).mono ?_
          rintro e w6 ⟨rfl, hb6⟩
          go_wp2_with fail
          go_ret
          exact ⟨ret_int hR.out.symm, hb15.trans (hb6.mono hb15.size)⟩
      · have hR := Lib.hid (show formF l id = upB l id ⟨#[102, 111, 114, 109]⟩ by rw [hC.out, ha]; show (if topB l id = 0 then (if kindF l (namedF l s) = 30 then namedF l s else -1) else upB l id ⟨#[102, 111, 114, 109]⟩) = upB l id ⟨#[102, 111, 114, 109]⟩; rw [if_neg ht])
        have ht1 : (topB l id == 0) = false := intNe ht
        clear ha ht
        go_wp2_with fail
        refine (attr_any l _ id ⟨#[102, 111, 114, 109]⟩ hl hz _ (hU.kept hb1)).mono ?_
        rintro e w3 ⟨rfl, hb3⟩
        rw [HA.out]
        have hb13 := hb1.trans (hb3.mono hb1.size)
        unfold atT
        go_wp2_with fail
        refine (top_any l _ id hl hz _ (hU.kept hb13)).mono ?_
        rintro e w4 ⟨rfl, hb4⟩
        have hb14 := hb13.trans (hb4.mono hb13.size)
        go_wp2_with fail
        refine (up_any l _ id ⟨#[102, 111, 114, 109]⟩ hl hz _ (hU.kept hb14)).mono ?_
        rintro e w9 ⟨rfl, hb9⟩
        go_wp2_with fail
        go_ret
        exact ⟨ret_int hR.out.symm, hb14.trans (hb9.mono hb14.size)⟩
  · have hC := Lib.hid (hF.out.trans (if_neg (fun h => by rw [hL] at h; cases h.1)))
    have HL := Lib.hid hL
    clear hL
    go_enter Try.func53, Try.ntmps53
    go_wp2_with fail
    refine (ownerKind_any l _ id hl hz2 _ hU).mono ?_
    rintro e w1 ⟨rfl, hb1⟩
    rw [HKI.out]
    go_wp2_with fail
    refine (kindsListed_any kk k0 k1 _).mono ?_
    rintro e w2 ⟨rfl, rfl⟩
    rw [HL.out]
    cases ha : attF l id ⟨#[102, 111, 114, 109]⟩ with
    | none =>
      have hR := Lib.hid (show formF l id = upB l id ⟨#[102, 111, 114, 109]⟩ by rw [hC.out, ha])
      have HA := Lib.hid ha
      clear ha
      go_wp2_with fail
      refine (attr_any l _ id ⟨#[102, 111, 114, 109]⟩ hl hz _ (hU.kept hb1)).mono ?_
      rintro e w3 ⟨rfl, hb3⟩
      rw [HA.out]
      have hb13 := hb1.trans (hb3.mono hb1.size)
      unfold atT
      go_wp2_with fail
      refine (up_any l _ id ⟨#[102, 111, 114, 109]⟩ hl hz _ (hU.kept hb13)).mono ?_
      rintro e w9 ⟨rfl, hb9⟩
      go_wp2_with fail
      go_ret
      exact ⟨ret_int hR.out.symm, hb13.trans (hb9.mono hb13.size)⟩
    | some s =>
      have HA := Lib.hid ha
      by_cases ht : topB l id = 0
      · by_cases hf : kindF l (namedF l s) = 30
        · have hR := Lib.hid (show formF l id = namedF l s by rw [hC.out, ha]; show (if topB l id = 0 then (if kindF l (namedF l s) = 30 then namedF l s else -1) else upB l id ⟨#[102, 111, 114, 109]⟩) = namedF l s; rw [if_pos ht, if_pos hf])
          have HT := Lib.hid ht
          have HK := Lib.hid hf
          clear ha ht hf
          go_wp2_with fail
          refine (attr_any l _ id ⟨#[102, 111, 114, 109]⟩ hl hz _ (hU.kept hb1)).mono ?_
          rintro e w3 ⟨rfl, hb3⟩
          rw [HA.out]
          have hb13 := hb1.trans (hb3.mono hb1.size)
          unfold atT
          go_wp2_with fail
          refine (top_any l _ id hl hz _ (hU.kept hb13)).mono ?_
          rintro e w4 ⟨rfl, hb4⟩
          rw [HT.out]
          have hb14 := hb13.trans (hb4.mono hb13.size)
          go_wp2_with fail
          refine (named_doc_any l _ s hl hz _ (hU.kept hb14)).mono ?_
          rintro e w5 ⟨rfl, hb5⟩
          have hb15 := hb14.trans (hb5.mono hb14.size)
          go_wp2_with fail
          refine (ownerKind_any l _ _ hl hz2 _ (hU.kept hb15)).mono ?_
          rintro e w6 ⟨rfl, hb6⟩
          rw [HK.out]
          go_wp2_with fail
          go_ret
          exact ⟨ret_int hR.out.symm, hb15.trans (hb6.mono hb15.size)⟩
        · have hR := Lib.hid (show formF l id = -1 by rw [hC.out, ha]; show (if topB l id = 0 then (if kindF l (namedF l s) = 30 then namedF l s else -1) else upB l id ⟨#[102, 111, 114, 109]⟩) = -1; rw [if_pos ht, if_neg hf])
          have HT := Lib.hid ht
          have hf1 : (kindF l (namedF l s) == 30) = false := intNe hf
          have hf2 : (kindF l (namedF l s) != 30) = true := by rw [bne, hf1]; rfl
          clear ha ht hf
          go_wp2_with fail
          refine (attr_any l _ id ⟨#[102, 111, 114, 109]⟩ hl hz _ (hU.kept hb1)).mono ?_
          rintro e w3 ⟨rfl, hb3⟩
          rw [HA.out]
          have hb13 := hb1.trans (hb3.mono hb1.size)
          unfold atT
          go_wp2_with fail
          refine (top_any l _ id hl hz _ (hU.kept hb13)).mono ?_
          rintro e w4 ⟨rfl, hb4⟩
          rw [HT.out]
          have hb14 := hb13.trans (hb4.mono hb13.size)
          go_wp2_with fail
          refine (named_doc_any l _ s hl hz _ (hU.kept hb14)).mono ?_
          rintro e w5 ⟨rfl, hb5⟩
          have hb15 := hb14.trans (hb5.mono hb14.size)
          go_wp2_with fail
          refine (ownerKind_any l _ _ hl hz2 _ (hU.kept hb15)).mono ?_
          rintro e w6 ⟨rfl, hb6⟩
          go_wp2_with fail
          go_ret
          exact ⟨ret_int hR.out.symm, hb15.trans (hb6.mono hb15.size)⟩
      · have hR := Lib.hid (show formF l id = upB l id ⟨#[102, 111, 114, 109]⟩ by rw [hC.out, ha]; show (if topB l id = 0 then (if kindF l (namedF l s) = 30 then namedF l s else -1) else upB l id ⟨#[102, 111, 114, 109]⟩) = upB l id ⟨#[102, 111, 114, 109]⟩; rw [if_neg ht])
        have ht1 : (topB l id == 0) = false := intNe ht
        clear ha ht
        go_wp2_with fail
        refine (attr_any l _ id ⟨#[102, 111, 114, 109]⟩ hl hz _ (hU.kept hb1)).mono ?_
        rintro e w3 ⟨rfl, hb3⟩
        rw [HA.out]
        have hb13 := hb1.trans (hb3.mono hb1.size)
        unfold atT
        go_wp2_with fail
        refine (top_any l _ id hl hz _ (hU.kept hb13)).mono ?_
        rintro e w4 ⟨rfl, hb4⟩
        have hb14 := hb13.trans (hb4.mono hb13.size)
        go_wp2_with fail
        refine (up_any l _ id ⟨#[102, 111, 114, 109]⟩ hl hz _ (hU.kept hb14)).mono ?_
        rintro e w9 ⟨rfl, hb9⟩
        go_wp2_with fail
        go_ret
        exact ⟨ret_int hR.out.symm, hb14.trans (hb9.mono hb14.size)⟩
theorem RightP.vals {l : List Nd} (h : RightP l) : ∀ x ∈ l, x.ats.length ≤ 1000000000000000 ∧ ∀ a ∈ x.ats, a.v.size ≤ 140737488351232 := fun x hx => by
  obtain ⟨i, hi, rfl⟩ := List.getElem_of_mem hx
  have h1 := (h.node i _ (List.getElem?_eq_getElem hi)).1
  exact ⟨Nat.le_trans (one_ats h1) (by omega), fun a ha => Nat.le_trans (one_vals h1 a ha) (by omega)⟩
noncomputable def FormF (l : List Nd) (id : Int) : Int := if rightB l = true then formF l id else -1
set_option maxHeartbeats 4000000 in
set_option maxRecDepth 100000 in
theorem ownerFormTop_any (l : List Nd) (v : Value) (id : Int) (hl : l.length ≤ 1000000000000000000) (hz : ∀ x ∈ l, Fits x) (w : World) (hU : Nodes l v w) :
    Calls Try.prog 15 #[v, .int .i64 id] w fun e w' => e = .returned (.int .i64 (FormF l id)) ∧ Below w.heap.size w w' := by
  obtain ⟨a, cap, rfl⟩ := hU.len
  cases hr : rightB l
  · have hR := Lib.hid (show FormF l id = -1 from if_neg (fun h => by rw [hr] at h; cases h))
    have HR := Lib.hid hr
    clear hr
    go_enter Try.func15, Try.ntmps15
    go_wp2_with fail
    refine (right_any l _ hl hz _ hU).mono ?_
    rintro e w' ⟨rfl, hb⟩
    rw [HR.out]
    go_wp2_with fail
    go_ret
    exact ⟨ret_int hR.out.symm, hb⟩
  have hR := Lib.hid (show FormF l id = formF l id from if_pos hr)
  have HR := Lib.hid hr
  have hRP := (rightB_iff l).1 hr
  clear hr
  go_enter Try.func15, Try.ntmps15
  go_wp2_with fail
  refine (right_any l _ hl hz _ hU).mono ?_
  rintro e w' ⟨rfl, hb⟩
  rw [HR.out]
  go_wp2_with fail
  refine (ownerForm_any l _ id hl hz hRP.vals _ (hU.kept hb)).mono ?_
  rintro e w2 ⟨rfl, hb2⟩
  go_wp2_with fail
  go_ret
  exact ⟨ret_int hR.out.symm, hb.trans (hb2.mono hb.size)⟩
noncomputable def isF (l : List Nd) (id k : Int) : Bool := hasB l id && decide (kOf l id = k)
set_option maxHeartbeats 4000000 in
set_option maxRecDepth 100000 in
theorem refIs15_any (l : List Nd) (v : Value) (id k : Int) (hl : l.length ≤ 1000000000000000000) (hz : ∀ x ∈ l, Fits x) (w : World) (hU : Nodes l v w) :
    Calls Try.prog 62 #[v, .int .i64 id, .int .i64 k] w fun e w' => e = .returned (.bool (isF l id k)) ∧ Below w.heap.size w w' := by
  obtain ⟨a, cap, rfl⟩ := hU.len
  cases hh : hasB l id
  · have HH := Lib.hid hh
    have hR := Lib.hid (show isF l id k = false by unfold isF; rw [hh]; rfl)
    clear hh
    go_enter Try.func62, Try.ntmps62
    go_wp2_with fail
    refine (refHas10_any l _ id hl hz _ hU).mono ?_
    rintro e w' ⟨rfl, hb⟩
    rw [HH.out]
    go_wp2_with fail
    go_ret
    exact ⟨ret_bool hR.out.symm, hb⟩
  have HH := Lib.hid hh
  have hR0 := Lib.hid (show isF l id k = decide (kOf l id = k) by unfold isF; rw [hh]; rfl)
  obtain ⟨h0, h1, hRP⟩ := (hasB_iff l id).1 hh
  obtain ⟨K, rfl⟩ := Int.eq_ofNat_of_zero_le h0
  have hkl : K < l.length := by omega
  clear hh
  go_enter Try.func62, Try.ntmps62
  go_wp2_with fail
  refine (refHas10_any l _ _ hl hz _ hU).mono ?_
  rintro e w' ⟨rfl, hbW⟩
  rw [HH.out]
  have hgW := hbW.size
  obtain ⟨b, o, cap', va, vk, hv, hb, c0, c1, c2, c3, c4, hat, hks⟩ := (hU.kept hbW).at hkl
  cases hv
  have hke := Lib.hid (kOf_at hkl)
  have hz1 := (hRP.node K _ (List.getElem?_eq_getElem hkl)).1
  have z1 := one_ats hz1
  have z2 := one_vals hz1
  generalize l[K] = x at *
  clear hz1
  have hK0 : (0 : Int) ≤ (K : Int) := by omega
  have hK1 : (K : Int) < (l.length : Int) := by omega
  by_cases hk : kindOf x = k
  · have hR := Lib.hid (show isF l (K : Nat) k = true by rw [hR0.out, hke.out]; exact decide_eq_true hk)
    have HK := Lib.hid hk
    clear hk
    go_wp2_with fail
    refine (refOf11_any x va vk (by omega) (fun a ha => Nat.le_trans (z2 a ha) (by omega)) _ hat).mono ?_
    rintro e w2 ⟨rfl, hb9⟩
    rw [HK.out]
    go_wp2_with fail
    go_ret
    exact ⟨ret_bool hR.out.symm, hbW.trans (hb9.mono hgW)⟩
  · have hR := Lib.hid (show isF l (K : Nat) k = false by rw [hR0.out, hke.out]; exact decide_eq_false hk)
    have q := intNe hk
    clear hk
    go_wp2_with fail
    refine (refOf11_any x va vk (by omega) (fun a ha => Nat.le_trans (z2 a ha) (by omega)) _ hat).mono ?_
    rintro e w2 ⟨rfl, hb9⟩
    go_wp2_with fail
    go_ret
    exact ⟨ret_bool hR.out.symm, hbW.trans (hb9.mono hgW)⟩
end Go.Proofs.Ytenicjebccdekaa
