/-
  GOING UP IN A RIGHT DOCUMENT: has, Top, Up, Within: the walks.
-/
import Derived.Test.YtenicjebccdekaaPlainClimb
import Derived.Test.YtenicjebccdekaaRight
namespace Go.Proofs.Ytenicjebccdekaa
set_option linter.unusedVariables false
set_option linter.unusedSimpArgs false
open Go.RowKit PT

set_option maxHeartbeats 4000000 in
set_option maxRecDepth 100000 in
theorem has_any (l : List Nd) (v : Value) (id : Int) (hl : l.length ≤ 1000000000000000000) (hz : ∀ x ∈ l, Fits x) (w : World) (hU : Nodes l v w) :
    Calls Try.prog 114 #[v, .int .i64 id] w fun e w' => e = .returned (.bool (hasB l id)) ∧ Below w.heap.size w w' := by
  obtain ⟨a, cap, rfl⟩ := hU.len
  by_cases h0 : 0 ≤ id
  case neg =>
    have hR := Lib.hid (show hasB l id = false by unfold hasB; rw [decide_eq_false h0]; rfl)
    have h0' : decide (0 ≤ id) = false := decide_eq_false h0
    go_enter Try.func114, Try.ntmps114
    go_wp2_with fail
    go_ret
    exact ⟨ret_bool hR.out.symm, Below.refl _ _⟩
  by_cases h1 : id < l.length
  case neg =>
    have hR := Lib.hid (show hasB l id = false by unfold hasB; rw [decide_eq_false h1, decide_eq_true h0]; rfl)
    have h1' : decide (id < (l.length : Int)) = false := decide_eq_false h1
    go_enter Try.func114, Try.ntmps114
    go_wp2_with fail
    go_ret
    exact ⟨ret_bool hR.out.symm, Below.refl _ _⟩
  have hR := Lib.hid (show hasB l id = rightB l by unfold hasB; rw [decide_eq_true h1, decide_eq_true h0]; rfl)
  go_enter Try.func114, Try.ntmps114
  go_wp2_with fail
  refine (right_any l _ hl hz _ hU).mono ?_
  rintro e w' ⟨rfl, hb⟩
  go_wp2_with fail
  go_ret
  exact ⟨ret_bool hR.out.symm, hb⟩
set_option maxHeartbeats 4000000 in
set_option maxRecDepth 100000 in
theorem refHas10_any (l : List Nd) (v : Value) (id : Int) (hl : l.length ≤ 1000000000000000000) (hz : ∀ x ∈ l, Fits x) (w : World) (hU : Nodes l v w) :
    Calls Try.prog 54 #[v, .int .i64 id] w fun e w' => e = .returned (.bool (hasB l id)) ∧ Below w.heap.size w w' := by
  obtain ⟨a, cap, rfl⟩ := hU.len
  by_cases h0 : 0 ≤ id
  case neg =>
    have hR := Lib.hid (show hasB l id = false by unfold hasB; rw [decide_eq_false h0]; rfl)
    have h0' : decide (0 ≤ id) = false := decide_eq_false h0
    go_enter Try.func54, Try.ntmps54
    go_wp2_with fail
    go_ret
    exact ⟨ret_bool hR.out.symm, Below.refl _ _⟩
  by_cases h1 : id < l.length
  case neg =>
    have hR := Lib.hid (show hasB l id = false by unfold hasB; rw [decide_eq_false h1, decide_eq_true h0]; rfl)
    have h1' : decide (id < (l.length : Int)) = false := decide_eq_false h1
    go_enter Try.func54, Try.ntmps54
    go_wp2_with fail
    go_ret
    exact ⟨ret_bool hR.out.symm, Below.refl _ _⟩
  have hR := Lib.hid (show hasB l id = rightB l by unfold hasB; rw [decide_eq_true h1, decide_eq_true h0]; rfl)
  go_enter Try.func54, Try.ntmps54
  go_wp2_with fail
  refine (refRight_any l _ hl hz _ hU).mono ?_
  rintro e w' ⟨rfl, hb⟩
  go_wp2_with fail
  go_ret
  exact ⟨ret_bool hR.out.symm, hb⟩
set_option maxHeartbeats 4000000 in
set_option maxRecDepth 100000 in
theorem top_any (l : List Nd) (v : Value) (id : Int) (hl : l.length ≤ 1000000000000000000) (hz : ∀ x ∈ l, Fits x) (w : World) (hU : Nodes l v w) :
    Calls Try.prog 98 #[v, .int .i64 id] w fun e w' => e = .returned (.int .i64 (topB l id)) ∧ Below w.heap.size w w' := by
  have hU0 := hU
  obtain ⟨a, cap, rfl⟩ := hU.len
  cases hh : hasB l id
  · have HH := Lib.hid hh
    have hR := Lib.hid (show topB l id = -1 by unfold topB; rw [hh]; rfl)
    clear hh
    go_enter Try.func98, Try.ntmps98
    go_wp2_with fail
    refine (has_any l _ id hl hz _ hU).mono ?_
    rintro e w' ⟨rfl, hb⟩
    rw [HH.out]
    go_wp2_with fail
    go_ret
    exact ⟨ret_int hR.out.symm, hb⟩
  have HH := Lib.hid hh
  have hR := Lib.hid (show topB l id = topF l id by unfold topB; rw [hh]; rfl)
  obtain ⟨h0, h1, hRP⟩ := (hasB_iff l id).1 hh
  obtain ⟨K, rfl⟩ := Int.eq_ofNat_of_zero_le h0
  have hkl : K < l.length := by omega
  clear hh
  go_enter Try.func98, Try.ntmps98
  go_wp2_with fail
  refine (has_any l _ _ hl hz _ hU).mono ?_
  rintro e w' ⟨rfl, hbW⟩
  rw [HH.out]
  have hUW := hU.kept hbW
  go_wp2_with fail
  go_loop [1] (fun i => ∃ k : Nat, k < l.length ∧ i = .int .i64 k ∧ Hid (topF l k = topF l (K : Nat))) (fun i => dep l (intOf i))
  case atStart => exact ⟨K, hkl, rfl, Lib.hid rfl⟩
  case round =>
    obtain ⟨k, hk, rfl, hA⟩ := hrel
    obtain ⟨b, o, cap', va, vk, hv, hb, c0, c1, c2, c3, c4, hat, hks⟩ := hUW.at hk
    cases hv
    have hp := Lib.hid (paOf_at hk)
    have hpl := (hRP.node k _ (List.getElem?_eq_getElem hk)).2
    have hd := Lib.hid (dep_lt hRP (k := (k : Int)) (by omega) (by omega))
    generalize l[k] = x at *
    have hk0 : (0 : Int) ≤ (k : Int) := by omega
    have hk1 : (k : Int) < (l.length : Int) := by omega
    by_cases h2 : 0 ≤ x.pa
    · obtain ⟨p, hpp⟩ := Int.eq_ofNat_of_zero_le h2
      rw [hpp] at c3
      have hN := Lib.hid (show topF l p = topF l (K : Nat) by rw [← hA.out, topF_go hRP hk0 hk1 (by rw [hp.out]; exact h2), hp.out, hpp])
      have hD := Lib.hid (show dep l (p : Int) < dep l (k : Int) by have := hd.out; rwa [hp.out, hpp] at this)
      have hpl2 : p < l.length := by omega
      clear h2 hpp hpl
      have h2 : (0 : Int) ≤ (p : Int) := by omega
      go_wp2_with fail
      go_round
      case rel => exact ⟨p, hpl2, rfl, hN⟩
      case measure => simp [intOf]; exact hD.out
    · have h2' : decide (0 ≤ x.pa) = false := decide_eq_false h2
      have hN := Lib.hid (show topF l (K : Nat) = k by rw [← hA.out]; exact topF_end hRP hk0 hk1 (by rw [hp.out]; omega))
      go_wp2_with fail
      go_ret
      exact ⟨ret_int (by rw [hR.out, hN.out]), hbW⟩
set_option maxHeartbeats 4000000 in
set_option maxRecDepth 100000 in
theorem refTop_any (l : List Nd) (v : Value) (K : Nat) (hkl : K < l.length) (hRP : RightP l) (w : World) (hUW : Nodes l v w) :
    Calls Try.prog 28 #[v, .int .i64 K] w fun e w' => e = .returned (.int .i64 (topF l K)) ∧ w = w' := by
  obtain ⟨a, cap, rfl⟩ := hUW.len
  go_enter Try.func28, Try.ntmps28
  go_wp2_with fail
  go_loop [1] (fun i => ∃ k : Nat, k < l.length ∧ i = .int .i64 k ∧ Hid (topF l k = topF l (K : Nat))) (fun i => dep l (intOf i))
  case atStart => exact ⟨K, hkl, rfl, Lib.hid rfl⟩
  case round =>
    obtain ⟨k, hk, rfl, hA⟩ := hrel
    obtain ⟨b, o, cap', va, vk, hv, hb, c0, c1, c2, c3, c4, hat, hks⟩ := hUW.at hk
    cases hv
    have hp := Lib.hid (paOf_at hk)
    have hpl := (hRP.node k _ (List.getElem?_eq_getElem hk)).2
    have hd := Lib.hid (dep_lt hRP (k := (k : Int)) (by omega) (by omega))
    generalize l[k] = x at *
    have hk0 : (0 : Int) ≤ (k : Int) := by omega
    have hk1 : (k : Int) < (l.length : Int) := by omega
    by_cases h2 : 0 ≤ x.pa
    · obtain ⟨p, hpp⟩ := Int.eq_ofNat_of_zero_le h2
      rw [hpp] at c3
      have hN := Lib.hid (show topF l p = topF l (K : Nat) by rw [← hA.out, topF_go hRP hk0 hk1 (by rw [hp.out]; exact h2), hp.out, hpp])
      have hD := Lib.hid (show dep l (p : Int) < dep l (k : Int) by have := hd.out; rwa [hp.out, hpp] at this)
      have hpl2 : p < l.length := by omega
      clear h2 hpp hpl
      have h2 : (0 : Int) ≤ (p : Int) := by omega
      go_wp2_with fail
      go_round
      case rel => exact ⟨p, hpl2, rfl, hN⟩
      case measure => simp [intOf]; exact hD.out
    · have h2' : decide (0 ≤ x.pa) = false := decide_eq_false h2
      have hN := Lib.hid (show topF l (K : Nat) = k by rw [← hA.out]; exact topF_end hRP hk0 hk1 (by rw [hp.out]; omega))
      go_wp2_with fail
      go_ret
      exact ⟨ret_int hN.out.symm, rfl⟩
set_option maxHeartbeats 4000000 in
set_option maxRecDepth 100000 in
theorem up_any (l : List Nd) (v : Value) (id : Int) (s : ByteArray) (hl : l.length ≤ 1000000000000000000) (hz : ∀ x ∈ l, Fits x) (w : World) (hU : Nodes l v w) :
    Calls Try.prog 99 #[v, .int .i64 id, .string s] w fun e w' => e = .returned (.int .i64 (upB l id s)) ∧ Below w.heap.size w w' := by
  obtain ⟨a, cap, rfl⟩ := hU.len
  cases hh : hasB l id
  · have HH := Lib.hid hh
    have hR := Lib.hid (show upB l id s = -1 by unfold upB; rw [hh]; rfl)
    clear hh
    go_enter Try.func99, Try.ntmps99
    go_wp2_with fail
    refine (has_any l _ id hl hz _ hU).mono ?_
    rintro e w' ⟨rfl, hb⟩
    rw [HH.out]
    go_wp2_with fail
    go_ret
    exact ⟨ret_int hR.out.symm, hb⟩
  have HH := Lib.hid hh
  have hR := Lib.hid (show upB l id s = nearF l s (paOf l id) by unfold upB; rw [hh]; rfl)
  obtain ⟨h0, h1, hRP⟩ := (hasB_iff l id).1 hh
  obtain ⟨K, rfl⟩ := Int.eq_ofNat_of_zero_le h0
  have hkl : K < l.length := by omega
  clear hh
  go_enter Try.func99, Try.ntmps99
  go_wp2_with fail
  refine (has_any l _ _ hl hz _ hU).mono ?_
  rintro e w' ⟨rfl, hbW⟩
  rw [HH.out]
  have hUW := hU.kept hbW
  obtain ⟨bK, oK, capK, vaK, vkK, hvK, hbK, g0, g1, g2, g3, g4, _, _⟩ := hUW.at hkl
  cases hvK
  have hpaK := Lib.hid (paOf_at hkl)
  have hpK := (hRP.node K _ (List.getElem?_eq_getElem hkl)).2
  generalize l[K] = y at *
  have hK0 : (0 : Int) ≤ (K : Int) := by omega
  have hK1 : (K : Int) < (l.length : Int) := by omega
  go_wp2_with fail
  go_loop [7] (fun i => ∃ z : Int, -1 ≤ z ∧ z < l.length ∧ i = .int .i64 z ∧ Hid (nearF l s z = nearF l s (paOf l (K : Nat)))) (fun i => dep l (intOf i))
  case atStart => exact ⟨_, hpK.1, hpK.2, rfl, Lib.hid (by rw [hpaK.out])⟩
  case round =>
    obtain ⟨z, hz0, hz1, rfl, hA⟩ := hrel
    by_cases h2 : 0 ≤ z
    case neg =>
      have h2' : decide (0 ≤ z) = false := decide_eq_false h2
      have hN := Lib.hid (show nearF l s (paOf l (K : Nat)) = z by rw [← hA.out, nearF_neg l s (by omega)]; omega)
      have hz' : z = -1 := by omega
      subst hz'
      go_wp2_with fail
      go_ret
      exact ⟨ret_int (by rw [hR.out, hN.out]), hbW⟩
    obtain ⟨k, rfl⟩ := Int.eq_ofNat_of_zero_le h2
    have hk : k < l.length := by omega
    obtain ⟨b, o, cap', va, vk, hv, hb, c0, c1, c2, c3, c4, hat, hks⟩ := hUW.at hk
    cases hv
    have hp := Lib.hid (paOf_at hk)
    have hnm := Lib.hid (nmOf_at hk)
    have hpl := (hRP.node k _ (List.getElem?_eq_getElem hk)).2
    have hd := Lib.hid (dep_lt hRP (k := (k : Int)) (by omega) (by omega))
    generalize l[k] = x at *
    have hk0 : (0 : Int) ≤ (k : Int) := by omega
    have hk1 : (k : Int) < (l.length : Int) := by omega
    have hD := Lib.hid (show dep l x.pa < dep l (k : Int) by have := hd.out; rwa [hp.out] at this)
    obtain ⟨hpl1, hpl2⟩ := hpl
    by_cases h3 : x.nm = s
    · have hN := Lib.hid (show nearF l s (paOf l (K : Nat)) = k by rw [← hA.out]; exact nearF_hit hRP hk0 hk1 (by rw [hnm.out]; exact h3))
      have hq := sTrue h3
      have hq2 : (x.nm.toList != s.toList) = false := by rw [bne, hq]; rfl
      clear h3
      go_wp2_with fail
      go_ret
      exact ⟨ret_int (by rw [hR.out, hN.out]), hbW⟩
    · have hN := Lib.hid (show nearF l s x.pa = nearF l s (paOf l (K : Nat)) by rw [← hA.out, nearF_go hRP hk0 hk1 (by rw [hnm.out]; exact h3), hp.out])
      have hq := sFalse h3
      have hq2 : (x.nm.toList != s.toList) = true := by rw [bne, hq]; rfl
      clear h3
      go_wp2_with fail
      go_round
      case rel => exact ⟨x.pa, hpl1, hpl2, rfl, hN⟩
      case measure => simp [intOf]; exact hD.out
set_option maxHeartbeats 4000000 in
set_option maxRecDepth 100000 in
theorem refUp_any (l : List Nd) (v : Value) (K : Nat) (s : ByteArray) (hkl : K < l.length) (hRP : RightP l) (w : World) (hUW : Nodes l v w) :
    Calls Try.prog 58 #[v, .int .i64 K, .string s] w fun e w' => e = .returned (.int .i64 (nearF l s (paOf l K))) ∧ w = w' := by
  obtain ⟨a, cap, rfl⟩ := hUW.len
  obtain ⟨bK, oK, capK, vaK, vkK, hvK, hbK, g0, g1, g2, g3, g4, _, _⟩ := hUW.at hkl
  cases hvK
  have hpaK := Lib.hid (paOf_at hkl)
  have hpK := (hRP.node K _ (List.getElem?_eq_getElem hkl)).2
  generalize l[K] = y at *
  have hK0 : (0 : Int) ≤ (K : Int) := by omega
  have hK1 : (K : Int) < (l.length : Int) := by omega
  go_enter Try.func58, Try.ntmps58
  go_wp2_with fail
  go_loop [7] (fun i => ∃ z : Int, -1 ≤ z ∧ z < l.length ∧ i = .int .i64 z ∧ Hid (nearF l s z = nearF l s (paOf l (K : Nat)))) (fun i => dep l (intOf i))
  case atStart => exact ⟨_, hpK.1, hpK.2, rfl, Lib.hid (by rw [hpaK.out])⟩
  case round =>
    obtain ⟨z, hz0, hz1, rfl, hA⟩ := hrel
    by_cases h2 : 0 ≤ z
    case neg =>
      have h2' : decide (0 ≤ z) = false := decide_eq_false h2
      have hN := Lib.hid (show nearF l s (paOf l (K : Nat)) = z by rw [← hA.out, nearF_neg l s (by omega)]; omega)
      have hz' : z = -1 := by omega
      subst hz'
      go_wp2_with fail
      go_ret
      exact ⟨ret_int hN.out.symm, rfl⟩
    obtain ⟨k, rfl⟩ := Int.eq_ofNat_of_zero_le h2
    have hk : k < l.length := by omega
    obtain ⟨b, o, cap', va, vk, hv, hb, c0, c1, c2, c3, c4, hat, hks⟩ := hUW.at hk
    cases hv
    have hp := Lib.hid (paOf_at hk)
    have hnm := Lib.hid (nmOf_at hk)
    have hpl := (hRP.node k _ (List.getElem?_eq_getElem hk)).2
    have hd := Lib.hid (dep_lt hRP (k := (k : Int)) (by omega) (by omega))
    generalize l[k] = x at *
    have hk0 : (0 : Int) ≤ (k : Int) := by omega
    have hk1 : (k : Int) < (l.length : Int) := by omega
    have hD := Lib.hid (show dep l x.pa < dep l (k : Int) by have := hd.out; rwa [hp.out] at this)
    obtain ⟨hpl1, hpl2⟩ := hpl
    by_cases h3 : x.nm = s
    · have hN := Lib.hid (show nearF l s (paOf l (K : Nat)) = k by rw [← hA.out]; exact nearF_hit hRP hk0 hk1 (by rw [hnm.out]; exact h3))
      have hq := sTrue h3
      have hq2 : (x.nm.toList != s.toList) = false := by rw [bne, hq]; rfl
      clear h3
      go_wp2_with fail
      go_ret
      exact ⟨ret_int hN.out.symm, rfl⟩
    · have hN := Lib.hid (show nearF l s x.pa = nearF l s (paOf l (K : Nat)) by rw [← hA.out, nearF_go hRP hk0 hk1 (by rw [hnm.out]; exact h3), hp.out])
      have hq := sFalse h3
      have hq2 : (x.nm.toList != s.toList) = true := by rw [bne, hq]; rfl
      clear h3
      go_wp2_with fail
      go_round
      case rel => exact ⟨x.pa, hpl1, hpl2, rfl, hN⟩
      case measure => simp [intOf]; exact hD.out
set_option maxHeartbeats 4000000 in
set_option maxRecDepth 100000 in
theorem refWithin_any (l : List Nd) (v : Value) (K : Nat) (s : Int) (hkl : K < l.length) (hRP : RightP l) (w : World) (hUW : Nodes l v w) :
    Calls Try.prog 69 #[v, .int .i64 K, .int .i64 s] w fun e w' => e = .returned (.bool (withinF l s (paOf l K))) ∧ w = w' := by
  obtain ⟨a, cap, rfl⟩ := hUW.len
  obtain ⟨bK, oK, capK, vaK, vkK, hvK, hbK, g0, g1, g2, g3, g4, _, _⟩ := hUW.at hkl
  cases hvK
  have hpaK := Lib.hid (paOf_at hkl)
  have hpK := (hRP.node K _ (List.getElem?_eq_getElem hkl)).2
  generalize l[K] = y at *
  have hK0 : (0 : Int) ≤ (K : Int) := by omega
  have hK1 : (K : Int) < (l.length : Int) := by omega
  go_enter Try.func69, Try.ntmps69
  go_wp2_with fail
  go_loop [7] (fun i => ∃ z : Int, -1 ≤ z ∧ z < l.length ∧ i = .int .i64 z ∧ Hid (withinF l s z = withinF l s (paOf l (K : Nat)))) (fun i => dep l (intOf i))
  case atStart => exact ⟨_, hpK.1, hpK.2, rfl, Lib.hid (by rw [hpaK.out])⟩
  case round =>
    obtain ⟨z, hz0, hz1, rfl, hA⟩ := hrel
    by_cases h2 : 0 ≤ z
    case neg =>
      have h2' : decide (0 ≤ z) = false := decide_eq_false h2
      have hN := Lib.hid (show withinF l s (paOf l (K : Nat)) = false by rw [← hA.out, withinF_neg l s (by omega)])
      have hz' : z = -1 := by omega
      subst hz'
      go_wp2_with fail
      go_ret
      exact ⟨ret_bool hN.out.symm, rfl⟩
    obtain ⟨k, rfl⟩ := Int.eq_ofNat_of_zero_le h2
    have hk : k < l.length := by omega
    obtain ⟨b, o, cap', va, vk, hv, hb, c0, c1, c2, c3, c4, hat, hks⟩ := hUW.at hk
    cases hv
    have hp := Lib.hid (paOf_at hk)
    have hnm := Lib.hid (nmOf_at hk)
    have hpl := (hRP.node k _ (List.getElem?_eq_getElem hk)).2
    have hd := Lib.hid (dep_lt hRP (k := (k : Int)) (by omega) (by omega))
    generalize l[k] = x at *
    have hk0 : (0 : Int) ≤ (k : Int) := by omega
    have hk1 : (k : Int) < (l.length : Int) := by omega
    have hD := Lib.hid (show dep l x.pa < dep l (k : Int) by have := hd.out; rwa [hp.out] at this)
    obtain ⟨hpl1, hpl2⟩ := hpl
    by_cases h3 : (k : Int) = s
    · have hN := Lib.hid (show withinF l s (paOf l (K : Nat)) = true by rw [← hA.out]; exact withinF_hit hRP hk0 hk1 h3)
      have hq := (show ((k : Int) == s) = true by rw [h3]; exact beq_self_eq_true _)
      clear h3
      go_wp2_with fail
      go_ret
      exact ⟨ret_bool hN.out.symm, rfl⟩
    · have hN := Lib.hid (show withinF l s x.pa = withinF l s (paOf l (K : Nat)) by rw [← hA.out, withinF_go hRP hk0 hk1 h3, hp.out])
      have hq := intNe h3
      clear h3
      go_wp2_with fail
      go_round
      case rel => exact ⟨x.pa, hpl1, hpl2, rfl, hN⟩
      case measure => simp [intOf]; exact hD.out
end Go.Proofs.Ytenicjebccdekaa
