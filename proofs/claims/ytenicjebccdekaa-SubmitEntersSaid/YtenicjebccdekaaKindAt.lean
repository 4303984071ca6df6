/-
  KINDS OF A DOCUMENT's NODES: owner.kind, ref16.kind, ref15.Is: the walks.
-/
import Derived.Test.YtenicjebccdekaaNode
import Derived.Test.YtenicjebccdekaaKindOf3
namespace Go.Proofs.Ytenicjebccdekaa
set_option linter.unusedVariables false
set_option linter.unusedSimpArgs false
open Go.RowKit PT

def kOf (l : List Nd) (i : Int) : Int := match l[i.toNat]? with
  | some x => kindOf x
  | none => 0
theorem kOf_at {l : List Nd} {k : Nat} (hk : k < l.length) : kOf l k = kindOf l[k] := by
  unfold kOf; rw [Int.toNat_natCast, List.getElem?_eq_getElem hk]
/-- .. 0: there is no such node -/
def kindF (l : List Nd) (i : Int) : Int := if 0 ≤ i ∧ i < l.length then kOf l i else 0
theorem one_vals {x : Nd} (h : oneB x = true) : ∀ a ∈ x.ats, a.v.size ≤ 4000 := by
  unfold oneB at h
  split at h
  · rw [Bool.and_eq_true, decide_eq_true_iff] at h
    intro a ha
    rw [List.length_eq_zero_iff.1 h.1] at ha
    cases ha
  · rw [Bool.and_eq_true, Bool.and_eq_true, Bool.and_eq_true, List.all_eq_true] at h
    intro a ha
    obtain ⟨j, hj, rfl⟩ := List.getElem_of_mem ha
    have := h.2.2.2 j (List.mem_range.2 hj)
    unfold atB at this
    rw [List.getElem?_eq_getElem hj] at this
    simp only [Bool.and_eq_true, decide_eq_true_iff] at this
    exact this.2.1
set_option maxHeartbeats 4000000 in
set_option maxRecDepth 100000 in
theorem ownerKind_any (l : List Nd) (v : Value) (id : Int) (hl : l.length ≤ 1000000000000000000) (hz : ∀ x ∈ l, x.ats.length ≤ 1000000000000000 ∧ ∀ a ∈ x.ats, a.v.size ≤ 140737488351232) (w : World) (hU : Nodes l v w) :
    Calls Try.prog 61 #[v, .int .i64 id] w fun e w' => e = .returned (.int .i64 (kindF l id)) ∧ Below w.heap.size w w' := by
  obtain ⟨a, cap, rfl⟩ := hU.len
  by_cases h0 : 0 ≤ id
  case neg =>
    have hR := Lib.hid (show kindF l id = 0 from if_neg (fun h => h0 h.1))
    have h0' : id < 0 := by omega
    go_enter Try.func61, Try.ntmps61
    go_wp2_with fail
    go_ret
    exact ⟨ret_int hR.out.symm, Below.refl _ _⟩
  by_cases h1 : id < l.length
  case neg =>
    have hR := Lib.hid (show kindF l id = 0 from if_neg (fun h => h1 h.2))
    have h0' : decide (id < 0) = false := decide_eq_false (by omega)
    have h1' : (l.length : Int) ≤ id := by omega
    go_enter Try.func61, Try.ntmps61
    go_wp2_with fail
    go_ret
    exact ⟨ret_int hR.out.symm, Below.refl _ _⟩
  have hR0 := Lib.hid (show kindF l id = kOf l id from if_pos ⟨h0, h1⟩)
  obtain ⟨K, rfl⟩ := Int.eq_ofNat_of_zero_le h0
  have hkl : K < l.length := by omega
  obtain ⟨b, o, cap', va, vk, hv, hb, c0, c1, c2, c3, c4, hat, hks⟩ := hU.at hkl
  cases hv
  have hR := Lib.hid (show kindF l (K : Nat) = kindOf l[K] by rw [hR0.out, kOf_at hkl])
  obtain ⟨z1, z2⟩ := hz _ (List.getElem_mem hkl)
  generalize l[K] = x at *
  have hK0 : (0 : Int) ≤ (K : Int) := by omega
  have hK1 : (K : Int) < (l.length : Int) := by omega
  have h0' : decide ((K : Int) < 0) = false := decide_eq_false (by omega)
  have h1' : decide ((l.length : Int) ≤ (K : Int)) = false := decide_eq_false (by omega)
  go_enter Try.func61, Try.ntmps61
  go_wp2_with fail
  refine (kindsOf_any x va vk z1 z2 _ hat).mono ?_
  rintro e w' ⟨rfl, hb9⟩
  go_wp2_with fail
  go_ret
  exact ⟨ret_int hR.out.symm, hb9⟩
set_option maxHeartbeats 4000000 in
set_option maxRecDepth 100000 in
theorem ref16Kind_any (l : List Nd) (v : Value) (K : Nat) (hkl : K < l.length) (hRP : RightP l) (w : World) (hU : Nodes l v w) :
    Calls Try.prog 55 #[v, .int .i64 K] w fun e w' => e = .returned (.int .i64 (kOf l K)) ∧ Below w.heap.size w w' := by
  obtain ⟨a, cap, rfl⟩ := hU.len
  obtain ⟨b, o, cap', va, vk, hv, hb, c0, c1, c2, c3, c4, hat, hks⟩ := hU.at hkl
  cases hv
  have hR := Lib.hid (kOf_at hkl)
  have h1 := (hRP.node K _ (List.getElem?_eq_getElem hkl)).1
  have z1 := one_ats h1
  have z2 := one_vals h1
  generalize l[K] = x at *
  clear h1
  have hK0 : (0 : Int) ≤ (K : Int) := by omega
  have hK1 : (K : Int) < (l.length : Int) := by omega
  go_enter Try.func55, Try.ntmps55
  go_wp2_with fail
  refine (refOf11_any x va vk (by omega) (fun a ha => Nat.le_trans (z2 a ha) (by omega)) _ hat).mono ?_
  rintro e w' ⟨rfl, hb9⟩
  go_wp2_with fail
  go_ret
  exact ⟨ret_int hR.out.symm, hb9⟩
end Go.Proofs.Ytenicjebccdekaa
