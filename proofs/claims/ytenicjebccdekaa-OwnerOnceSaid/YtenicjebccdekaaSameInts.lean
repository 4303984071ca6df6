/-
  ROWS OF NUMBERS: ref10.SameInts: the walk.
-/
import Derived.Test.YtenicjebccdekaaNodes
namespace Go.Proofs.Ytenicjebccdekaa
set_option linter.unusedVariables false
set_option linter.unusedSimpArgs false
open Go.RowKit PT

set_option maxHeartbeats 4000000 in
set_option maxRecDepth 100000 in
theorem sameInts_any (l m : List Int) (u v : Value) (hl : l.length ≤ 1000000000000000000) (hm : m.length ≤ 1000000000000000000) (w : World) (hU : Nums l u w) (hV : Nums m v w) :
    Calls Try.prog 18 #[u, v] w fun e w' => e = .returned (.bool (decide (l = m))) ∧ Below w.heap.size w w' := by
  obtain ⟨a, cap, rfl⟩ := hU.len
  obtain ⟨a2, cap2, rfl⟩ := hV.len
  by_cases hlm : l.length = m.length
  case neg =>
    have hR := Lib.hid (show decide (l = m) = false from decide_eq_false (fun e => hlm (by rw [e])))
    have q1 : ((l.length : Int) == (m.length : Int)) = false := intNe (by omega)
    have q2 : ((l.length : Int) != (m.length : Int)) = true := by rw [bne, q1]; rfl
    clear hlm
    go_enter Try.func18, Try.ntmps18
    go_wp2_with fail
    go_ret
    exact ⟨ret_bool hR.out.symm, Below.refl _ _⟩
  rw [← hlm] at hV ⊢
  have HLM := Lib.hid hlm
  clear hlm
  go_enter Try.func18, Try.ntmps18
  go_wp2_with fail
  go_loopw [5] (fun i wr => ∃ k : Nat, k ≤ l.length ∧ i = .int .i64 k ∧ Hid (∀ j, j < k → l[j]? = m[j]?) ∧ Below w.heap.size w wr) (fun i _ => l.length - (intOf i).toNat)
  case atStart => exact ⟨0, Nat.zero_le _, rfl, Lib.hid (fun j hj => by omega), Below.refl _ _⟩
  case round =>
    obtain ⟨k, hk, rfl, hA, hbel⟩ := hrel
    have hsz := hbel.size
    by_cases hlt : k < l.length
    · have hlt2 : k < m.length := by have := HLM.out; omega
      have hV2 := hV
      rw [HLM.out] at hV2
      obtain ⟨b, o, c1, hv, hb, hc0⟩ := (hU.kept hbel).at hlt
      cases hv
      obtain ⟨b2, o2, c2, hv2, hb2, hd0⟩ := (hV2.kept hbel).at hlt2
      cases hv2
      have hF := Lib.hid (fun (h : ¬ l[k] = m[k]) => show decide (l = m) = false from decide_eq_false (fun e => h (by subst e; rfl)))
      have hN := Lib.hid (fun (h : l[k] = m[k]) => show ∀ j, j < k + 1 → l[j]? = m[j]? from fun j hj => by
        by_cases e : j = k
        · subst e; rw [List.getElem?_eq_getElem hlt, List.getElem?_eq_getElem hlt2, h]
        · exact hA.out j (by omega))
      generalize l[k] = x at *
      generalize m[k] = y at *
      have hk0 : (0 : Int) ≤ (k : Int) := by omega
      have hk1 : (k : Int) < (l.length : Int) := by omega
      clear hV2 hlt2
      by_cases h : x = y
      · have hN2 := Lib.hid (hN.out h)
        subst h
        clear hN hF
        go_wp2_with fail
        go_quiet (fail)
        go_wp2_with fail
        go_roundw
        case rel => exact ⟨k + 1, by omega, by go_num, hN2, hbel.trans (below_draws _ _ |>.mono hsz)⟩
        case measure => simp [intOf]; omega
      · have hR := Lib.hid (hF.out h)
        have q1 : (x == y) = false := intNe h
        have q2 : (x != y) = true := by rw [bne, q1]; rfl
        clear h hN hF
        go_wp2_with fail
        go_quiet (fail)
        go_wp2_with fail
        go_ret
        exact ⟨ret_bool hR.out.symm, hbel.trans (below_draws _ _ |>.mono hsz)⟩
    · obtain rfl : k = l.length := by omega
      have hR := Lib.hid (show decide (l = m) = true from decide_eq_true (List.ext_getElem? fun j => by
        by_cases hj : j < l.length
        · exact hA.out j hj
        · rw [List.getElem?_eq_none (by omega), List.getElem?_eq_none (by have := HLM.out; omega)]))
      go_wp2_with fail
      go_ret
      exact ⟨ret_bool hR.out.symm, hbel⟩
end Go.Proofs.Ytenicjebccdekaa
