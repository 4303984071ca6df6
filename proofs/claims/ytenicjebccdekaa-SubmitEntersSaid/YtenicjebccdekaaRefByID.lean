/-
  A NODE OF AN id by the document: ref10.ByID: the walk.
-/
import Derived.Test.YtenicjebccdekaaNamed
import Derived.Test.YtenicjebccdekaaRefOrder
namespace Go.Proofs.Ytenicjebccdekaa
set_option linter.unusedVariables false
set_option linter.unusedSimpArgs false
open Go.RowKit PT

theorem refOrder0_any (l : List Nd) (hRP : RightP l) (v : Value) (w : World) (hz : ∀ x ∈ l, Fits x) (hU : Nodes l v w) :
    Calls Try.prog 63 #[v, .int .i64 0] w fun e w' => ∃ g gcap, e = .returned (.slice (some ⟨g, 0, none⟩) (ord l 0).length gcap) ∧ OV w.heap.size 3 (ints (ord l 0)) (.slice (some ⟨g, 0, none⟩) (ord l 0).length gcap) w' ∧ Below w.heap.size w w' := by
  have h := refOrder_any l hRP 0 hRP.pos v w hz hU
  rw [show ((0 : Nat) : Int) = 0 from rfl] at h
  refine h.mono ?_
  rintro e w' ⟨vo, rfl, hov, hb⟩
  have hil : (ints (ord l 0)).length = (ord l 0).length := by simp [ints]
  have hne : ints (ord l 0) ≠ [] := by rw [ord_eq hRP (by omega) (by have := hRP.pos; omega)]; simp [ints]
  obtain ⟨g, gcap, rfl, _, _⟩ := hov.at hne
  rw [hil] at hov ⊢
  exact ⟨g, gcap, rfl, hov, hb⟩
set_option maxHeartbeats 4000000 in
set_option maxRecDepth 100000 in
theorem refByID_any (l : List Nd) (hRP : RightP l) (v : Value) (s : ByteArray) (w : World) (hz : ∀ x ∈ l, Fits x) (hU : Nodes l v w) :
    Calls Try.prog 57 #[v, .string s] w fun e w' => e = .returned (.int .i64 (namedF l s)) ∧ Below w.heap.size w w' := by
  obtain ⟨a, cap, rfl⟩ := hU.len
  have hpos := hRP.pos
  have hmax := hRP.max
  have hol := ord_len hRP (k := 0) (by omega) (by omega)
  have hR := Lib.hid (show namedF l s = if s.size ≠ 0 then firstF (idK l s) (ord l 0) else -1 by
    unfold namedF; rw [rightB_yes hRP]; by_cases h : s.size ≠ 0
    · rw [if_pos h, if_pos ⟨h, rfl⟩]
    · rw [if_neg h, if_neg (fun e => h e.1)])
  go_enter Try.func57, Try.ntmps57
  go_wp2_with fail
  refine (refOrder0_any l hRP _ _ hz hU).mono ?_
  rintro e w2 ⟨g, gcap, rfl, hov, hb02⟩
  have hg02 := hb02.size
  go_wp2_with fail
  go_loopw [6] (fun i wr => ∃ k : Nat, k ≤ (ord l 0).length ∧ i = .int .i64 k ∧ Hid (s.size ≠ 0 → ∀ x ∈ (ord l 0).take k, idK l s x = false) ∧ Below w2.heap.size w2 wr) (fun i _ => (ord l 0).length - (intOf i).toNat)
  case atStart => exact ⟨0, Nat.zero_le _, rfl, Lib.hid (by simp), Below.refl _ _⟩
  case round =>
    obtain ⟨k, hk, rfl, hA, hbel⟩ := hrel
    have hb0r := hb02.trans (hbel.mono hg02)
    have hsz := hbel.size
    by_cases hlt : k < (ord l 0).length
    · have hcell := (hov.kept hbel).cell k (.int .i64 (ord l 0)[k]) (by rw [ints, List.getElem?_map, List.getElem?_eq_getElem hlt]; rfl)
      rw [addr_add, Nat.zero_add] at hcell
      obtain ⟨m0, m1, _⟩ := ord_mem hRP (k := 0) (by omega) (by omega) (List.getElem_mem hlt)
      have hT := Lib.hid (fun (hs : s.size ≠ 0) h => take_mem_snoc (P := fun x => idK l s x = false) hlt (hA.out hs) h)
      have hH := Lib.hid (fun (hs : s.size ≠ 0) h => firstF_hit (p := idK l s) hlt (hA.out hs) h)
      have hk0 : (0 : Int) ≤ (k : Int) := by omega
      have hk1 : (k : Int) < ((ord l 0).length : Int) := by omega
      generalize (ord l 0)[k] = c at *
      obtain ⟨q, rfl⟩ := Int.eq_ofNat_of_zero_le m0
      have hq : q < l.length := by omega
      have hal := one_ats (hRP.node q _ (List.getElem?_eq_getElem hq)).1
      have hatt := refAttr10_any l (.slice a l.length cap) q ⟨#[105, 100]⟩ hq (by omega) wr (hU.kept hb0r)
      clear hal
      have hI := Lib.hid (show idK l s (q : Int) = decide (atO (atsOf l (q : Int)) ⟨#[105, 100]⟩ = some s) from rfl)
      generalize atO (atsOf l (q : Int)) ⟨#[105, 100]⟩ = r at hatt hI
      cases r with
      | none =>
        have hN := Lib.hid (fun hs => hT.out hs (hI.out.trans rfl))
        go_wp2_with fail
        refine hatt.mono ?_
        rintro e w3 ⟨rfl, rfl⟩
        unfold atT
        go_wp2_with fail
        go_roundw
        case rel => exact ⟨k + 1, by omega, by go_num, hN, hbel⟩
        case measure => simp [intOf]; omega
      | some y =>
        by_cases hy : y = s
        · have hq9 := sTrue hy
          by_cases hs : s.size = 0
          · have hN := Lib.hid (show s.size ≠ 0 → ∀ x ∈ (ord l 0).take (k + 1), idK l s x = false from fun h => absurd hs h)
            have hs1 : decide ((0 : Int) < (s.size : Int)) = false := decide_eq_false (by omega)
            have hs2 : decide (0 < s.size) = false := decide_eq_false (by omega)
            clear hs hy
            go_wp2_with fail
            refine hatt.mono ?_
            rintro e w3 ⟨rfl, rfl⟩
            unfold atT
            go_wp2_with fail
            go_roundw
            case rel => exact ⟨k + 1, by omega, by go_num, hN, hbel⟩
            case measure => simp [intOf]; omega
          · have hN := Lib.hid (hR.out.trans ((if_pos hs).trans (hH.out hs (by rw [hI.out, hy]; exact decide_eq_true rfl))))
            have hs1 : (0 : Int) < (s.size : Int) := by omega
            have hs2 : 0 < s.size := by omega
            clear hs hy
            go_wp2_with fail
            refine hatt.mono ?_
            rintro e w3 ⟨rfl, rfl⟩
            unfold atT
            go_wp2_with fail
            go_ret
            exact ⟨ret_int hN.out.symm, hb0r⟩
        · have hq9 := sFalse hy
          have hN := Lib.hid (fun hs => hT.out hs (by rw [hI.out]; exact decide_eq_false (fun e => hy (Option.some.inj e))))
          clear hy
          go_wp2_with fail
          refine hatt.mono ?_
          rintro e w3 ⟨rfl, rfl⟩
          unfold atT
          go_wp2_with fail
          go_roundw
          case rel => exact ⟨k + 1, by omega, by go_num, hN, hbel⟩
          case measure => simp [intOf]; omega
    · obtain rfl : k = (ord l 0).length := by omega
      have hN := Lib.hid (show namedF l s = -1 by
        rw [hR.out]
        by_cases hs : s.size ≠ 0
        · rw [if_pos hs]; exact firstF_none (by have := hA.out hs; rwa [List.take_of_length_le (Nat.le_refl _)] at this)
        · rw [if_neg hs])
      go_wp2_with fail
      go_ret
      exact ⟨ret_int hN.out.symm, hb0r⟩
end Go.Proofs.Ytenicjebccdekaa
