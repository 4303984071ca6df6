import Derived.Test.YtfhgnnlhacjnkaaDoorPart5
import Derived.Test.YtfhgnnlhacjnkaaDoorPart4
import Derived.Test.YtfhgnnlhacjnkaaDoorPart3
import Derived.Test.YtfhgnnlhacjnkaaDoorPart6
import Derived.Maps.AppendAt
/-
  A pattern read by the document: ref09.item: the walk.
-/
namespace Go.Proofs.YtfhgnnlhacjnkaaDoor
set_option linter.unusedVariables false
set_option linter.unusedSimpArgs false
open Go.RowKit PT

theorem sgR_none {l : List Nat} (h : signP l = none) : sgR l = none := by unfold sgR; rw [h]; rfl
theorem sgR_some {l : List Nat} {sp : List (Nat × Nat)} {one : Bool} {r : List Nat} (h : signP l = some (sp, one, r)) : sgR l = some r := by unfold sgR; rw [h]; rfl
theorem itR_none {l : List Nat} (h : signP l = none) : itR l = none := by unfold itR itemP; rw [h]; rfl
theorem itR_nil {l : List Nat} {sp : List (Nat × Nat)} {one : Bool} (h : signP l = some (sp, one, [])) : itR l = some [] := by unfold itR itemP; rw [h]; rfl
theorem itR_one {l : List Nat} {sp : List (Nat × Nat)} {one : Bool} {x : Nat} {r : List Nat} (h : signP l = some (sp, one, x :: r)) (hx : x ≠ 45) : itR l = some (x :: r) := by
  unfold itR itemP; rw [h]; simp only; rw [if_neg hx]; rfl
theorem itR_two {l : List Nat} {sp : List (Nat × Nat)} {one : Bool} {r : List Nat} (h : signP l = some (sp, one, 45 :: r)) : itR l = (match signP r with
    | none => none
    | some (sp2, one2, r3) => if (one && one2) = true ∧ fromP sp ≤ fromP sp2 then some r3 else none) := by
  unfold itR itemP; rw [h]; simp only [if_true]
  cases signP r with
  | none => rfl
  | some q =>
    obtain ⟨sp2, one2, r3⟩ := q
    simp only
    split <;> rfl
/-- how a sign lies at a place of a list -/
theorem sign_at {l : List Nat} {k : Nat} {sp : List (Nat × Nat)} {one : Bool} {r : List Nat} (h : signP (l.drop k) = some (sp, one, r)) :
    ∃ (n : Nat) (hk : k < l.length) (hn : n ≤ l.length), k < n ∧ n + r.length = l.length ∧ l.drop n = r ∧
      ((one = true ∧ l[k] ≠ 92 ∧ sp = [(l[n - 1], l[n - 1])]) ∨ (∃ hk2 : k + 1 < l.length, l[k] = 92 ∧ l[k + 1] ∉ [100, 119, 115] ∧ one = true ∧ sp = [(l[n - 1], l[n - 1])]) ∨ (∃ hk2 : k + 1 < l.length, l[k] = 92 ∧ l[k + 1] ∈ [100, 119, 115] ∧ one = false)) := by
  rcases signP_form h with ⟨c, h1, hc, ho, hs, _⟩ | ⟨c, h1, h2⟩
  · obtain ⟨hk, e1, e2⟩ := drop_head h1
    refine ⟨k + 1, hk, by omega, by omega, ?_, e2, .inl ⟨ho, by rw [e1]; exact hc, ?_⟩⟩
    · have := congrArg List.length e2; rw [List.length_drop] at this; omega
    · rw [hs]; simp only [Nat.add_sub_cancel, e1]
  · obtain ⟨hk, e1, e2⟩ := drop_head h1
    obtain ⟨hk2, e3, e4⟩ := drop_head e2
    refine ⟨k + 2, hk, by omega, by omega, ?_, e4, .inr ?_⟩
    · have := congrArg List.length e4; rw [List.length_drop] at this; omega
    · rcases h2 with ⟨ho, hs, hn, _⟩ | ⟨ho, hn, _⟩
      · refine .inl ⟨hk2, e1, by rw [e3]; simpa using hn, ho, ?_⟩
        rw [hs]
        have : l[k + 2 - 1] = c := e3
        rw [this]
      · exact .inr ⟨hk2, e1, by rw [e3]; simpa using hn, ho⟩
theorem in3_any (e : Nat) (g : Bool) (h : decide (e ∈ [100, 119, 115]) = g) (w : World) : Calls Tryd.prog 41 #[.int .i64 e, .string ⟨#[100, 119, 115]⟩] w fun x w' => x = .returned (.bool g) ∧ w = w' :=
  (in9_any e _ (by decide) w).mono fun _ _ hx => ⟨hx.1.trans (by rw [in_3, h]), hx.2⟩
set_option maxHeartbeats 16000000 in
set_option maxRecDepth 100000 in
theorem item_any (l : List Nat) (v : Value) (hl : l.length ≤ 1000000) (k : Nat) (hk : k ≤ l.length) (w : World) (hS : Sg .i64 l v w) :
    Calls Tryd.prog 49 #[v, .int .i64 k] w fun e w' => e = .returned (.int .i64 (endV l.length (itR (l.drop k)))) ∧ Below w.heap.size w w' := by
  have hSS := Lib.hid hS
  obtain ⟨a, cap, rfl⟩ := hS.len
  go_enter Tryd.func49, Tryd.ntmps49
  go_wp2_with fail
  refine (behind_any l _ hl k hk _ hSS.out).mono ?_
  rintro e w' ⟨rfl, rfl⟩
  cases hsg : signP (l.drop k) with
  | none =>
    have hR := Lib.hid (show endV l.length (itR (l.drop k)) = -1 by rw [itR_none hsg]; rfl)
    rw [show endV l.length (sgR (l.drop k)) = -1 by rw [sgR_none hsg]; rfl]
    clear hsg
    go_wp2_with fail
    go_ret
    exact ⟨ret_int hR.out.symm, Below.refl _ _⟩
  | some q =>
    obtain ⟨sp, one, r⟩ := q
    obtain ⟨n, hk1, hn, hkn, hnr, hdn, hA⟩ := sign_at hsg
    rw [show endV l.length (sgR (l.drop k)) = (n : Int) by rw [sgR_some hsg]; exact endV_at hnr]
    obtain ⟨b, o, cap', hv, hb, hc⟩ := hS.at (by omega)
    cases hv
    replace hc := Lib.hid hc
    have hn0 : decide ((n : Int) < 0) = false := decide_eq_false (by omega)
    have hn0' : (0 : Int) ≤ (n : Int) := by omega
    by_cases hlt : n < l.length
    case neg =>
      have hr : r = [] := List.length_eq_zero_iff.1 (by omega)
      subst hr
      have hR := Lib.hid (show endV l.length (itR (l.drop k)) = (n : Int) by rw [itR_nil hsg]; exact endV_at hnr)
      have h1 : (l.length : Int) ≤ (n : Int) := by omega
      clear hsg hA hdn
      go_wp2_with fail
      go_ret
      exact ⟨ret_int hR.out.symm, Below.refl _ _⟩
    have h1 : decide ((l.length : Int) ≤ (n : Int)) = false := decide_eq_false (by omega)
    have h1' : (n : Int) < (l.length : Int) := by omega
    have cn := hc.out n hlt
    have hdx := drop_at hlt
    rw [hdn] at hdx
    by_cases hx : l[n] = 45
    case neg =>
      have hR := Lib.hid (show endV l.length (itR (l.drop k)) = (n : Int) by rw [hdx] at hsg; rw [itR_one hsg hx]; rw [← hdx]; exact endV_at hnr)
      have hx' : ((l[n] : Int) != 45) = true := natNe_no hx
      clear hsg hA hdn hdx hx
      generalize l[n] = x at *
      go_wp2_with fail
      go_ret
      exact ⟨ret_int hR.out.symm, Below.refl _ _⟩
    rw [hx] at hdx cn
    obtain ⟨r2, hr2⟩ : ∃ r2, l.drop (n + 1) = r2 := ⟨_, rfl⟩
    rw [hr2] at hdx
    rw [hdx] at hsg
    have hI := itR_two hsg
    obtain ⟨lk, hlk⟩ : ∃ lk, l.drop k = lk := ⟨_, rfl⟩
    rw [hlk] at hI
    have hd9 := Lib.hid hr2
    have hk9 := Lib.hid hlk
    clear hsg hdx hx hlk hr2
    go_wp2_with fail
    refine (behind_any l _ hl (n + 1) (by omega) _ hSS.out).mono ?_
    rintro e w' ⟨rfl, rfl⟩
    have hk0 : (k : Int) < (l.length : Int) := by omega
    have ck := hc.out k hk1
    cases hsg2 : signP r2 with
    | none =>
      have hR := Lib.hid (show endV l.length (itR (l.drop k)) = -1 by rw [hk9.out, hI, hsg2]; rfl)
      rw [show endV l.length (sgR (l.drop (n + 1))) = -1 by rw [hd9.out, sgR_none hsg2]; rfl]
      clear hI hsg2 hA
      generalize l[k] = x at *
      go_wp2_with fail
      go_quiet (fail)
      go_wp2_with fail
      go_ret
      exact ⟨ret_int hR.out.symm, below_draws _ _⟩
    | some q =>
      obtain ⟨sp2, one2, r3⟩ := q
      obtain ⟨m, hb1, hm, hnm, hmr, hdm, hB⟩ := sign_at (l := l) (k := n + 1) (by rw [hd9.out]; exact hsg2)
      rw [show endV l.length (sgR (l.drop (n + 1))) = (m : Int) by rw [hd9.out, sgR_some hsg2]; exact endV_at hmr]
      have hm0 : decide ((m : Int) < 0) = false := decide_eq_false (by omega)
      clear hdm
      rcases hA with ⟨hao, ha1, has⟩ | ⟨ha0, ha1, ha2, hao, has⟩ | ⟨ha0, ha1, ha2, hao⟩
      ·
        rcases hB with ⟨hbo, hb2, hbs⟩ | ⟨hb0, hb2, hb3, hbo, hbs⟩ | ⟨hb0, hb2, hb3, hbo⟩
        ·
          by_cases hcmp' : l[n - 1] ≤ l[m - 1]
          ·
            have qa : ((l[k] : Int) == 92) = false := natEq_no ha1
            have cb0 := hc.out (n + 1) hb1
            have hb1' : (n : Int) + 1 < (l.length : Int) := by omega
            have qb : ((l[n + 1] : Int) == 92) = false := natEq_no hb2
            have cn1 := hc.out (n - 1) (by omega)
            have cm1 := hc.out (m - 1) (by omega)
            have n1 : (0 : Int) ≤ (n : Int) - 1 := by omega
            have n2 : (n : Int) - 1 < (l.length : Int) := by omega
            have n3 : ((n : Int) - 1).toNat = n - 1 := by omega
            have m1 : (0 : Int) ≤ (m : Int) - 1 := by omega
            have m2 : (m : Int) - 1 < (l.length : Int) := by omega
            have m3 : ((m : Int) - 1).toNat = m - 1 := by omega
            have qc : decide ((l[m - 1] : Int) < (l[n - 1] : Int)) = false := decide_eq_false (by omega)
            have qd : (l[n - 1] : Int) ≤ (l[m - 1] : Int) := by omega
            have qe : ¬ l[m - 1] < l[n - 1] := by omega
            have hR := Lib.hid (show endV l.length (itR (l.drop k)) = (m : Int) by rw [hk9.out, hI, hsg2, hao, hbo, has, hbs]; exact (congrArg _ (if_pos ⟨rfl, hcmp'⟩)).trans (endV_at hmr))
            clear hI hsg2 ha1 has hb2 hbs hcmp'
            generalize l[n - 1] = x1 at *
            generalize l[m - 1] = x2 at *
            generalize l[k] = x at *
            generalize l[n + 1] = y at *
            go_wp2_with fail
            go_quiet (fail)
            go_wp2_with fail
            go_ret
            exact ⟨ret_int hR.out.symm, below_draws _ _⟩
          ·
            have qa : ((l[k] : Int) == 92) = false := natEq_no ha1
            have cb0 := hc.out (n + 1) hb1
            have hb1' : (n : Int) + 1 < (l.length : Int) := by omega
            have qb : ((l[n + 1] : Int) == 92) = false := natEq_no hb2
            have cn1 := hc.out (n - 1) (by omega)
            have cm1 := hc.out (m - 1) (by omega)
            have n1 : (0 : Int) ≤ (n : Int) - 1 := by omega
            have n2 : (n : Int) - 1 < (l.length : Int) := by omega
            have n3 : ((n : Int) - 1).toNat = n - 1 := by omega
            have m1 : (0 : Int) ≤ (m : Int) - 1 := by omega
            have m2 : (m : Int) - 1 < (l.length : Int) := by omega
            have m3 : ((m : Int) - 1).toNat = m - 1 := by omega
            have qd : l[m - 1] < l[n - 1] := by omega
            have qc : (l[m - 1] : Int) < (l[n - 1] : Int) := by omega
            have hR := Lib.hid (show endV l.length (itR (l.drop k)) = -1 by rw [hk9.out, hI, hsg2]; exact congrArg _ (if_neg (fun h => by rw [has, hbs] at h; exact hcmp' h.2)))
            clear hI hsg2 ha1 has hb2 hbs hcmp'
            generalize l[n - 1] = x1 at *
            generalize l[m - 1] = x2 at *
            generalize l[k] = x at *
            generalize l[n + 1] = y at *
            go_wp2_with fail
            go_quiet (fail)
            go_wp2_with fail
            go_ret
            exact ⟨ret_int hR.out.symm, below_draws _ _⟩
        ·
          by_cases hcmp' : l[n - 1] ≤ l[m - 1]
          ·
            have qa : ((l[k] : Int) == 92) = false := natEq_no ha1
            have cb0 := hc.out (n + 1) hb1
            have hb1' : (n : Int) + 1 < (l.length : Int) := by omega
            have cb := hc.out (n + 2) hb0
            have hb0' : (n : Int) + 2 < (l.length : Int) := by omega
            rw [hb2] at cb0
            have HB := Lib.hid (decide_eq_false hb3)
            have cn1 := hc.out (n - 1) (by omega)
            have cm1 := hc.out (m - 1) (by omega)
            have n1 : (0 : Int) ≤ (n : Int) - 1 := by omega
            have n2 : (n : Int) - 1 < (l.length : Int) := by omega
            have n3 : ((n : Int) - 1).toNat = n - 1 := by omega
            have m1 : (0 : Int) ≤ (m : Int) - 1 := by omega
            have m2 : (m : Int) - 1 < (l.length : Int) := by omega
            have m3 : ((m : Int) - 1).toNat = m - 1 := by omega
            have qc : decide ((l[m - 1] : Int) < (l[n - 1] : Int)) = false := decide_eq_false (by omega)
            have qd : (l[n - 1] : Int) ≤ (l[m - 1] : Int) := by omega
            have qe : ¬ l[m - 1] < l[n - 1] := by omega
            have hR := Lib.hid (show endV l.length (itR (l.drop k)) = (m : Int) by rw [hk9.out, hI, hsg2, hao, hbo, has, hbs]; exact (congrArg _ (if_pos ⟨rfl, hcmp'⟩)).trans (endV_at hmr))
            clear hI hsg2 ha1 has hb2 hb3 hbs hcmp'
            generalize l[n - 1] = x1 at *
            generalize l[m - 1] = x2 at *
            generalize l[k] = x at *
            generalize l[n + 2] = eb at *
            go_wp2_with fail
            first | go_quiet ((go_at_call 41; exact Calls.quiet_of_same ((in3_any _ _ (by first | exact HB.out) _).mono fun _ _ h => ⟨h.1, h.2.symm⟩))) | fail
            go_wp2_with fail
            go_ret
            exact ⟨ret_int hR.out.symm, below_draws _ _⟩
          ·
            have qa : ((l[k] : Int) == 92) = false := natEq_no ha1
            have cb0 := hc.out (n + 1) hb1
            have hb1' : (n : Int) + 1 < (l.length : Int) := by omega
            have cb := hc.out (n + 2) hb0
            have hb0' : (n : Int) + 2 < (l.length : Int) := by omega
            rw [hb2] at cb0
            have HB := Lib.hid (decide_eq_false hb3)
            have cn1 := hc.out (n - 1) (by omega)
            have cm1 := hc.out (m - 1) (by omega)
            have n1 : (0 : Int) ≤ (n : Int) - 1 := by omega
            have n2 : (n : Int) - 1 < (l.length : Int) := by omega
            have n3 : ((n : Int) - 1).toNat = n - 1 := by omega
            have m1 : (0 : Int) ≤ (m : Int) - 1 := by omega
            have m2 : (m : Int) - 1 < (l.length : Int) := by omega
            have m3 : ((m : Int) - 1).toNat = m - 1 := by omega
            have qd : l[m - 1] < l[n - 1] := by omega
            have qc : (l[m - 1] : Int) < (l[n - 1] : Int) := by omega
            have hR := Lib.hid (show endV l.length (itR (l.drop k)) = -1 by rw [hk9.out, hI, hsg2]; exact congrArg _ (if_neg (fun h => by rw [has, hbs] at h; exact hcmp' h.2)))
            clear hI hsg2 ha1 has hb2 hb3 hbs hcmp'
            generalize l[n - 1] = x1 at *
            generalize l[m - 1] = x2 at *
            generalize l[k] = x at *
            generalize l[n + 2] = eb at *
            go_wp2_with fail
            first | go_quiet ((go_at_call 41; exact Calls.quiet_of_same ((in3_any _ _ (by first | exact HB.out) _).mono fun _ _ h => ⟨h.1, h.2.symm⟩))) | fail
            go_wp2_with fail
            go_ret
            exact ⟨ret_int hR.out.symm, below_draws _ _⟩
        ·
          have qa : ((l[k] : Int) == 92) = false := natEq_no ha1
          have cb0 := hc.out (n + 1) hb1
          have hb1' : (n : Int) + 1 < (l.length : Int) := by omega
          have cb := hc.out (n + 2) hb0
          have hb0' : (n : Int) + 2 < (l.length : Int) := by omega
          rw [hb2] at cb0
          have HB := Lib.hid (decide_eq_true hb3)
          have hR := Lib.hid (show endV l.length (itR (l.drop k)) = -1 by rw [hk9.out, hI, hsg2]; exact congrArg _ (if_neg (fun h => by rw [hbo, Bool.and_false] at h; exact Bool.false_ne_true h.1)))
          clear hI hsg2 ha1 has hb2 hb3
          generalize l[k] = x at *
          generalize l[n + 2] = eb at *
          go_wp2_with fail
          first | go_quiet ((go_at_call 41; exact Calls.quiet_of_same ((in3_any _ _ (by first | exact HB.out) _).mono fun _ _ h => ⟨h.1, h.2.symm⟩))) | fail
          go_wp2_with fail
          go_ret
          exact ⟨ret_int hR.out.symm, below_draws _ _⟩
      ·
        rcases hB with ⟨hbo, hb2, hbs⟩ | ⟨hb0, hb2, hb3, hbo, hbs⟩ | ⟨hb0, hb2, hb3, hbo⟩
        ·
          by_cases hcmp' : l[n - 1] ≤ l[m - 1]
          ·
            have ca := hc.out (k + 1) ha0
            have ha0' : (k : Int) + 1 < (l.length : Int) := by omega
            rw [ha1] at ck
            have HA := Lib.hid (decide_eq_false ha2)
            have cb0 := hc.out (n + 1) hb1
            have hb1' : (n : Int) + 1 < (l.length : Int) := by omega
            have qb : ((l[n + 1] : Int) == 92) = false := natEq_no hb2
            have cn1 := hc.out (n - 1) (by omega)
            have cm1 := hc.out (m - 1) (by omega)
            have n1 : (0 : Int) ≤ (n : Int) - 1 := by omega
            have n2 : (n : Int) - 1 < (l.length : Int) := by omega
            have n3 : ((n : Int) - 1).toNat = n - 1 := by omega
            have m1 : (0 : Int) ≤ (m : Int) - 1 := by omega
            have m2 : (m : Int) - 1 < (l.length : Int) := by omega
            have m3 : ((m : Int) - 1).toNat = m - 1 := by omega
            have qc : decide ((l[m - 1] : Int) < (l[n - 1] : Int)) = false := decide_eq_false (by omega)
            have qd : (l[n - 1] : Int) ≤ (l[m - 1] : Int) := by omega
            have qe : ¬ l[m - 1] < l[n - 1] := by omega
            have hR := Lib.hid (show endV l.length (itR (l.drop k)) = (m : Int) by rw [hk9.out, hI, hsg2, hao, hbo, has, hbs]; exact (congrArg _ (if_pos ⟨rfl, hcmp'⟩)).trans (endV_at hmr))
            clear hI hsg2 ha1 ha2 has hb2 hbs hcmp'
            generalize l[n - 1] = x1 at *
            generalize l[m - 1] = x2 at *
            generalize l[k + 1] = ea at *
            generalize l[n + 1] = y at *
            go_wp2_with fail
            first | go_quiet ((go_at_call 41; exact Calls.quiet_of_same ((in3_any _ _ (by first | exact HA.out) _).mono fun _ _ h => ⟨h.1, h.2.symm⟩))) | fail
            go_wp2_with fail
            go_ret
            exact ⟨ret_int hR.out.symm, below_draws _ _⟩
          ·
            have ca := hc.out (k + 1) ha0
            have ha0' : (k : Int) + 1 < (l.length : Int) := by omega
            rw [ha1] at ck
            have HA := Lib.hid (decide_eq_false ha2)
            have cb0 := hc.out (n + 1) hb1
            have hb1' : (n : Int) + 1 < (l.length : Int) := by omega
            have qb : ((l[n + 1] : Int) == 92) = false := natEq_no hb2
            have cn1 := hc.out (n - 1) (by omega)
            have cm1 := hc.out (m - 1) (by omega)
            have n1 : (0 : Int) ≤ (n : Int) - 1 := by omega
            have n2 : (n : Int) - 1 < (l.length : Int) := by omega
            have n3 : ((n : Int) - 1).toNat = n - 1 := by omega
            have m1 : (0 : Int) ≤ (m : Int) - 1 := by omega
            have m2 : (m : Int) - 1 < (l.length : Int) := by omega
            have m3 : ((m : Int) - 1).toNat = m - 1 := by omega
            have qd : l[m - 1] < l[n - 1] := by omega
            have qc : (l[m - 1] : Int) < (l[n - 1] : Int) := by omega
            have hR := Lib.hid (show endV l.length (itR (l.drop k)) = -1 by rw [hk9.out, hI, hsg2]; exact congrArg _ (if_neg (fun h => by rw [has, hbs] at h; exact hcmp' h.2)))
            clear hI hsg2 ha1 ha2 has hb2 hbs hcmp'
            generalize l[n - 1] = x1 at *
            generalize l[m - 1] = x2 at *
            generalize l[k + 1] = ea at *
            generalize l[n + 1] = y at *
            go_wp2_with fail
            first | go_quiet ((go_at_call 41; exact Calls.quiet_of_same ((in3_any _ _ (by first | exact HA.out) _).mono fun _ _ h => ⟨h.1, h.2.symm⟩))) | fail
            go_wp2_with fail
            go_ret
            exact ⟨ret_int hR.out.symm, below_draws _ _⟩
        ·
          by_cases hcmp' : l[n - 1] ≤ l[m - 1]
          ·
            have ca := hc.out (k + 1) ha0
            have ha0' : (k : Int) + 1 < (l.length : Int) := by omega
            rw [ha1] at ck
            have HA := Lib.hid (decide_eq_false ha2)
            have cb0 := hc.out (n + 1) hb1
            have hb1' : (n : Int) + 1 < (l.length : Int) := by omega
            have cb := hc.out (n + 2) hb0
            have hb0' : (n : Int) + 2 < (l.length : Int) := by omega
            rw [hb2] at cb0
            have HB := Lib.hid (decide_eq_false hb3)
            have cn1 := hc.out (n - 1) (by omega)
            have cm1 := hc.out (m - 1) (by omega)
            have n1 : (0 : Int) ≤ (n : Int) - 1 := by omega
            have n2 : (n : Int) - 1 < (l.length : Int) := by omega
            have n3 : ((n : Int) - 1).toNat = n - 1 := by omega
            have m1 : (0 : Int) ≤ (m : Int) - 1 := by omega
            have m2 : (m : Int) - 1 < (l.length : Int) := by omega
            have m3 : ((m : Int) - 1).toNat = m - 1 := by omega
            have qc : decide ((l[m - 1] : Int) < (l[n - 1] : Int)) = false := decide_eq_false (by omega)
            have qd : (l[n - 1] : Int) ≤ (l[m - 1] : Int) := by omega
            have qe : ¬ l[m - 1] < l[n - 1] := by omega
            have hR := Lib.hid (show endV l.length (itR (l.drop k)) = (m : Int) by rw [hk9.out, hI, hsg2, hao, hbo, has, hbs]; exact (congrArg _ (if_pos ⟨rfl, hcmp'⟩)).trans (endV_at hmr))
            clear hI hsg2 ha1 ha2 has hb2 hb3 hbs hcmp'
            generalize l[n - 1] = x1 at *
            generalize l[m - 1] = x2 at *
            generalize l[k + 1] = ea at *
            generalize l[n + 2] = eb at *
            go_wp2_with fail
            first | go_quiet ((go_at_call 41; exact Calls.quiet_of_same ((in3_any _ _ (by first | exact HA.out | exact HB.out) _).mono fun _ _ h => ⟨h.1, h.2.symm⟩))) | fail
            go_wp2_with fail
            go_ret
            exact ⟨ret_int hR.out.symm, below_draws _ _⟩
          ·
            have ca := hc.out (k + 1) ha0
            have ha0' : (k : Int) + 1 < (l.length : Int) := by omega
            rw [ha1] at ck
            have HA := Lib.hid (decide_eq_false ha2)
            have cb0 := hc.out (n + 1) hb1
            have hb1' : (n : Int) + 1 < (l.length : Int) := by omega
            have cb := hc.out (n + 2) hb0
            have hb0' : (n : Int) + 2 < (l.length : Int) := by omega
            rw [hb2] at cb0
            have HB := Lib.hid (decide_eq_false hb3)
            have cn1 := hc.out (n - 1) (by omega)
            have cm1 := hc.out (m - 1) (by omega)
            have n1 : (0 : Int) ≤ (n : Int) - 1 := by omega
            have n2 : (n : Int) - 1 < (l.length : Int) := by omega
            have n3 : ((n : Int) - 1).toNat = n - 1 := by omega
            have m1 : (0 : Int) ≤ (m : Int) - 1 := by omega
            have m2 : (m : Int) - 1 < (l.length : Int) := by omega
            have m3 : ((m : Int) - 1).toNat = m - 1 := by omega
            have qd : l[m - 1] < l[n - 1] := by omega
            have qc : (l[m - 1] : Int) < (l[n - 1] : Int) := by omega
            have hR := Lib.hid (show endV l.length (itR (l.drop k)) = -1 by rw [hk9.out, hI, hsg2]; exact congrArg _ (if_neg (fun h => by rw [has, hbs] at h; exact hcmp' h.2)))
            clear hI hsg2 ha1 ha2 has hb2 hb3 hbs hcmp'
            generalize l[n - 1] = x1 at *
            generalize l[m - 1] = x2 at *
            generalize l[k + 1] = ea at *
            generalize l[n + 2] = eb at *
            go_wp2_with fail
            first | go_quiet ((go_at_call 41; exact Calls.quiet_of_same ((in3_any _ _ (by first | exact HA.out | exact HB.out) _).mono fun _ _ h => ⟨h.1, h.2.symm⟩))) | fail
            go_wp2_with fail
            go_ret
            exact ⟨ret_int hR.out.symm, below_draws _ _⟩
        ·
          have ca := hc.out (k + 1) ha0
          have ha0' : (k : Int) + 1 < (l.length : Int) := by omega
          rw [ha1] at ck
          have HA := Lib.hid (decide_eq_false ha2)
          have cb0 := hc.out (n + 1) hb1
          have hb1' : (n : Int) + 1 < (l.length : Int) := by omega
          have cb := hc.out (n + 2) hb0
          have hb0' : (n : Int) + 2 < (l.length : Int) := by omega
          rw [hb2] at cb0
          have HB := Lib.hid (decide_eq_true hb3)
          have hR := Lib.hid (show endV l.length (itR (l.drop k)) = -1 by rw [hk9.out, hI, hsg2]; exact congrArg _ (if_neg (fun h => by rw [hbo, Bool.and_false] at h; exact Bool.false_ne_true h.1)))
          clear hI hsg2 ha1 ha2 has hb2 hb3
          generalize l[k + 1] = ea at *
          generalize l[n + 2] = eb at *
          go_wp2_with fail
          first | go_quiet ((go_at_call 41; exact Calls.quiet_of_same ((in3_any _ _ (by first | exact HA.out | exact HB.out) _).mono fun _ _ h => ⟨h.1, h.2.symm⟩))) | fail
          go_wp2_with fail
          go_ret
          exact ⟨ret_int hR.out.symm, below_draws _ _⟩
      ·
        have ca := hc.out (k + 1) ha0
        have ha0' : (k : Int) + 1 < (l.length : Int) := by omega
        rw [ha1] at ck
        have HA := Lib.hid (decide_eq_true ha2)
        have hR := Lib.hid (show endV l.length (itR (l.drop k)) = -1 by rw [hk9.out, hI, hsg2]; exact congrArg _ (if_neg (fun h => by rw [hao] at h; exact Bool.false_ne_true h.1)))
        clear hI hsg2 ha1 ha2
        generalize l[k + 1] = ea at *
        go_wp2_with fail
        first | go_quiet ((go_at_call 41; exact Calls.quiet_of_same ((in3_any _ _ (by first | exact HA.out) _).mono fun _ _ h => ⟨h.1, h.2.symm⟩))) | fail
        go_wp2_with fail
        go_ret
        exact ⟨ret_int hR.out.symm, below_draws _ _⟩
end Go.Proofs.YtfhgnnlhacjnkaaDoor

/-
  A pattern read by the document: ref09.class, digits: the walks.
-/
namespace Go.Proofs.YtfhgnnlhacjnkaaDoor
set_option linter.unusedVariables false
set_option linter.unusedSimpArgs false
open Go.RowKit PT

set_option maxHeartbeats 1000000 in
set_option maxRecDepth 100000 in
theorem class_any (l : List Nat) (v : Value) (hl : l.length ≤ 1000000) (k : Nat) (hk : k < l.length) (w : World) (hS : Sg .i64 l v w) :
    Calls Tryd.prog 40 #[v, .int .i64 k] w fun e w' => e = .returned (.int .i64 (endV l.length (clR (l.drop (k + 1))))) ∧ Below w.heap.size w w' := by
  have hSS := Lib.hid hS
  obtain ⟨b, o, cap, rfl, hb, hc⟩ := hS.at (by omega)
  replace hc := Lib.hid hc
  have hst : ∃ st, st ≤ l.length ∧ ((l.length ≤ k + 1 ∧ st = k + 1 ∧ clR (l.drop (k + 1)) = none ∧ bdR (l.drop st) = none) ∨ (∃ h : k + 1 < l.length, l[k + 1] = 94 ∧ st = k + 2 ∧ clR (l.drop (k + 1)) = bdR (l.drop st)) ∨ (∃ h : k + 1 < l.length, l[k + 1] ≠ 94 ∧ st = k + 1 ∧ clR (l.drop (k + 1)) = bdR (l.drop st))) := by
    by_cases h : k + 1 < l.length
    · by_cases h2 : l[k + 1] = 94
      · exact ⟨k + 2, by omega, .inr (.inl ⟨h, h2, rfl, by rw [drop_at h, h2]; exact clR_not _⟩)⟩
      · exact ⟨k + 1, by omega, .inr (.inr ⟨h, h2, rfl, by rw [drop_at h]; exact clR_is h2⟩)⟩
    · have : l.drop (k + 1) = [] := List.drop_eq_nil_of_le (by omega)
      exact ⟨k + 1, by omega, .inl ⟨by omega, rfl, by rw [this]; rfl, by rw [this]; rfl⟩⟩
  obtain ⟨st, hst1, hst⟩ := hst
  have hRR : clR (l.drop (k + 1)) = bdR (l.drop st) := by
    rcases hst with ⟨_, _, h1, h2⟩ | ⟨_, _, _, h⟩ | ⟨_, _, _, h⟩
    · rw [h1, h2]
    · exact h
    · exact h
  rw [hRR]
  clear hRR
  have hB := Lib.hid (bdR_eq (l.drop st))
  generalize bdR (l.drop st) = R at *
  rcases hst with hst | hst | hst
  · obtain ⟨hs0, rfl, -, -⟩ := hst
    have s1 : decide ((k : Int) + 1 < (l.length : Int)) = false := decide_eq_false (by omega)
    go_enter Tryd.func40, Tryd.ntmps40
    go_wp2_with fail
    go_loopw [1, 5] (fun i f wr => ∃ (j : Nat) (fb : Bool), j ≤ l.length ∧ i = .int .i64 j ∧ f = .bool fb ∧ Below w.heap.size w wr ∧ Hid (fb = true → j = (k + 1)) ∧ Hid (fb = false → (k + 1) < j) ∧ Hid (fb = false → R = isR (l.drop j))) (fun i _ _ => l.length + 1 - (intOf i).toNat)
    case atStart => exact ⟨(k + 1), true, hst1, by go_num, rfl, Below.refl _ _, Lib.hid (fun _ => rfl), Lib.hid (fun h => by cases h), Lib.hid (fun h => by cases h)⟩
    case round =>
      obtain ⟨j, fb, hj, rfl, rfl, hbel, hf1, hf2, hf3⟩ := hrel
      have hsz := hbel.size
      have hSr := hSS.out.kept hbel
      by_cases hlt : j < l.length
      case neg =>
        have t1 : decide ((j : Int) < (l.length : Int)) = false := decide_eq_false (by omega)
        have t2 : (l.length : Int) ≤ (j : Int) := by omega
        have hnil : l.drop j = [] := List.drop_eq_nil_of_le (by omega)
        cases fb
        · have hR := Lib.hid (show endV l.length R = -1 by rw [hf3.out rfl, hnil]; rfl)
          go_wp2_with fail
          go_ret
          exact ⟨ret_int hR.out.symm, hbel⟩
        · have hR := Lib.hid (show endV l.length R = -1 by rw [hB.out, ← hf1.out rfl, hnil]; rfl)
          go_wp2_with fail
          refine (item_any l _ hl j hj _ hSr).mono ?_
          rintro e w2 ⟨rfl, hb2⟩
          rw [show endV l.length (itR (l.drop j)) = -1 by rw [hnil]; rfl]
          go_wp2_with fail
          go_ret
          exact ⟨ret_int hR.out.symm, hbel.trans (hb2.mono hsz)⟩
      have t1 : (j : Int) < (l.length : Int) := by omega
      have t2 : decide ((l.length : Int) ≤ (j : Int)) = false := decide_eq_false (by omega)
      have cj := cellK hbel hb (hc.out j hlt)
      have hd := drop_at hlt
      have hstep : (R = match itR (l.drop j) with | none => none | some r => isR r) ∨ (fb = false ∧ l[j] = 93) := by
        cases fb
        · by_cases h93 : l[j] = 93
          · exact .inr ⟨rfl, h93⟩
          · exact .inl (by rw [hf3.out rfl, hd]; exact isR_cons h93)
        · exact .inl (by rw [hB.out, hf1.out rfl]; rfl)
      rcases hstep with hI | ⟨rfl, h93⟩
      rotate_left
      · have hR := Lib.hid (show endV l.length R = (j : Int) + 1 by
          rw [hf3.out rfl, hd, h93, isR_end, endV_at (n := j + 1) (by rw [List.length_drop]; omega)]; omega)
        have t3 : ((l[j] : Int) != 93) = false := natNe_yes h93
        clear hd h93
        generalize l[j] = x at *
        go_wp2_with fail
        go_ret
        exact ⟨ret_int hR.out.symm, hbel⟩
      have hsome := Lib.hid (fun r (h : itR (l.drop j) = some r) => show ∃ n, j < n ∧ n + r.length = l.length ∧ l.drop n = r by
        obtain ⟨n, h1, h2, h3⟩ := drop_suf (itR_suf h) hj
        have := itR_len h
        rw [List.length_drop] at this
        exact ⟨n, by omega, h2, h3⟩)
      have hgo : fb = true ∨ (fb = false ∧ l[j] ≠ 93) ∨ (fb = false ∧ l[j] = 93) := by
        cases fb
        · by_cases h : l[j] = 93
          · exact .inr (.inr ⟨rfl, h⟩)
          · exact .inr (.inl ⟨rfl, h⟩)
        · exact .inl rfl
      rcases hgo with rfl | ⟨rfl, h93⟩ | ⟨rfl, h93⟩
      · have hj9 : (k + 1) ≤ j := Nat.le_of_eq (hf1.out rfl).symm
        clear hd
        obtain ⟨Z, hit⟩ : ∃ Z, itR (l.drop j) = Z := ⟨_, rfl⟩
        have hZ := Lib.hid hit
        rw [hit] at hI hsome
        clear hit
        go_wp2_with fail
        refine (item_any l _ hl j hj _ hSr).mono ?_
        rintro e w2 ⟨rfl, hb2⟩
        rw [show itR (l.drop j) = Z from hZ.out]
        have hbl := hbel.trans (hb2.mono hsz)
        cases Z with
        | none =>
          have hR := Lib.hid (show endV l.length R = -1 by rw [hI]; rfl)
          rw [show endV l.length none = -1 from rfl]
          clear hI
          go_wp2_with fail
          go_ret
          exact ⟨ret_int hR.out.symm, hbl⟩
        | some r =>
          obtain ⟨n, hn1, hn2, hn3⟩ := hsome.out r rfl
          rw [endV_at hn2]
          have hR := Lib.hid (show R = isR (l.drop n) by rw [hI, hn3])
          have t4 : decide ((n : Int) < 0) = false := decide_eq_false (by omega)
          clear hI hn3
          go_wp2_with fail
          go_roundw
          case rel => exact ⟨n, false, by omega, rfl, rfl, hbl, Lib.hid (fun h => by cases h), Lib.hid (fun _ => by omega), Lib.hid fun _ => hR.out⟩
          case measure => simp [intOf]; omega
      · have hj9 : (k + 1) ≤ j := Nat.le_of_lt (hf2.out rfl)
        have t3 : ((l[j] : Int) != 93) = true := natNe_no h93
        clear h93
        clear hd
        generalize l[j] = x at *
        obtain ⟨Z, hit⟩ : ∃ Z, itR (l.drop j) = Z := ⟨_, rfl⟩
        have hZ := Lib.hid hit
        rw [hit] at hI hsome
        clear hit
        go_wp2_with fail
        refine (item_any l _ hl j hj _ hSr).mono ?_
        rintro e w2 ⟨rfl, hb2⟩
        rw [show itR (l.drop j) = Z from hZ.out]
        have hbl := hbel.trans (hb2.mono hsz)
        cases Z with
        | none =>
          have hR := Lib.hid (show endV l.length R = -1 by rw [hI]; rfl)
          rw [show endV l.length none = -1 from rfl]
          clear hI
          go_wp2_with fail
          go_ret
          exact ⟨ret_int hR.out.symm, hbl⟩
        | some r =>
          obtain ⟨n, hn1, hn2, hn3⟩ := hsome.out r rfl
          rw [endV_at hn2]
          have hR := Lib.hid (show R = isR (l.drop n) by rw [hI, hn3])
          have t4 : decide ((n : Int) < 0) = false := decide_eq_false (by omega)
          clear hI hn3
          go_wp2_with fail
          go_roundw
          case rel => exact ⟨n, false, by omega, rfl, rfl, hbl, Lib.hid (fun h => by cases h), Lib.hid (fun _ => by omega), Lib.hid fun _ => hR.out⟩
          case measure => simp [intOf]; omega
      · exfalso
        have h1 := hf3.out rfl
        rw [hd, h93, isR_end] at h1
        rw [hI, hd, h93] at h1
        have : itR (93 :: l.drop (j + 1)) = none := by unfold itR; rw [itemP_93]; rfl
        rw [this] at h1
        cases h1
  · obtain ⟨hs0, hs9, rfl, -⟩ := hst
    have s1 : (k : Int) + 1 < (l.length : Int) := by omega
    have cs := hc.out (k + 1) hs0
    have s2 : ((l[k + 1] : Int) == 94) = true := natEq_yes hs9
    clear hs9
    generalize l[k + 1] = x9 at *
    go_enter Tryd.func40, Tryd.ntmps40
    go_wp2_with fail
    go_loopw [1, 5] (fun i f wr => ∃ (j : Nat) (fb : Bool), j ≤ l.length ∧ i = .int .i64 j ∧ f = .bool fb ∧ Below w.heap.size w wr ∧ Hid (fb = true → j = (k + 2)) ∧ Hid (fb = false → (k + 2) < j) ∧ Hid (fb = false → R = isR (l.drop j))) (fun i _ _ => l.length + 1 - (intOf i).toNat)
    case atStart => exact ⟨(k + 2), true, hst1, by go_num, rfl, Below.refl _ _, Lib.hid (fun _ => rfl), Lib.hid (fun h => by cases h), Lib.hid (fun h => by cases h)⟩
    case round =>
      obtain ⟨j, fb, hj, rfl, rfl, hbel, hf1, hf2, hf3⟩ := hrel
      have hsz := hbel.size
      have hSr := hSS.out.kept hbel
      by_cases hlt : j < l.length
      case neg =>
        have t1 : decide ((j : Int) < (l.length : Int)) = false := decide_eq_false (by omega)
        have t2 : (l.length : Int) ≤ (j : Int) := by omega
        have hnil : l.drop j = [] := List.drop_eq_nil_of_le (by omega)
        cases fb
        · have hR := Lib.hid (show endV l.length R = -1 by rw [hf3.out rfl, hnil]; rfl)
          go_wp2_with fail
          go_ret
          exact ⟨ret_int hR.out.symm, hbel⟩
        · have hR := Lib.hid (show endV l.length R = -1 by rw [hB.out, ← hf1.out rfl, hnil]; rfl)
          go_wp2_with fail
          refine (item_any l _ hl j hj _ hSr).mono ?_
          rintro e w2 ⟨rfl, hb2⟩
          rw [show endV l.length (itR (l.drop j)) = -1 by rw [hnil]; rfl]
          go_wp2_with fail
          go_ret
          exact ⟨ret_int hR.out.symm, hbel.trans (hb2.mono hsz)⟩
      have t1 : (j : Int) < (l.length : Int) := by omega
      have t2 : decide ((l.length : Int) ≤ (j : Int)) = false := decide_eq_false (by omega)
      have cj := cellK hbel hb (hc.out j hlt)
      have hd := drop_at hlt
      have hstep : (R = match itR (l.drop j) with | none => none | some r => isR r) ∨ (fb = false ∧ l[j] = 93) := by
        cases fb
        · by_cases h93 : l[j] = 93
          · exact .inr ⟨rfl, h93⟩
          · exact .inl (by rw [hf3.out rfl, hd]; exact isR_cons h93)
        · exact .inl (by rw [hB.out, hf1.out rfl]; rfl)
      rcases hstep with hI | ⟨rfl, h93⟩
      rotate_left
      · have hR := Lib.hid (show endV l.length R = (j : Int) + 1 by
          rw [hf3.out rfl, hd, h93, isR_end, endV_at (n := j + 1) (by rw [List.length_drop]; omega)]; omega)
        have t3 : ((l[j] : Int) != 93) = false := natNe_yes h93
        clear hd h93
        generalize l[j] = x at *
        go_wp2_with fail
        go_ret
        exact ⟨ret_int hR.out.symm, hbel⟩
      have hsome := Lib.hid (fun r (h : itR (l.drop j) = some r) => show ∃ n, j < n ∧ n + r.length = l.length ∧ l.drop n = r by
        obtain ⟨n, h1, h2, h3⟩ := drop_suf (itR_suf h) hj
        have := itR_len h
        rw [List.length_drop] at this
        exact ⟨n, by omega, h2, h3⟩)
      have hgo : fb = true ∨ (fb = false ∧ l[j] ≠ 93) ∨ (fb = false ∧ l[j] = 93) := by
        cases fb
        · by_cases h : l[j] = 93
          · exact .inr (.inr ⟨rfl, h⟩)
          · exact .inr (.inl ⟨rfl, h⟩)
        · exact .inl rfl
      rcases hgo with rfl | ⟨rfl, h93⟩ | ⟨rfl, h93⟩
      · have hj9 : (k + 2) ≤ j := Nat.le_of_eq (hf1.out rfl).symm
        clear hd
        obtain ⟨Z, hit⟩ : ∃ Z, itR (l.drop j) = Z := ⟨_, rfl⟩
        have hZ := Lib.hid hit
        rw [hit] at hI hsome
        clear hit
        go_wp2_with fail
        refine (item_any l _ hl j hj _ hSr).mono ?_
        rintro e w2 ⟨rfl, hb2⟩
        rw [show itR (l.drop j) = Z from hZ.out]
        have hbl := hbel.trans (hb2.mono hsz)
        cases Z with
        | none =>
          have hR := Lib.hid (show endV l.length R = -1 by rw [hI]; rfl)
          rw [show endV l.length none = -1 from rfl]
          clear hI
          go_wp2_with fail
          go_ret
          exact ⟨ret_int hR.out.symm, hbl⟩
        | some r =>
          obtain ⟨n, hn1, hn2, hn3⟩ := hsome.out r rfl
          rw [endV_at hn2]
          have hR := Lib.hid (show R = isR (l.drop n) by rw [hI, hn3])
          have t4 : decide ((n : Int) < 0) = false := decide_eq_false (by omega)
          clear hI hn3
          go_wp2_with fail
          go_roundw
          case rel => exact ⟨n, false, by omega, rfl, rfl, hbl, Lib.hid (fun h => by cases h), Lib.hid (fun _ => by omega), Lib.hid fun _ => hR.out⟩
          case measure => simp [intOf]; omega
      · have hj9 : (k + 2) ≤ j := Nat.le_of_lt (hf2.out rfl)
        have t3 : ((l[j] : Int) != 93) = true := natNe_no h93
        clear h93
        clear hd
        generalize l[j] = x at *
        obtain ⟨Z, hit⟩ : ∃ Z, itR (l.drop j) = Z := ⟨_, rfl⟩
        have hZ := Lib.hid hit
        rw [hit] at hI hsome
        clear hit
        go_wp2_with fail
        refine (item_any l _ hl j hj _ hSr).mono ?_
        rintro e w2 ⟨rfl, hb2⟩
        rw [show itR (l.drop j) = Z from hZ.out]
        have hbl := hbel.trans (hb2.mono hsz)
        cases Z with
        | none =>
          have hR := Lib.hid (show endV l.length R = -1 by rw [hI]; rfl)
          rw [show endV l.length none = -1 from rfl]
          clear hI
          go_wp2_with fail
          go_ret
          exact ⟨ret_int hR.out.symm, hbl⟩
        | some r =>
          obtain ⟨n, hn1, hn2, hn3⟩ := hsome.out r rfl
          rw [endV_at hn2]
          have hR := Lib.hid (show R = isR (l.drop n) by rw [hI, hn3])
          have t4 : decide ((n : Int) < 0) = false := decide_eq_false (by omega)
          clear hI hn3
          go_wp2_with fail
          go_roundw
          case rel => exact ⟨n, false, by omega, rfl, rfl, hbl, Lib.hid (fun h => by cases h), Lib.hid (fun _ => by omega), Lib.hid fun _ => hR.out⟩
          case measure => simp [intOf]; omega
      · exfalso
        have h1 := hf3.out rfl
        rw [hd, h93, isR_end] at h1
        rw [hI, hd, h93] at h1
        have : itR (93 :: l.drop (j + 1)) = none := by unfold itR; rw [itemP_93]; rfl
        rw [this] at h1
        cases h1
  · obtain ⟨hs0, hs9, rfl, -⟩ := hst
    have s1 : (k : Int) + 1 < (l.length : Int) := by omega
    have cs := hc.out (k + 1) hs0
    have s2 : ((l[k + 1] : Int) == 94) = false := natEq_no hs9
    clear hs9
    generalize l[k + 1] = x9 at *
    go_enter Tryd.func40, Tryd.ntmps40
    go_wp2_with fail
    go_loopw [1, 5] (fun i f wr => ∃ (j : Nat) (fb : Bool), j ≤ l.length ∧ i = .int .i64 j ∧ f = .bool fb ∧ Below w.heap.size w wr ∧ Hid (fb = true → j = (k + 1)) ∧ Hid (fb = false → (k + 1) < j) ∧ Hid (fb = false → R = isR (l.drop j))) (fun i _ _ => l.length + 1 - (intOf i).toNat)
    case atStart => exact ⟨(k + 1), true, hst1, by go_num, rfl, Below.refl _ _, Lib.hid (fun _ => rfl), Lib.hid (fun h => by cases h), Lib.hid (fun h => by cases h)⟩
    case round =>
      obtain ⟨j, fb, hj, rfl, rfl, hbel, hf1, hf2, hf3⟩ := hrel
      have hsz := hbel.size
      have hSr := hSS.out.kept hbel
      by_cases hlt : j < l.length
      case neg =>
        have t1 : decide ((j : Int) < (l.length : Int)) = false := decide_eq_false (by omega)
        have t2 : (l.length : Int) ≤ (j : Int) := by omega
        have hnil : l.drop j = [] := List.drop_eq_nil_of_le (by omega)
        cases fb
        · have hR := Lib.hid (show endV l.length R = -1 by rw [hf3.out rfl, hnil]; rfl)
          go_wp2_with fail
          go_ret
          exact ⟨ret_int hR.out.symm, hbel⟩
        · have hR := Lib.hid (show endV l.length R = -1 by rw [hB.out, ← hf1.out rfl, hnil]; rfl)
          go_wp2_with fail
          refine (item_any l _ hl j hj _ hSr).mono ?_
          rintro e w2 ⟨rfl, hb2⟩
          rw [show endV l.length (itR (l.drop j)) = -1 by rw [hnil]; rfl]
          go_wp2_with fail
          go_ret
          exact ⟨ret_int hR.out.symm, hbel.trans (hb2.mono hsz)⟩
      have t1 : (j : Int) < (l.length : Int) := by omega
      have t2 : decide ((l.length : Int) ≤ (j : Int)) = false := decide_eq_false (by omega)
      have cj := cellK hbel hb (hc.out j hlt)
      have hd := drop_at hlt
      have hstep : (R = match itR (l.drop j) with | none => none | some r => isR r) ∨ (fb = false ∧ l[j] = 93) := by
        cases fb
        · by_cases h93 : l[j] = 93
          · exact .inr ⟨rfl, h93⟩
          · exact .inl (by rw [hf3.out rfl, hd]; exact isR_cons h93)
        · exact .inl (by rw [hB.out, hf1.out rfl]; rfl)
      rcases hstep with hI | ⟨rfl, h93⟩
      rotate_left
      · have hR := Lib.hid (show endV l.length R = (j : Int) + 1 by
          rw [hf3.out rfl, hd, h93, isR_end, endV_at (n := j + 1) (by rw [List.length_drop]; omega)]; omega)
        have t3 : ((l[j] : Int) != 93) = false := natNe_yes h93
        clear hd h93
        generalize l[j] = x at *
        go_wp2_with fail
        go_ret
        exact ⟨ret_int hR.out.symm, hbel⟩
      have hsome := Lib.hid (fun r (h : itR (l.drop j) = some r) => show ∃ n, j < n ∧ n + r.length = l.length ∧ l.drop n = r by
        obtain ⟨n, h1, h2, h3⟩ := drop_suf (itR_suf h) hj
        have := itR_len h
        rw [List.length_drop] at this
        exact ⟨n, by omega, h2, h3⟩)
      have hgo : fb = true ∨ (fb = false ∧ l[j] ≠ 93) ∨ (fb = false ∧ l[j] = 93) := by
        cases fb
        · by_cases h : l[j] = 93
          · exact .inr (.inr ⟨rfl, h⟩)
          · exact .inr (.inl ⟨rfl, h⟩)
        · exact .inl rfl
      rcases hgo with rfl | ⟨rfl, h93⟩ | ⟨rfl, h93⟩
      · have hj9 : (k + 1) ≤ j := Nat.le_of_eq (hf1.out rfl).symm
        clear hd
        obtain ⟨Z, hit⟩ : ∃ Z, itR (l.drop j) = Z := ⟨_, rfl⟩
        have hZ := Lib.hid hit
        rw [hit] at hI hsome
        clear hit
        go_wp2_with fail
        refine (item_any l _ hl j hj _ hSr).mono ?_
        rintro e w2 ⟨rfl, hb2⟩
        rw [show itR (l.drop j) = Z from hZ.out]
        have hbl := hbel.trans (hb2.mono hsz)
        cases Z with
        | none =>
          have hR := Lib.hid (show endV l.length R = -1 by rw [hI]; rfl)
          rw [show endV l.length none = -1 from rfl]
          clear hI
          go_wp2_with fail
          go_ret
          exact ⟨ret_int hR.out.symm, hbl⟩
        | some r =>
          obtain ⟨n, hn1, hn2, hn3⟩ := hsome.out r rfl
          rw [endV_at hn2]
          have hR := Lib.hid (show R = isR (l.drop n) by rw [hI, hn3])
          have t4 : decide ((n : Int) < 0) = false := decide_eq_false (by omega)
          clear hI hn3
          go_wp2_with fail
          go_roundw
          case rel => exact ⟨n, false, by omega, rfl, rfl, hbl, Lib.hid (fun h => by cases h), Lib.hid (fun _ => by omega), Lib.hid fun _ => hR.out⟩
          case measure => simp [intOf]; omega
      · have hj9 : (k + 1) ≤ j := Nat.le_of_lt (hf2.out rfl)
        have t3 : ((l[j] : Int) != 93) = true := natNe_no h93
        clear h93
        clear hd
        generalize l[j] = x at *
        obtain ⟨Z, hit⟩ : ∃ Z, itR (l.drop j) = Z := ⟨_, rfl⟩
        have hZ := Lib.hid hit
        rw [hit] at hI hsome
        clear hit
        go_wp2_with fail
        refine (item_any l _ hl j hj _ hSr).mono ?_
        rintro e w2 ⟨rfl, hb2⟩
        rw [show itR (l.drop j) = Z from hZ.out]
        have hbl := hbel.trans (hb2.mono hsz)
        cases Z with
        | none =>
          have hR := Lib.hid (show endV l.length R = -1 by rw [hI]; rfl)
          rw [show endV l.length none = -1 from rfl]
          clear hI
          go_wp2_with fail
          go_ret
          exact ⟨ret_int hR.out.symm, hbl⟩
        | some r =>
          obtain ⟨n, hn1, hn2, hn3⟩ := hsome.out r rfl
          rw [endV_at hn2]
          have hR := Lib.hid (show R = isR (l.drop n) by rw [hI, hn3])
          have t4 : decide ((n : Int) < 0) = false := decide_eq_false (by omega)
          clear hI hn3
          go_wp2_with fail
          go_roundw
          case rel => exact ⟨n, false, by omega, rfl, rfl, hbl, Lib.hid (fun h => by cases h), Lib.hid (fun _ => by omega), Lib.hid fun _ => hR.out⟩
          case measure => simp [intOf]; omega
      · exfalso
        have h1 := hf3.out rfl
        rw [hd, h93, isR_end] at h1
        rw [hI, hd, h93] at h1
        have : itR (93 :: l.drop (j + 1)) = none := by unfold itR; rw [itemP_93]; rfl
        rw [this] at h1
        cases h1
set_option maxHeartbeats 2000000 in
set_option maxRecDepth 100000 in
theorem digits_any (l : List Nat) (v : Value) (hl : l.length ≤ 1000000) (k : Nat) (hk : k ≤ l.length) (w : World) (hS : Sg .i64 l v w) :
    Calls Tryd.prog 42 #[v, .int .i64 k] w fun e w' => e = .returned (.tuple #[.int .i64 ((k + (numC (l.drop k)).1 : Nat) : Int), .int .i64 ((numC (l.drop k)).2 : Nat)]) ∧ w = w' := by
  obtain ⟨a, cap, rfl⟩ := hS.len
  have hle := numC_le (l.drop k)
  have hgo := Lib.hid (numC_go (l.drop k))
  have hsu := Lib.hid (numT_succ (l.drop k))
  have hen := Lib.hid (numT_end (l.drop k))
  have hdl := Lib.hid (List.length_drop (i := k) (l := l))
  have hgd := Lib.hid (show ∀ (t : Nat) (h : k + t < l.length), (l.drop k).getD t 0 = l[k + t] from fun t h => by
    rw [List.getD_eq_getElem?_getD, List.getElem?_drop, List.getElem?_eq_getElem h]; rfl)
  rw [hdl.out] at hle
  generalize l.drop k = d at *
  go_enter Tryd.func42, Tryd.ntmps42
  go_wp2_with fail
  go_loop [6, 7] (fun n i => ∃ t : Nat, t ≤ (numC d).1 ∧ i = .int .i64 (k + t : Nat) ∧ n = .int .i64 (numT d t : Nat) ∧ numT d t ≤ 99) (fun _ i => l.length - (intOf i).toNat)
  case atStart => exact ⟨0, Nat.zero_le _, rfl, rfl, by show 0 ≤ 99; omega⟩
  case round =>
    obtain ⟨t, ht, rfl, rfl, hb99⟩ := hrel
    have hG := hgo.out t ht
    by_cases hlt : t < (numC d).1
    · obtain ⟨h1, h2, h3⟩ := hG.1 hlt
      rw [hdl.out] at h1
      have hkt : k + t < l.length := by omega
      obtain ⟨b, o, cap', hv, hb, hc⟩ := hS.at (by omega)
      cases hv
      have c0 := hc (k + t) hkt
      rw [hgd.out t hkt] at h3
      have hs := Lib.hid (hsu.out t)
      rw [hgd.out t hkt] at hs
      have h9 : numT d (t + 1) ≤ 99 := by
        have e := hen.out
        rcases Nat.lt_or_ge (t + 1) (numC d).1 with h | h
        · obtain rfl : t = 0 := by omega
          rw [hsu.out 0, hgd.out 0 hkt]
          have : 48 ≤ l[k + 0] ∧ l[k + 0] ≤ 57 := by simpa [digB] using h3
          show 10 * 0 + _ ≤ 99
          omega
        · rw [show t + 1 = (numC d).1 by omega, e]; exact hle.2.2
      clear hc hG
      generalize l[k + t] = x at *
      have h3' : 48 ≤ x ∧ x ≤ 57 := by simpa [digB] using h3
      have q1 : ((k + t : Nat) : Int) < (l.length : Int) := by omega
      have q2 : ((k + t : Nat) : Int) < (k : Int) + 2 := by omega
      have q3 : (48 : Int) ≤ (x : Int) := by omega
      have q4 : (x : Int) ≤ 57 := by omega
      have q0 : (0 : Int) ≤ ((k + t : Nat) : Int) := by omega
      have HT : numT d (t + 1) = 10 * numT d t + (x - 48) := hs.out
      generalize numT d t = z at *
      go_wp2_with fail
      go_round
      case rel => exact ⟨t + 1, by omega, by go_num, by rw [HT]; go_num, h9⟩
      case measure => simp [intOf]; omega
    · obtain rfl : t = (numC d).1 := by omega
      have hE := hen.out
      rw [hE]
      by_cases hkt : k + (numC d).1 < l.length
      case neg =>
        have q1 : decide (((k + (numC d).1 : Nat) : Int) < (l.length : Int)) = false := decide_eq_false (by omega)
        go_wp2_with fail
        go_ret2
        exact ⟨rfl, rfl⟩
      have q1 : ((k + (numC d).1 : Nat) : Int) < (l.length : Int) := by omega
      by_cases h2 : (numC d).1 < 2
      case neg =>
        have q2 : decide (((k + (numC d).1 : Nat) : Int) < (k : Int) + 2) = false := decide_eq_false (by omega)
        go_wp2_with fail
        go_ret2
        exact ⟨rfl, rfl⟩
      have q2 : ((k + (numC d).1 : Nat) : Int) < (k : Int) + 2 := by omega
      have hnd : ¬ digB l[k + (numC d).1] = true := fun h => hlt (hG.2 ⟨by rw [hdl.out]; omega, h2, by rw [hgd.out _ hkt]; exact h⟩)
      obtain ⟨b, o, cap', hv, hb, hc⟩ := hS.at (by omega)
      cases hv
      have c0 := hc (k + (numC d).1) hkt
      clear hc
      generalize l[k + (numC d).1] = x at *
      have q0 : (0 : Int) ≤ ((k + (numC d).1 : Nat) : Int) := by omega
      by_cases h3 : 48 ≤ x
      case neg =>
        have q3 : decide ((48 : Int) ≤ (x : Int)) = false := decide_eq_false (by omega)
        go_wp2_with fail
        go_ret2
        exact ⟨rfl, rfl⟩
      have q3 : (48 : Int) ≤ (x : Int) := by omega
      have q4 : decide ((x : Int) ≤ 57) = false := decide_eq_false (fun h => hnd (by simp only [digB, Bool.and_eq_true, decide_eq_true_eq]; omega))
      go_wp2_with fail
      go_ret2
      exact ⟨rfl, rfl⟩
end Go.Proofs.YtfhgnnlhacjnkaaDoor

/-
  A pattern read by the document: ref09.often: the walk.
-/
namespace Go.Proofs.YtfhgnnlhacjnkaaDoor
set_option linter.unusedVariables false
set_option linter.unusedSimpArgs false
open Go.RowKit PT

theorem three_of {W : World} {g : Nat} {a b c : Value} {t : TypeId} (h : W.heap[g]? = some (.cells #[a, b, c] t (0, 0))) :
    W.cell? ⟨g, 0, none⟩ = some a ∧ W.cell? ⟨g, 1, none⟩ = some b ∧ W.cell? ⟨g, 2, none⟩ = some c ∧ W.frozen? ⟨g, 0, none⟩ = false ∧ W.frozen? ⟨g, 1, none⟩ = false ∧ W.frozen? ⟨g, 2, none⟩ = false := by
  simp [World.cell?, World.frozen?, h]
theorem set3_heap {W : World} {g : Nat} {a0 b0 c0 : Value} {t : TypeId} (a b c : Value) (h : W.heap[g]? = some (.cells #[a0, b0, c0] t (0, 0))) :
    (((W.setCell ⟨g, 0, none⟩ a).setCell ⟨g, 1, none⟩ b).setCell ⟨g, 2, none⟩ c).heap[g]? = some (.cells #[a, b, c] t (0, 0)) := by
  rw [setCell_heap c (setCell_heap b (setCell_heap a h))]
  rfl
theorem set3_below {B : Nat} (W : World) (g : Nat) (a b c : Value) (hB : B ≤ g) : Below B W (((W.setCell ⟨g, 0, none⟩ a).setCell ⟨g, 1, none⟩ b).setCell ⟨g, 2, none⟩ c) :=
  (((Below.refl B W).setCell (p := ⟨g, 0, none⟩) hB a).setCell (p := ⟨g, 1, none⟩) hB b).setCell (p := ⟨g, 2, none⟩) hB c
def timC (r : List Nat) : Option (Nat × Option Nat × List Nat) :=
  if (numC r).1 = 0 then none else match r.drop (numC r).1 with
    | [] => none
    | y :: r2 => if y = 125 then some ((numC r).2, some (numC r).2, r2) else if y = 44 then (match r2.drop (numC r2).1 with
        | [] => none
        | z :: r5 => if z = 125 then (if (numC r2).1 = 0 then some ((numC r).2, none, r5) else if (numC r2).2 < (numC r).2 then none else some ((numC r).2, some (numC r2).2, r5)) else none) else none
theorem timesP_C (r : List Nat) : timesP r = timC r := by
  unfold timesP timC
  rw [numP_C]
  by_cases h0 : (numC r).1 = 0
  · rw [if_pos h0, if_pos h0]
  · rw [if_neg h0, if_neg h0]
    simp only
    cases r.drop (numC r).1 with
    | nil => rfl
    | cons y r2 =>
      simp only
      by_cases h1 : y = 125
      · rw [if_pos h1, if_pos h1]
      · rw [if_neg h1, if_neg h1]
        by_cases h2 : y = 44
        · rw [if_pos h2, if_pos h2]
          cases r2 with
          | nil => rfl
          | cons y2 r3 =>
            simp only
            by_cases h3 : y2 = 125
            · subst h3
              rw [if_pos rfl, show numC (125 :: r3) = (0, 0) from rfl]
              rfl
            · rw [if_neg h3, numP_C]
              by_cases h4 : (numC (y2 :: r3)).1 = 0
              · rw [if_pos h4, h4]
                simp only [List.drop_zero]
                rw [if_neg h3]
              · rw [if_neg h4]
                simp only
                cases (y2 :: r3).drop (numC (y2 :: r3)).1 with
                | nil => rfl
                | cons z r5 =>
                  simp only
                  by_cases h5 : z = 125
                  · rw [if_pos h5, if_neg h4]
                    by_cases h6 : (numC (y2 :: r3)).2 < (numC r).2
                    · rw [if_pos h6, if_neg (fun h => by omega)]
                    · rw [if_neg h6, if_pos ⟨h5, by omega⟩]
                  · rw [if_neg h5, if_neg (fun h => h5 h.1)]
        · rw [if_neg h2, if_neg h2]
/-- what is told of how often: where it ends, from, to -/
def oT (n : Nat) (o : Option (Nat × Option Nat × List Nat)) : Int × Int × Int := match o with
  | none => (-1, 0, 0)
  | some (lo, hi, r) => (((n - r.length : Nat) : Int), (lo : Int), hiV hi)
def oV (n : Nat) (g : Bool) (l : List Nat) : Int × Int × Int := oT n (oftenP g l)
theorem oV_some {n : Nat} {g : Bool} {l : List Nat} {lo : Nat} {hi : Option Nat} {r : List Nat} (h : oftenP g l = some (lo, hi, r)) : oV n g l = (((n - r.length : Nat) : Int), (lo : Int), hiV hi) := by unfold oV; rw [h]; rfl
theorem oV_none {n : Nat} {g : Bool} {l : List Nat} (h : oftenP g l = none) : oV n g l = (-1, 0, 0) := by unfold oV; rw [h]; rfl
theorem oP_cons (g : Bool) (c : Nat) (r : List Nat) : oftenP g (c :: r) = if c = 42 then some (0, none, r) else if c = 43 then some (1, none, r) else if c = 63 then some (0, some 1, r) else if c = 123 then (if g then none else timesP r) else some (1, some 1, c :: r) := rfl
theorem oV_times {n : Nat} {r : List Nat} : oV n false (123 :: r) = oT n (timC r) := by
  unfold oV
  rw [oP_cons, if_neg (by decide), if_neg (by decide), if_neg (by decide), if_pos rfl, if_neg (by decide), timesP_C]
set_option maxHeartbeats 4000000 in
set_option maxRecDepth 100000 in
theorem often_any (l : List Nat) (v : Value) (hl : l.length ≤ 1000000) (k j : Nat) (hk : k < l.length) (hj : j ≤ l.length) (g : Bool) (hg : decide (l[k] = 40) = g) (w : World) (hS : Sg .i64 l v w) :
    Calls Tryd.prog 33 #[v, .int .i64 k, .int .i64 j] w fun e w' => e = .returned (.agg #[.int .i64 (oV l.length g (l.drop j)).1, .int .i64 (oV l.length g (l.drop j)).2.1, .int .i64 (oV l.length g (l.drop j)).2.2]) ∧ Below w.heap.size w w' := by
  obtain ⟨b, o, cap, rfl, hb, hc⟩ := hS.at (by omega)
  have hb0 := (Below.refl w.heap.size w).alloc (Nat.le_refl _) (.cells #[.int .i64 0, .int .i64 0, .int .i64 0] 68)
  have hn0 := Go.heap_alloc_new w (.cells #[.int .i64 0, .int .i64 0, .int .i64 0] 68)
  have hs0 := hb0.size
  have hS0 := hS.kept (hb0.mono (Nat.le_refl _))
  have hc0 := Lib.hid (fun (i : Nat) (hi : i < l.length) => cellK hb0 hb (hc i hi))
  clear hc
  have hnl := Lib.hid (fun i => List.length_drop (i := i) (l := l))
  obtain ⟨xa, xb, xc, fa, fb, fc⟩ := three_of hn0
  go_enter Tryd.func33, Tryd.ntmps33
  go_upto_region 1 with fail
  generalize World.alloc _ _ = W0 at hb0 hn0 hs0 hS0 hc0 xa xb xc fa fb fc ⊢
  by_cases hlt : j < l.length
  case neg =>
    have q1 : (l.length : Int) ≤ (j : Int) := by omega
    have hR := Lib.hid (show oV l.length g (l.drop j) = ((j : Int), 1, 1) by rw [List.drop_eq_nil_of_le (by omega), oV_some (lo := 1) (hi := some 1) (r := []) rfl]; simp only [hiV, List.length_nil]; refine Prod.ext ?_ rfl; show ((l.length - 0 : Nat) : Int) = j; omega)
    go_wp2_with fail
    have z := set3_heap (.int .i64 (j : Int)) (.int .i64 1) (.int .i64 1) hn0
    have hb9 := hb0.trans (set3_below _ w.heap.size (.int .i64 (j : Int)) (.int .i64 1) (.int .i64 1) (Nat.le_refl _))
    generalize World.setCell (World.setCell (World.setCell _ _ _) _ _) _ _ = W9 at z hb9 ⊢
    obtain ⟨y0, y1, y2, _, _, _⟩ := three_of z
    exact bodyPost_ret (v := .agg #[.int .i64 (j : Int), .int .i64 1, .int .i64 1]) (by simp [results, Tryd.results33, go_sem, y0, y1, y2]) rfl ⟨by rw [hR.out], hb9⟩
  have q1 : decide ((l.length : Int) ≤ (j : Int)) = false := decide_eq_false (by omega)
  have q1' : (j : Int) < (l.length : Int) := by omega
  have cj := hc0.out j hlt
  have hd := Lib.hid (drop_at hlt)
  have hrl := Lib.hid (show (l.length - (l.drop (j + 1)).length : Nat) = j + 1 by rw [hnl.out]; omega)
  have hx9 : ∃ x, l[j] = x := ⟨_, rfl⟩
  obtain ⟨x, hx⟩ := hx9
  rw [hx] at cj
  have hdx := Lib.hid (show l.drop j = x :: l.drop (j + 1) by rw [hd.out, hx])
  clear hx hd
  by_cases x42 : x = 42
  case pos =>
    have q42 : ((x : Int) == 42) = true := natEq_yes x42
    have hR := Lib.hid (show oV l.length g (l.drop j) = (((j : Int) + 1), 0, -1) by rw [hdx.out, oV_some (lo := 0) (hi := none) (r := l.drop (j + 1)) (by rw [oP_cons, if_pos x42]), hrl.out]; rfl)
    clear x42
    go_wp2_with fail
    have z := set3_heap (.int .i64 ((j : Int) + 1)) (.int .i64 0) (.int .i64 (-1)) hn0
    have hb9 := hb0.trans (set3_below _ w.heap.size (.int .i64 ((j : Int) + 1)) (.int .i64 0) (.int .i64 (-1)) (Nat.le_refl _))
    generalize World.setCell (World.setCell (World.setCell _ _ _) _ _) _ _ = W9 at z hb9 ⊢
    obtain ⟨y0, y1, y2, _, _, _⟩ := three_of z
    exact bodyPost_ret (v := .agg #[.int .i64 ((j : Int) + 1), .int .i64 0, .int .i64 (-1)]) (by simp [results, Tryd.results33, go_sem, y0, y1, y2]) rfl ⟨by rw [hR.out], hb9⟩
  have q42 : ((x : Int) == 42) = false := natEq_no x42
  by_cases x43 : x = 43
  case pos =>
    have q43 : ((x : Int) == 43) = true := natEq_yes x43
    have hR := Lib.hid (show oV l.length g (l.drop j) = (((j : Int) + 1), 1, -1) by rw [hdx.out, oV_some (lo := 1) (hi := none) (r := l.drop (j + 1)) (by rw [oP_cons, if_neg x42, if_pos x43]), hrl.out]; rfl)
    clear x43 x42
    go_wp2_with fail
    have z := set3_heap (.int .i64 ((j : Int) + 1)) (.int .i64 1) (.int .i64 (-1)) hn0
    have hb9 := hb0.trans (set3_below _ w.heap.size (.int .i64 ((j : Int) + 1)) (.int .i64 1) (.int .i64 (-1)) (Nat.le_refl _))
    generalize World.setCell (World.setCell (World.setCell _ _ _) _ _) _ _ = W9 at z hb9 ⊢
    obtain ⟨y0, y1, y2, _, _, _⟩ := three_of z
    exact bodyPost_ret (v := .agg #[.int .i64 ((j : Int) + 1), .int .i64 1, .int .i64 (-1)]) (by simp [results, Tryd.results33, go_sem, y0, y1, y2]) rfl ⟨by rw [hR.out], hb9⟩
  have q43 : ((x : Int) == 43) = false := natEq_no x43
  by_cases x63 : x = 63
  case pos =>
    have q63 : ((x : Int) == 63) = true := natEq_yes x63
    have hR := Lib.hid (show oV l.length g (l.drop j) = (((j : Int) + 1), 0, 1) by rw [hdx.out, oV_some (lo := 0) (hi := some 1) (r := l.drop (j + 1)) (by rw [oP_cons, if_neg x42, if_neg x43, if_pos x63]), hrl.out]; rfl)
    clear x63 x42 x43
    go_wp2_with fail
    have z := set3_heap (.int .i64 ((j : Int) + 1)) (.int .i64 0) (.int .i64 1) hn0
    have hb9 := hb0.trans (set3_below _ w.heap.size (.int .i64 ((j : Int) + 1)) (.int .i64 0) (.int .i64 1) (Nat.le_refl _))
    generalize World.setCell (World.setCell (World.setCell _ _ _) _ _) _ _ = W9 at z hb9 ⊢
    obtain ⟨y0, y1, y2, _, _, _⟩ := three_of z
    exact bodyPost_ret (v := .agg #[.int .i64 ((j : Int) + 1), .int .i64 0, .int .i64 1]) (by simp [results, Tryd.results33, go_sem, y0, y1, y2]) rfl ⟨by rw [hR.out], hb9⟩
  have q63 : ((x : Int) == 63) = false := natEq_no x63
  by_cases x123 : x = 123
  case neg =>
    have q123 : ((x : Int) == 123) = false := natEq_no x123
    have hR := Lib.hid (show oV l.length g (l.drop j) = ((j : Int), 1, 1) by rw [hdx.out, oV_some (lo := 1) (hi := some 1) (r := x :: l.drop (j + 1)) (by rw [oP_cons, if_neg x42, if_neg x43, if_neg x63, if_neg x123])]; refine Prod.ext ?_ rfl; show ((l.length - (x :: l.drop (j + 1)).length : Nat) : Int) = j; rw [List.length_cons, hnl.out]; omega)
    clear x42 x43 x63 x123
    go_wp2_with fail
    have z := set3_heap (.int .i64 (j : Int)) (.int .i64 1) (.int .i64 1) hn0
    have hb9 := hb0.trans (set3_below _ w.heap.size (.int .i64 (j : Int)) (.int .i64 1) (.int .i64 1) (Nat.le_refl _))
    generalize World.setCell (World.setCell (World.setCell _ _ _) _ _) _ _ = W9 at z hb9 ⊢
    obtain ⟨y0, y1, y2, _, _, _⟩ := three_of z
    exact bodyPost_ret (v := .agg #[.int .i64 (j : Int), .int .i64 1, .int .i64 1]) (by simp [results, Tryd.results33, go_sem, y0, y1, y2]) rfl ⟨by rw [hR.out], hb9⟩
  subst x123
  clear q42 q43 q63 x42 x43 x63
  have q0 := hc0.out k hk
  have qk : (k : Int) < (l.length : Int) := by omega
  cases g
  case true =>
    have q40 : ((l[k] : Int) == 40) = true := natEq_yes (of_decide_eq_true hg)
    have hR := Lib.hid (show oV l.length true (l.drop j) = (-1, 0, 0) by rw [hdx.out, oV_none rfl])
    clear hg
    generalize l[k] = y at *
    go_wp2_with fail
    have z := set3_heap (.int .i64 (-1)) (.int .i64 0) (.int .i64 0) hn0
    have hb9 := hb0.trans (set3_below _ w.heap.size (.int .i64 (-1)) (.int .i64 0) (.int .i64 0) (Nat.le_refl _))
    generalize World.setCell (World.setCell (World.setCell _ _ _) _ _) _ _ = W9 at z hb9 ⊢
    obtain ⟨y0, y1, y2, _, _, _⟩ := three_of z
    exact bodyPost_ret (v := .agg #[.int .i64 (-1), .int .i64 0, .int .i64 0]) (by simp [results, Tryd.results33, go_sem, y0, y1, y2]) rfl ⟨by rw [hR.out], hb9⟩
  have q40 : ((l[k] : Int) == 40) = false := natEq_no (of_decide_eq_false hg)
  clear hg
  generalize l[k] = y9 at *
  have hO := Lib.hid (show oV l.length false (l.drop j) = oT l.length (timC (l.drop (j + 1))) by rw [hdx.out]; exact oV_times)
  go_wp2_with fail
  refine (digits_any l _ hl (j + 1) (by omega) _ hS0).mono ?_
  rintro e w' ⟨rfl, rfl⟩
  have hle := numC_le (l.drop (j + 1))
  rw [hnl.out] at hle
  obtain ⟨a, ha⟩ : ∃ a, (numC (l.drop (j + 1))).1 = a := ⟨_, rfl⟩
  obtain ⟨lo, hlo⟩ : ∃ a, (numC (l.drop (j + 1))).2 = a := ⟨_, rfl⟩
  have hT2 := timC.eq_1 (l.drop (j + 1))
  rw [ha, hlo] at hT2
  replace hT2 := Lib.hid hT2
  rw [ha, hlo] at hle ⊢
  clear ha hlo
  by_cases a0 : a = 0
  case pos =>
    subst a0
    have p1 : (((j + 1 + 0 : Nat) : Int) == (j : Int) + 1) = true := by rw [beq_iff_eq]; omega
    have hR := Lib.hid (show oV l.length false (l.drop j) = (-1, 0, 0) by rw [hO.out, hT2.out, if_pos rfl]; rfl)
    go_wp2_with fail
    have z := set3_heap (.int .i64 (-1)) (.int .i64 0) (.int .i64 0) hn0
    have hb9 := hb0.trans (set3_below _ w.heap.size (.int .i64 (-1)) (.int .i64 0) (.int .i64 0) (Nat.le_refl _))
    generalize World.setCell (World.setCell (World.setCell _ _ _) _ _) _ _ = W9 at z hb9 ⊢
    obtain ⟨y0, y1, y2, _, _, _⟩ := three_of z
    exact bodyPost_ret (v := .agg #[.int .i64 (-1), .int .i64 0, .int .i64 0]) (by simp [results, Tryd.results33, go_sem, y0, y1, y2]) rfl ⟨by rw [hR.out], hb9⟩
  have p1 : (((j + 1 + a : Nat) : Int) == (j : Int) + 1) = false := by rw [beq_eq_false_iff_ne]; omega
  obtain ⟨k1, hk1⟩ : ∃ k1, j + 1 + a = k1 := ⟨_, rfl⟩
  have hD := Lib.hid (show (l.drop (j + 1)).drop a = l.drop k1 by rw [List.drop_drop, hk1])
  have hT3 := hT2.out
  rw [if_neg a0, hD.out] at hT3
  replace hT3 := Lib.hid hT3
  rw [hk1] at p1 ⊢
  have k1b : j + 1 < k1 := by omega
  have k1c : k1 ≤ l.length := by omega
  clear hk1 a0
  by_cases h1 : k1 < l.length
  case neg =>
    have p2 : (l.length : Int) ≤ (k1 : Int) := by omega
    have hR := Lib.hid (show oV l.length false (l.drop j) = (-1, 0, 0) by rw [hO.out, hT3.out, List.drop_eq_nil_of_le (by omega)]; rfl)
    go_wp2_with fail
    have z := set3_heap (.int .i64 (-1)) (.int .i64 0) (.int .i64 0) hn0
    have hb9 := hb0.trans (set3_below _ w.heap.size (.int .i64 (-1)) (.int .i64 0) (.int .i64 0) (Nat.le_refl _))
    generalize World.setCell (World.setCell (World.setCell _ _ _) _ _) _ _ = W9 at z hb9 ⊢
    obtain ⟨y0, y1, y2, _, _, _⟩ := three_of z
    exact bodyPost_ret (v := .agg #[.int .i64 (-1), .int .i64 0, .int .i64 0]) (by simp [results, Tryd.results33, go_sem, y0, y1, y2]) rfl ⟨by rw [hR.out], hb9⟩
  have p2 : decide ((l.length : Int) ≤ (k1 : Int)) = false := decide_eq_false (by omega)
  have p2' : (k1 : Int) < (l.length : Int) := by omega
  have ck1 := hc0.out k1 h1
  have hd1 := drop_at h1
  obtain ⟨y, hy⟩ : ∃ y, l[k1] = y := ⟨_, rfl⟩
  rw [hy] at ck1 hd1
  have hT4 := hT3.out
  rw [hd1] at hT4
  simp only at hT4
  replace hT4 := Lib.hid hT4
  clear hy hd1
  have hrl1 := Lib.hid (show (l.length - (l.drop (k1 + 1)).length : Nat) = k1 + 1 by rw [hnl.out]; omega)
  by_cases y125 : y = 125
  case pos =>
    have p3 : ((y : Int) == 125) = true := natEq_yes y125
    have hR := Lib.hid (show oV l.length false (l.drop j) = ((k1 : Int) + 1, (lo : Int), (lo : Int)) by rw [hO.out, hT4.out, if_pos y125]; unfold oT; simp only; rw [hrl1.out]; rfl)
    clear y125
    go_wp2_with fail
    have z := set3_heap (.int .i64 ((k1 : Int) + 1)) (.int .i64 (lo : Int)) (.int .i64 (lo : Int)) hn0
    have hb9 := hb0.trans (set3_below _ w.heap.size (.int .i64 ((k1 : Int) + 1)) (.int .i64 (lo : Int)) (.int .i64 (lo : Int)) (Nat.le_refl _))
    generalize World.setCell (World.setCell (World.setCell _ _ _) _ _) _ _ = W9 at z hb9 ⊢
    obtain ⟨y0, y1, y2, _, _, _⟩ := three_of z
    exact bodyPost_ret (v := .agg #[.int .i64 ((k1 : Int) + 1), .int .i64 (lo : Int), .int .i64 (lo : Int)]) (by simp [results, Tryd.results33, go_sem, y0, y1, y2]) rfl ⟨by rw [hR.out], hb9⟩
  have p3 : ((y : Int) == 125) = false := natEq_no y125
  by_cases y44 : y = 44
  case neg =>
    have p4 : ((y : Int) != 44) = true := natNe_no y44
    have hR := Lib.hid (show oV l.length false (l.drop j) = (-1, 0, 0) by rw [hO.out, hT4.out, if_neg y125, if_neg y44]; rfl)
    clear y125 y44
    go_wp2_with fail
    have z := set3_heap (.int .i64 (-1)) (.int .i64 0) (.int .i64 0) hn0
    have hb9 := hb0.trans (set3_below _ w.heap.size (.int .i64 (-1)) (.int .i64 0) (.int .i64 0) (Nat.le_refl _))
    generalize World.setCell (World.setCell (World.setCell _ _ _) _ _) _ _ = W9 at z hb9 ⊢
    obtain ⟨y0, y1, y2, _, _, _⟩ := three_of z
    exact bodyPost_ret (v := .agg #[.int .i64 (-1), .int .i64 0, .int .i64 0]) (by simp [results, Tryd.results33, go_sem, y0, y1, y2]) rfl ⟨by rw [hR.out], hb9⟩
  have p4 : ((y : Int) != 44) = false := natNe_yes y44
  have hT5 := hT4.out
  rw [if_neg y125, if_pos y44] at hT5
  replace hT5 := Lib.hid hT5
  clear y125 y44
  go_wp2_with fail
  refine (digits_any l _ hl (k1 + 1) (by omega) _ hS0).mono ?_
  rintro e w' ⟨rfl, rfl⟩
  have hle2 := numC_le (l.drop (k1 + 1))
  rw [hnl.out] at hle2
  obtain ⟨a2, ha⟩ : ∃ a, (numC (l.drop (k1 + 1))).1 = a := ⟨_, rfl⟩
  obtain ⟨hi, hlo⟩ : ∃ a, (numC (l.drop (k1 + 1))).2 = a := ⟨_, rfl⟩
  obtain ⟨m, hm⟩ : ∃ m, k1 + 1 + a2 = m := ⟨_, rfl⟩
  have hD2 := Lib.hid (show (l.drop (k1 + 1)).drop a2 = l.drop m by rw [List.drop_drop, hm])
  have hT6 := hT5.out
  rw [ha, hlo, hD2.out] at hT6
  replace hT6 := Lib.hid hT6
  rw [ha, hlo] at hle2 ⊢
  rw [hm]
  have m1 : k1 < m := by omega
  have m2 : m ≤ l.length := by omega
  have m3 : a2 = 0 ↔ m = k1 + 1 := by omega
  replace m3 := Lib.hid m3
  clear ha hlo hm
  by_cases h2 : m < l.length
  case neg =>
    have p5 : (l.length : Int) ≤ (m : Int) := by omega
    have hR := Lib.hid (show oV l.length false (l.drop j) = (-1, 0, 0) by rw [hO.out, hT6.out, List.drop_eq_nil_of_le (by omega)]; rfl)
    go_wp2_with fail
    have z := set3_heap (.int .i64 (-1)) (.int .i64 0) (.int .i64 0) hn0
    have hb9 := hb0.trans (set3_below _ w.heap.size (.int .i64 (-1)) (.int .i64 0) (.int .i64 0) (Nat.le_refl _))
    generalize World.setCell (World.setCell (World.setCell _ _ _) _ _) _ _ = W9 at z hb9 ⊢
    obtain ⟨y0, y1, y2, _, _, _⟩ := three_of z
    exact bodyPost_ret (v := .agg #[.int .i64 (-1), .int .i64 0, .int .i64 0]) (by simp [results, Tryd.results33, go_sem, y0, y1, y2]) rfl ⟨by rw [hR.out], hb9⟩
  have p5 : decide ((l.length : Int) ≤ (m : Int)) = false := decide_eq_false (by omega)
  have p5' : (m : Int) < (l.length : Int) := by omega
  have cm := hc0.out m h2
  have hd2 := drop_at h2
  obtain ⟨z, hz⟩ : ∃ z, l[m] = z := ⟨_, rfl⟩
  rw [hz] at cm hd2
  have hT7 := hT6.out
  rw [hd2] at hT7
  simp only at hT7
  replace hT7 := Lib.hid hT7
  clear hz hd2
  have hrl2 := Lib.hid (show (l.length - (l.drop (m + 1)).length : Nat) = m + 1 by rw [hnl.out]; omega)
  by_cases z125 : z = 125
  case neg =>
    have p6 : ((z : Int) != 125) = true := natNe_no z125
    have hR := Lib.hid (show oV l.length false (l.drop j) = (-1, 0, 0) by rw [hO.out, hT7.out, if_neg z125]; rfl)
    clear z125
    go_wp2_with fail
    have z := set3_heap (.int .i64 (-1)) (.int .i64 0) (.int .i64 0) hn0
    have hb9 := hb0.trans (set3_below _ w.heap.size (.int .i64 (-1)) (.int .i64 0) (.int .i64 0) (Nat.le_refl _))
    generalize World.setCell (World.setCell (World.setCell _ _ _) _ _) _ _ = W9 at z hb9 ⊢
    obtain ⟨y0, y1, y2, _, _, _⟩ := three_of z
    exact bodyPost_ret (v := .agg #[.int .i64 (-1), .int .i64 0, .int .i64 0]) (by simp [results, Tryd.results33, go_sem, y0, y1, y2]) rfl ⟨by rw [hR.out], hb9⟩
  have p6 : ((z : Int) != 125) = false := natNe_yes z125
  by_cases b0 : a2 = 0
  case pos =>
    have p7 : ((m : Int) == (k1 : Int) + 1) = true := by rw [beq_iff_eq]; have := m3.out.1 b0; omega
    have hR := Lib.hid (show oV l.length false (l.drop j) = ((m : Int) + 1, (lo : Int), -1) by rw [hO.out, hT7.out, if_pos z125, if_pos b0]; unfold oT; simp only; rw [hrl2.out]; rfl)
    clear z125 b0
    go_wp2_with fail
    have z := set3_heap (.int .i64 ((m : Int) + 1)) (.int .i64 (lo : Int)) (.int .i64 (-1)) hn0
    have hb9 := hb0.trans (set3_below _ w.heap.size (.int .i64 ((m : Int) + 1)) (.int .i64 (lo : Int)) (.int .i64 (-1)) (Nat.le_refl _))
    generalize World.setCell (World.setCell (World.setCell _ _ _) _ _) _ _ = W9 at z hb9 ⊢
    obtain ⟨y0, y1, y2, _, _, _⟩ := three_of z
    exact bodyPost_ret (v := .agg #[.int .i64 ((m : Int) + 1), .int .i64 (lo : Int), .int .i64 (-1)]) (by simp [results, Tryd.results33, go_sem, y0, y1, y2]) rfl ⟨by rw [hR.out], hb9⟩
  have p7 : ((m : Int) == (k1 : Int) + 1) = false := by rw [beq_eq_false_iff_ne]; intro h; exact b0 (m3.out.2 (by omega))
  by_cases hh : hi < lo
  case pos =>
    have p8 : (hi : Int) < (lo : Int) := by omega
    have hR := Lib.hid (show oV l.length false (l.drop j) = (-1, 0, 0) by rw [hO.out, hT7.out, if_pos z125, if_neg b0, if_pos hh]; rfl)
    clear z125 b0 hh
    go_wp2_with fail
    have z := set3_heap (.int .i64 (-1)) (.int .i64 0) (.int .i64 0) hn0
    have hb9 := hb0.trans (set3_below _ w.heap.size (.int .i64 (-1)) (.int .i64 0) (.int .i64 0) (Nat.le_refl _))
    generalize World.setCell (World.setCell (World.setCell _ _ _) _ _) _ _ = W9 at z hb9 ⊢
    obtain ⟨y0, y1, y2, _, _, _⟩ := three_of z
    exact bodyPost_ret (v := .agg #[.int .i64 (-1), .int .i64 0, .int .i64 0]) (by simp [results, Tryd.results33, go_sem, y0, y1, y2]) rfl ⟨by rw [hR.out], hb9⟩
  have p8 : decide ((hi : Int) < (lo : Int)) = false := decide_eq_false (by omega)
  have p9 : (lo : Int) ≤ (hi : Int) := by omega
  have hR := Lib.hid (show oV l.length false (l.drop j) = ((m : Int) + 1, (lo : Int), (hi : Int)) by rw [hO.out, hT7.out, if_pos z125, if_neg b0, if_neg hh]; unfold oT; simp only; rw [hrl2.out]; rfl)
  clear z125 b0 hh
  go_wp2_with fail
  have z := set3_heap (.int .i64 ((m : Int) + 1)) (.int .i64 (lo : Int)) (.int .i64 (hi : Int)) hn0
  have hb9 := hb0.trans (set3_below _ w.heap.size (.int .i64 ((m : Int) + 1)) (.int .i64 (lo : Int)) (.int .i64 (hi : Int)) (Nat.le_refl _))
  generalize World.setCell (World.setCell (World.setCell _ _ _) _ _) _ _ = W9 at z hb9 ⊢
  obtain ⟨y0, y1, y2, _, _, _⟩ := three_of z
  exact bodyPost_ret (v := .agg #[.int .i64 ((m : Int) + 1), .int .i64 (lo : Int), .int .i64 (hi : Int)]) (by simp [results, Tryd.results33, go_sem, y0, y1, y2]) rfl ⟨by rw [hR.out], hb9⟩
end Go.Proofs.YtfhgnnlhacjnkaaDoor

/-
  The pattern's reader: often: the walk.
-/
namespace Go.Proofs.YtfhgnnlhacjnkaaDoor
set_option linter.unusedVariables false
set_option linter.unusedSimpArgs false
open Go.RowKit PT

/-- how often, told: what is left, the mark -/
def OftR (r : Nat) (X : List Nat) (d : Int) (b g : Bool) (w : World) (e : Ending) (w' : World) : Prop := ∃ (lo hi : Int) (X' : List Nat) (b' : Bool), e = .returned (.tuple #[.int .i64 lo, .int .i64 hi]) ∧ RD r X' d b' w' ∧ Rd r w w' ∧ X'.length ≤ X.length ∧ (b = true → b' = true) ∧
  (b = false → match oftenP g X with
    | none => b' = true
    | some (lo', hi', X'') => b' = false ∧ X' = X'' ∧ lo = (lo' : Int) ∧ hi = hiV hi')
theorem as_grp (v : Value) (W : World) : (Instr.typeAssert (.iface 41 v) 53 41 true).run Tryd.prog W = .ok (.tuple #[v, .bool true]) W := by kernel_rfl
theorem as_not (v : Value) (W : World) : (Instr.typeAssert (.iface 57 v) 53 41 true).run Tryd.prog W = .ok (.tuple #[.pointer none, .bool false]) W := by kernel_rfl
theorem as_cls (v : Value) (W : World) : (Instr.typeAssert (.iface 57 v) 53 57 false).run Tryd.prog W = .ok v W := by kernel_rfl
def atomT (g : Bool) (k : Nat) : Value := .iface (if g then 41 else 57) (.pointer (some ⟨k, 0, none⟩))
theorem hd_cons {X : List Nat} {c : Nat} (h : hdI X = (c : Int)) : ∃ R, X = c :: R := by
  cases X with
  | nil => have : (-1 : Int) = (c : Int) := h; omega
  | cons x R => have h2 : (x : Int) = (c : Int) := h; exact ⟨R, by rw [show x = c by omega]⟩
theorem oft_123 (R : List Nat) : oftenP false (123 :: R) = timC R := by
  rw [oP_cons, if_neg (by decide), if_neg (by decide), if_neg (by decide), if_pos rfl, if_neg (by decide), timesP_C]
theorem tim_zero {R : List Nat} (h : (numC R).1 = 0) : timC R = none := by unfold timC; rw [if_pos h]
theorem tim_nil {R : List Nat} (h : R.drop (numC R).1 = []) : timC R = none := by
  unfold timC
  by_cases h0 : (numC R).1 = 0
  · rw [if_pos h0]
  · rw [if_neg h0, h]
theorem tim_one {R r2 : List Nat} (h0 : (numC R).1 ≠ 0) (h : R.drop (numC R).1 = 125 :: r2) : timC R = some ((numC R).2, some (numC R).2, r2) := by
  unfold timC; rw [if_neg h0, h]; simp only [if_true]
theorem tim_other {R r2 : List Nat} {y : Nat} (h : R.drop (numC R).1 = y :: r2) (h1 : y ≠ 125) (h2 : y ≠ 44) : timC R = none := by
  unfold timC
  by_cases h0 : (numC R).1 = 0
  · rw [if_pos h0]
  · rw [if_neg h0, h]; simp only; rw [if_neg h1, if_neg h2]
theorem tim_two {R r2 : List Nat} (h0 : (numC R).1 ≠ 0) (h : R.drop (numC R).1 = 44 :: r2) : timC R = (match r2.drop (numC r2).1 with
        | [] => none
        | z :: r5 => if z = 125 then (if (numC r2).1 = 0 then some ((numC R).2, none, r5) else if (numC r2).2 < (numC R).2 then none else some ((numC R).2, some (numC r2).2, r5)) else none) := by
  unfold timC; rw [if_neg h0, h]; exact (if_neg (by decide : ¬ (44 : Nat) = 125)).trans (if_pos rfl)
set_option maxHeartbeats 4000000 in
set_option maxRecDepth 100000 in
theorem often9_any (r : Nat) (X : List Nat) (d : Int) (b g : Bool) (k : Nat) (w : World) (hR : RD r X d b w) :
    Calls Tryd.prog 38 #[rp r, atomT g k] w fun e w' => OftR r X d b g w e w' := by
  have hRR := Lib.hid hR
  have has1 := as_grp
  have has2 := as_not
  clear hR
  by_cases h42 : hdI X = 42 ∨ hdI X = 43 ∨ hdI X = 63
  · have hh := h42
    go_enter Tryd.func38, Tryd.ntmps38
    go_wp2_with fail
    refine (next_any r _ d b _ hRR.out).mono ?_
    rintro e w1 ⟨rfl, hb1⟩
    have hR1 := hRR.out.kept hb1
    rcases h42 with h | h | h
    · obtain ⟨R, rfl⟩ := hd_cons (c := 42) h
      clear h hh
      rw [show hdI (42 :: R) = 42 from rfl]
      go_wp2_with fail
      refine (take_any r _ d b _ hR1).mono ?_
      rintro e w2 ⟨rfl, hR2, hd2⟩
      rw [show (b || decide (42 :: R = [])) = b by simp, show (42 :: R).drop 1 = R from rfl] at hR2
      have hrd := Lib.hid ((Rd.of_below (r := r) hb1).trans hd2)
      have hfin := Lib.hid hR2
      clear hR2 hd2
      go_wp2_with fail
      go_ret2
      have hof := Lib.hid (show oftenP g (42 :: R) = some (0, none, R) by rw [oP_cons, if_pos rfl])
      exact ⟨0, (-1), R, b, rfl, hfin.out, hrd.out, by simp, fun h => h, fun h => by rw [hof.out]; exact ⟨h, rfl, rfl, rfl⟩⟩
    · obtain ⟨R, rfl⟩ := hd_cons (c := 43) h
      clear h hh
      rw [show hdI (43 :: R) = 43 from rfl]
      go_wp2_with fail
      refine (take_any r _ d b _ hR1).mono ?_
      rintro e w2 ⟨rfl, hR2, hd2⟩
      rw [show (b || decide (43 :: R = [])) = b by simp, show (43 :: R).drop 1 = R from rfl] at hR2
      have hrd := Lib.hid ((Rd.of_below (r := r) hb1).trans hd2)
      have hfin := Lib.hid hR2
      clear hR2 hd2
      go_wp2_with fail
      go_ret2
      have hof := Lib.hid (show oftenP g (43 :: R) = some (1, none, R) by rw [oP_cons, if_neg (by decide), if_pos rfl])
      exact ⟨1, (-1), R, b, rfl, hfin.out, hrd.out, by simp, fun h => h, fun h => by rw [hof.out]; exact ⟨h, rfl, rfl, rfl⟩⟩
    · obtain ⟨R, rfl⟩ := hd_cons (c := 63) h
      clear h hh
      rw [show hdI (63 :: R) = 63 from rfl]
      go_wp2_with fail
      refine (take_any r _ d b _ hR1).mono ?_
      rintro e w2 ⟨rfl, hR2, hd2⟩
      rw [show (b || decide (63 :: R = [])) = b by simp, show (63 :: R).drop 1 = R from rfl] at hR2
      have hrd := Lib.hid ((Rd.of_below (r := r) hb1).trans hd2)
      have hfin := Lib.hid hR2
      clear hR2 hd2
      go_wp2_with fail
      go_ret2
      have hof := Lib.hid (show oftenP g (63 :: R) = some (0, some 1, R) by rw [oP_cons, if_neg (by decide), if_neg (by decide), if_pos rfl])
      exact ⟨0, 1, R, b, rfl, hfin.out, hrd.out, by simp, fun h => h, fun h => by rw [hof.out]; exact ⟨h, rfl, rfl, rfl⟩⟩
  have q42 : (hdI X == 42) = false := intNe (fun h => h42 (.inl h))
  have q43 : (hdI X == 43) = false := intNe (fun h => h42 (.inr (.inl h)))
  have q63 : (hdI X == 63) = false := intNe (fun h => h42 (.inr (.inr h)))
  by_cases h123 : hdI X = 123
  case neg =>
    have q123 : (hdI X == 123) = false := intNe h123
    have hspec := Lib.hid (show oftenP g X = some (1, some 1, X) by
      cases X with
      | nil => rfl
      | cons c R =>
        have h1 : c ≠ 42 := fun e => h42 (.inl (by rw [e]; rfl))
        have h2 : c ≠ 43 := fun e => h42 (.inr (.inl (by rw [e]; rfl)))
        have h3 : c ≠ 63 := fun e => h42 (.inr (.inr (by rw [e]; rfl)))
        have h4 : c ≠ 123 := fun e => h123 (by rw [e]; rfl)
        rw [oP_cons, if_neg h1, if_neg h2, if_neg h3, if_neg h4])
    clear h42 h123
    go_enter Tryd.func38, Tryd.ntmps38
    go_wp2_with fail
    refine (next_any r _ d b _ hRR.out).mono ?_
    rintro e w1 ⟨rfl, hb1⟩
    have hfin := Lib.hid (hRR.out.kept hb1)
    go_wp2_with fail
    go_ret2
    exact ⟨1, 1, X, b, rfl, hfin.out, Rd.of_below hb1, Nat.le_refl _, fun h => h, fun h => by rw [hspec.out]; exact ⟨h, rfl, rfl, rfl⟩⟩
  obtain ⟨R, rfl⟩ := hd_cons (c := 123) h123
  clear h42 q42 q43 q63 h123
  cases g with
  | true =>
    have hspec := Lib.hid (show oftenP true (123 :: R) = none by rw [oP_cons]; rfl)
    go_enter Tryd.func38, Tryd.ntmps38
    go_wp2_with fail
    refine (next_any r _ d b _ hRR.out).mono ?_
    rintro e w1 ⟨rfl, hb1⟩
    rw [show hdI (123 :: R) = 123 from rfl]
    have hR1 := hRR.out.kept hb1
    have hfin := Lib.hid (hR1.setBad true)
    have hrd := Lib.hid ((Rd.of_below (r := r) hb1).trans (Rd.setCell r 2 (.bool true) w1))
    obtain ⟨s, c0, c1, c2, f0, f1, f2, hs, hv, hX⟩ := hR1.at
    unfold atomT
    rw [if_pos rfl]
    go_wp2_with fail
    go_ret2
    exact ⟨1, 1, 123 :: R, true, rfl, hfin.out, hrd.out, Nat.le_refl _, fun _ => rfl, fun _ => by rw [hspec.out]⟩
  | false =>
    have hsp := Lib.hid (oft_123 R)
    go_enter Tryd.func38, Tryd.ntmps38
    go_wp2_with fail
    refine (next_any r _ d b _ hRR.out).mono ?_
    rintro e w1 ⟨rfl, hb1⟩
    rw [show hdI (123 :: R) = 123 from rfl]
    have hR1 := hRR.out.kept hb1
    unfold atomT
    rw [if_neg Bool.false_ne_true]
    go_wp2_with fail
    refine (take_any r _ d b _ hR1).mono ?_
    rintro e w2 ⟨rfl, hR2, hd2⟩
    rw [show (b || decide (123 :: R = [])) = b by simp, show (123 :: R).drop 1 = R from rfl] at hR2
    replace hd2 := (Rd.of_below (r := r) hb1).trans hd2
    go_wp2_with fail
    refine (number_any r _ d b _ hR2).mono ?_
    rintro e w3 ⟨rfl, hR3, hd3⟩
    replace hd3 := hd2.trans hd3
    have hle1 := numC_le R
    obtain ⟨R1, hR1e⟩ : ∃ R1, R.drop (numC R).1 = R1 := ⟨_, rfl⟩
    have hlR1 : R1.length ≤ R.length := by rw [← hR1e, List.length_drop]; omega
    rw [hR1e] at hR3
    have hd1h := Lib.hid hR1e
    obtain ⟨b1, hb1e⟩ : ∃ b1, (b || decide ((numC R).1 = 0)) = b1 := ⟨_, rfl⟩
    rw [hb1e] at hR3
    have hbh := Lib.hid hb1e
    obtain ⟨lo, hloe⟩ : ∃ lo, (numC R).2 = lo := ⟨_, rfl⟩
    rw [hloe]
    have hloh := Lib.hid hloe
    clear hR1e hb1e hloe hR2 hd2 hR1
    go_wp2_with fail
    refine (next_any r _ d b1 _ hR3).mono ?_
    rintro e w4 ⟨rfl, hb4⟩
    have hR4 := hR3.kept hb4
    have hd4 := hd3.trans (Rd.of_below (r := r) hb4)
    clear hR3 hd3 hb4 hb1
    by_cases hA : hdI R1 = 44
    case neg =>
      have pA : (hdI R1 == 44) = false := intNe hA
      go_wp2_with fail
      refine (take_any r _ d b1 _ hR4).mono ?_
      rintro e w9 ⟨rfl, hR9, hd9⟩
      replace hd9 := hd4.trans hd9
      by_cases hC : hdI R1 = 125
      · obtain ⟨R5, hR5⟩ := hd_cons (c := 125) hC
        have pC : (hdI R1 != 125) = false := by rw [hC]; rfl
        rw [show (b1 || decide (R1 = [])) = b1 by rw [hR5]; simp, show R1.drop 1 = R5 by rw [hR5]; rfl] at hR9
        have hfin := Lib.hid hR9
        have hrd := Lib.hid hd9
        have hl5 : R5.length ≤ R.length + 1 := by have h := congrArg List.length hR5; simp only [List.length_cons] at h; omega
        have hspec := Lib.hid (show b = false → match timC R with | none => b1 = true | some (lo', hi', X'') => b1 = false ∧ R5 = X'' ∧ ((lo : Int) : Int) = (lo' : Int) ∧ ((lo : Int) : Int) = hiV hi' from fun hbf => by
          by_cases h0 : (numC R).1 = 0
          · rw [tim_zero h0, ← hbh.out, decide_eq_true h0, Bool.or_true]
          · rw [tim_one h0 (hd1h.out.trans hR5), hloh.out]
            exact ⟨by rw [← hbh.out, hbf, decide_eq_false h0]; rfl, rfl, rfl, rfl⟩)
        clear hC hR5 hR9 hd9
        go_wp2_with fail
        go_ret2
        exact ⟨(lo : Int), (lo : Int), R5, b1, rfl, hfin.out, hrd.out, by simpa using hl5, fun h => by rw [← hbh.out, h]; rfl, fun h => by rw [hsp.out]; exact hspec.out h⟩
      · have pC : (hdI R1 != 125) = true := by rw [bne, intNe hC]; rfl
        have hfin := Lib.hid (hR9.setBad true)
        have hrd := Lib.hid (hd9.trans (Rd.setCell r 2 (.bool true) w9))
        obtain ⟨s, c0, c1, c2, f0, f1, f2, hs, hv, hX⟩ := hR9.at
        have hnone := Lib.hid (show timC R = none by
          cases hq : R1 with
          | nil => exact tim_nil (hd1h.out.trans hq)
          | cons y r2 => exact tim_other (hd1h.out.trans hq) (fun e => hC (by rw [hq, e]; rfl)) (fun e => hA (by rw [hq, e]; rfl)))
        have hl5 : (R1.drop 1).length ≤ R.length + 1 := by rw [List.length_drop]; omega
        clear hC hR9 hd9
        go_wp2_with fail
        go_ret2
        exact ⟨(lo : Int), (lo : Int), R1.drop 1, true, rfl, hfin.out, hrd.out, by simpa using hl5, fun _ => rfl, fun _ => by rw [hsp.out, hnone.out]⟩
    obtain ⟨R2, hR2e⟩ := hd_cons (c := 44) hA
    have pA : (hdI R1 == 44) = true := by rw [hA]; rfl
    go_wp2_with fail
    refine (take_any r _ d b1 _ hR4).mono ?_
    rintro e w5 ⟨rfl, hR5, hd5⟩
    rw [show (b1 || decide (R1 = [])) = b1 by rw [hR2e]; simp, show R1.drop 1 = R2 by rw [hR2e]; rfl] at hR5
    replace hd5 := hd4.trans hd5
    have hlR2 : R2.length + 1 ≤ R.length := by have h := congrArg List.length hR2e; simp only [List.length_cons] at h; omega
    have hcomma := Lib.hid (hd1h.out.trans hR2e)
    clear hA hR2e hR4 hd4
    go_wp2_with fail
    refine (next_any r _ d b1 _ hR5).mono ?_
    rintro e w6 ⟨rfl, hb6⟩
    have hR6 := hR5.kept hb6
    have hd6 := hd5.trans (Rd.of_below (r := r) hb6)
    clear hR5 hd5 hb6
    by_cases hB : hdI R2 = 125
    case pos =>
      have pB : (hdI R2 != 125) = false := by rw [hB]; rfl
      go_wp2_with fail
      refine (take_any r _ d b1 _ hR6).mono ?_
      rintro e w9 ⟨rfl, hR9, hd9⟩
      replace hd9 := hd6.trans hd9
      by_cases hC : hdI R2 = 125
      · obtain ⟨R5, hR5⟩ := hd_cons (c := 125) hC
        have pC : (hdI R2 != 125) = false := by rw [hC]; rfl
        rw [show (b1 || decide (R2 = [])) = b1 by rw [hR5]; simp, show R2.drop 1 = R5 by rw [hR5]; rfl] at hR9
        have hfin := Lib.hid hR9
        have hrd := Lib.hid hd9
        have hl5 : R5.length ≤ R.length + 1 := by have h := congrArg List.length hR5; simp only [List.length_cons] at h; omega
        have hspec := Lib.hid (show b = false → match timC R with | none => b1 = true | some (lo', hi', X'') => b1 = false ∧ R5 = X'' ∧ ((lo : Int) : Int) = (lo' : Int) ∧ ((-1) : Int) = hiV hi' from fun hbf => by
          by_cases h0 : (numC R).1 = 0
          · rw [tim_zero h0, ← hbh.out, decide_eq_true h0, Bool.or_true]
          · have hn2 : numC R2 = (0, 0) := by rw [hR5]; rfl
            have e : timC R = some (lo, none, R5) := by
              rw [tim_two h0 hcomma.out, hn2, hloh.out]
              rw [show R2.drop ((0, 0) : Nat × Nat).1 = 125 :: R5 from hR5]
              rfl
            rw [e]
            exact ⟨by rw [← hbh.out, hbf, decide_eq_false h0]; rfl, rfl, rfl, rfl⟩)
        clear hC hR5 hR9 hd9
        go_wp2_with fail
        go_ret2
        exact ⟨(lo : Int), (-1), R5, b1, rfl, hfin.out, hrd.out, by simpa using hl5, fun h => by rw [← hbh.out, h]; rfl, fun h => by rw [hsp.out]; exact hspec.out h⟩
      · exact absurd hB hC
    have pB : (hdI R2 != 125) = true := by rw [bne, intNe hB]; rfl
    go_wp2_with fail
    refine (number_any r _ d b1 _ hR6).mono ?_
    rintro e w7 ⟨rfl, hR7, hd7⟩
    replace hd7 := hd6.trans hd7
    have hle2 := numC_le R2
    obtain ⟨R3, hR3e⟩ : ∃ R3, R2.drop (numC R2).1 = R3 := ⟨_, rfl⟩
    rw [hR3e] at hR7
    have hlR3 : R3.length ≤ R2.length := by rw [← hR3e, List.length_drop]; omega
    have hd3h := Lib.hid hR3e
    obtain ⟨b2, hb2e⟩ : ∃ b2, (b1 || decide ((numC R2).1 = 0)) = b2 := ⟨_, rfl⟩
    rw [hb2e] at hR7
    have hbh2 := Lib.hid hb2e
    obtain ⟨hi, hhie⟩ : ∃ hi, (numC R2).2 = hi := ⟨_, rfl⟩
    rw [hhie]
    have hhih := Lib.hid hhie
    clear hR3e hb2e hhie hR6 hd6
    have hBh := Lib.hid hB
    clear hB
    by_cases hD : hi < lo
    · have pD : (hi : Int) < (lo : Int) := by omega
      have hR8 := hR7.setBad true
      have hd8 := hd7.trans (Rd.setCell r 2 (.bool true) w7)
      obtain ⟨s7, _, _, c27, _, _, f27, _, _, _⟩ := hR7.at
      have hDh := Lib.hid hD
      clear hD hR7 hd7
      go_wp2_with fail
      refine (take_any r _ d true _ hR8).mono ?_
      rintro e w9 ⟨rfl, hR9, hd9⟩
      replace hd9 := hd8.trans hd9
      by_cases hC : hdI R3 = 125
      · obtain ⟨R5, hR5⟩ := hd_cons (c := 125) hC
        have pC : (hdI R3 != 125) = false := by rw [hC]; rfl
        rw [show (true || decide (R3 = [])) = true by rw [hR5]; simp, show R3.drop 1 = R5 by rw [hR5]; rfl] at hR9
        have hfin := Lib.hid hR9
        have hrd := Lib.hid hd9
        have hl5 : R5.length ≤ R.length + 1 := by have h := congrArg List.length hR5; simp only [List.length_cons] at h; omega
        have hnone := Lib.hid (show timC R = none by
          by_cases h0 : (numC R).1 = 0
          · exact tim_zero h0
          · rw [tim_two h0 hcomma.out, hd3h.out, hR5]
            simp only [if_true]
            by_cases h1 : (numC R2).1 = 0
            · exfalso
              rw [h1] at hd3h
              have := hd3h.out
              rw [List.drop_zero] at this
              exact hBh.out (by rw [this]; exact hC)
            · rw [if_neg h1, if_pos (by rw [hhih.out, hloh.out]; exact hDh.out)])
        clear hC hR5 hR9 hd9
        go_wp2_with fail
        go_ret2
        exact ⟨(lo : Int), (hi : Int), R5, true, rfl, hfin.out, hrd.out, by simpa using hl5, fun _ => rfl, fun _ => by rw [hsp.out, hnone.out]⟩
      · have pC : (hdI R3 != 125) = true := by rw [bne, intNe hC]; rfl
        have hfin := Lib.hid (hR9.setBad true)
        have hrd := Lib.hid (hd9.trans (Rd.setCell r 2 (.bool true) w9))
        obtain ⟨s, c0, c1, c2, f0, f1, f2, hs, hv, hX⟩ := hR9.at
        have hnone := Lib.hid (show timC R = none by
          by_cases h0 : (numC R).1 = 0
          · exact tim_zero h0
          · rw [tim_two h0 hcomma.out, hd3h.out]
            cases hq : R3 with
            | nil => rfl
            | cons z r5 => simp only; rw [if_neg (fun e => hC (by rw [hq, e]; rfl))])
        have hl5 : (R3.drop 1).length ≤ R.length + 1 := by rw [List.length_drop]; omega
        clear hC hR9 hd9
        go_wp2_with fail
        go_ret2
        exact ⟨(lo : Int), (hi : Int), R3.drop 1, true, rfl, hfin.out, hrd.out, by simpa using hl5, fun _ => rfl, fun _ => by rw [hsp.out, hnone.out]⟩
    · have pD : decide ((hi : Int) < (lo : Int)) = false := decide_eq_false (by omega)
      have pD2 : (lo : Int) ≤ (hi : Int) := by omega
      have hDh := Lib.hid hD
      clear hD
      go_wp2_with fail
      refine (take_any r _ d b2 _ hR7).mono ?_
      rintro e w9 ⟨rfl, hR9, hd9⟩
      replace hd9 := hd7.trans hd9
      by_cases hC : hdI R3 = 125
      · obtain ⟨R5, hR5⟩ := hd_cons (c := 125) hC
        have pC : (hdI R3 != 125) = false := by rw [hC]; rfl
        rw [show (b2 || decide (R3 = [])) = b2 by rw [hR5]; simp, show R3.drop 1 = R5 by rw [hR5]; rfl] at hR9
        have hfin := Lib.hid hR9
        have hrd := Lib.hid hd9
        have hl5 : R5.length ≤ R.length + 1 := by have h := congrArg List.length hR5; simp only [List.length_cons] at h; omega
        have hspec := Lib.hid (show b = false → match timC R with | none => b2 = true | some (lo', hi', X'') => b2 = false ∧ R5 = X'' ∧ ((lo : Int) : Int) = (lo' : Int) ∧ ((hi : Int) : Int) = hiV hi' from fun hbf => by
          by_cases h0 : (numC R).1 = 0
          · rw [tim_zero h0, ← hbh2.out, ← hbh.out, decide_eq_true h0, Bool.or_true, Bool.true_or]
          · rw [tim_two h0 hcomma.out, hd3h.out, hR5]
            simp only [if_true]
            by_cases h1 : (numC R2).1 = 0
            · exfalso
              rw [h1] at hd3h
              have := hd3h.out
              rw [List.drop_zero] at this
              exact hBh.out (by rw [this]; exact hC)
            · rw [if_neg h1, if_neg (by rw [hhih.out, hloh.out]; exact hDh.out), hhih.out, hloh.out]
              exact ⟨by rw [← hbh2.out, ← hbh.out, hbf, decide_eq_false h0, decide_eq_false h1]; rfl, rfl, rfl, rfl⟩)
        clear hC hR5 hR9 hd9
        go_wp2_with fail
        go_ret2
        exact ⟨(lo : Int), (hi : Int), R5, b2, rfl, hfin.out, hrd.out, by simpa using hl5, fun h => by rw [← hbh2.out, ← hbh.out, h]; rfl, fun h => by rw [hsp.out]; exact hspec.out h⟩
      · have pC : (hdI R3 != 125) = true := by rw [bne, intNe hC]; rfl
        have hfin := Lib.hid (hR9.setBad true)
        have hrd := Lib.hid (hd9.trans (Rd.setCell r 2 (.bool true) w9))
        obtain ⟨s, c0, c1, c2, f0, f1, f2, hs, hv, hX⟩ := hR9.at
        have hnone := Lib.hid (show timC R = none by
          by_cases h0 : (numC R).1 = 0
          · exact tim_zero h0
          · rw [tim_two h0 hcomma.out, hd3h.out]
            cases hq : R3 with
            | nil => rfl
            | cons z r5 => simp only; rw [if_neg (fun e => hC (by rw [hq, e]; rfl))])
        have hl5 : (R3.drop 1).length ≤ R.length + 1 := by rw [List.length_drop]; omega
        clear hC hR9 hd9
        go_wp2_with fail
        go_ret2
        exact ⟨(lo : Int), (hi : Int), R3.drop 1, true, rfl, hfin.out, hrd.out, by simpa using hl5, fun _ => rfl, fun _ => by rw [hsp.out, hnone.out]⟩
end Go.Proofs.YtfhgnnlhacjnkaaDoor

/-
  The pattern's reader: row, rows (what is left, and whether it went): the walks, by depth.
-/
namespace Go.Proofs.YtfhgnnlhacjnkaaDoor
set_option linter.unusedVariables false
set_option linter.unusedSimpArgs false
open Go.RowKit PT

abbrev tcls : TypeId := 57
abbrev tgrp : TypeId := 41
/-- what an atom, a row, rows give: what is left, the mark, how what is read lies from block number B on -/
def OkA (kk : Nat) (X X' : List Nat) (b' : Bool) (B : Nat) (v : Value) (w' : World) : Prop := match atomK kk X with
  | none => b' = true
  | some (dn, X'') => b' = false ∧ X' = X'' ∧ AtomV (Ge B) tcls tgrp kk dn v w'
def OkRow (kk : Nat) (X X' : List Nat) (b' : Bool) (B : Nat) (v : Value) (w' : World) : Prop := match rowF (atomK kk) X with
  | none => b' = true
  | some (ps, X'') => b' = false ∧ X' = X'' ∧ RowV (Ge B) (AtomV (Ge B) tcls tgrp kk) ps v w'
def OkRows (kk : Nat) (X X' : List Nat) (b' : Bool) (B : Nat) (v : Value) (w' : World) : Prop := match rowsF (atomK kk) X with
  | none => b' = true
  | some (rs, X'') => b' = false ∧ X' = X'' ∧ RowsV (Ge B) (AtomV (Ge B) tcls tgrp kk) rs v w'
def AtomQ (kk : Nat) (d : Int) : Prop := ∀ (r : Nat) (X : List Nat) (w : World), X ≠ [] → RD r X d false w → Calls Tryd.prog 37 #[rp r] w fun e w' => ∃ (k : Nat) (X' : List Nat) (b' : Bool), e = .returned (atomT (decide (hdI X = 40)) k) ∧ RD r X' d b' w' ∧ Rd r w w' ∧ X'.length < X.length ∧ OkA kk X X' b' w.heap.size (atomT (decide (hdI X = 40)) k) w'
def RowRes (kk : Nat) (r : Nat) (X : List Nat) (d : Int) (b : Bool) (w : World) (e : Ending) (w' : World) : Prop := ∃ (a : Option Addr) (n c : Nat) (X' : List Nat) (b' : Bool), e = .returned (.slice a n c) ∧ RD r X' d b' w' ∧ Rd r w w' ∧ X'.length ≤ X.length ∧ (b = true → b' = true) ∧ (b = false → OkRow kk X X' b' w.heap.size (.slice a n c) w')
def RowsRes (kk : Nat) (r : Nat) (X : List Nat) (d : Int) (b : Bool) (w : World) (e : Ending) (w' : World) : Prop := ∃ (a : Option Addr) (n c : Nat) (X' : List Nat) (b' : Bool), e = .returned (.slice a n c) ∧ RD r X' d b' w' ∧ Rd r w w' ∧ X'.length ≤ X.length ∧ (b = true → b' = true) ∧ (b = false → OkRows kk X X' b' w.heap.size (.slice a n c) w')
def RowQ (kk : Nat) (d : Int) (P : Bool → Prop) : Prop := ∀ (r : Nat) (X : List Nat) (b : Bool) (w : World), P b → RD r X d b w → Calls Tryd.prog 29 #[rp r] w fun e w' => RowRes kk r X d b w e w'
def RowsQ (kk : Nat) (d : Int) (P : Bool → Prop) : Prop := ∀ (r : Nat) (X : List Nat) (b : Bool) (w : World), P b → RD r X d b w → Calls Tryd.prog 21 #[rp r] w fun e w' => RowsRes kk r X d b w e w'
/-- the blocks from number B on, but a row's own -/
def Sv (B : Nat) (v : Value) (k : Nat) : Prop := B ≤ k ∧ v.ownBlock ≠ some k
theorem Hi.of_grown {S : Nat → Prop} {w w' : World} {o : Option Nat} (h : w.grownBy w' o) (hS : ∀ k, S k → o ≠ some k) : Hi S w w' := ⟨h.size, fun k hk hs => h.block k hs (fun e => hS k hk e.symm)⟩
/-- 'out = append(out, l...)' into an own row, and where the row lies then -/
theorem wpList_append_at9 {W : World} {ops : Array Oper} {rest : List Oper} {o : Oper} {a : Act} {Q : Exit → Act → World → Prop} (hgd : o.guard = none) (s x : Operand) (S T : TypeId) {z : Value} {size bytes : Nat}
    (ho : o.op = .call { callee := .builtin .append, args := #[s, x], argTypes := #[S, S] }) (hS : Tryd.prog.underlying S = some (.slice T))
    (hinfo : (Tryd.prog.info? T).map (fun i => (i.zero, i.size, i.bytes)) = some (some z, size, bytes)) (hz : z.cells.size = size) (hsz : 0 < size)
    {base n : Nat} {xs : List Value} {v : Value} (hs : a.eval s = v) {ad : Addr} {m cap : Nat} {news : List Value} (hx : a.eval x = .slice (some ad) m cap) (hl : news.length = m * size)
    (hnews : ∀ j u, news[j]? = some u → W.cell? (ad.add j) = some u) (hu : ∀ u ∈ news, u.oneCell' = true)
    (hown : W.ownsRow base T size v n xs) (hlen : n + m ≤ maxLen) (hby : (n + m) * bytes ≤ 140737488355328) (hbase : base ≤ W.heap.size)
    (h : ∀ v' w', w'.ownsRow base T size v' (n + m) (xs ++ news) → W.grownBy w' v.ownBlock → (v'.ownBlock = v.ownBlock ∨ v'.ownBlock = some W.heap.size) → wpList Tryd.prog ops Q rest (a.put o.dst v') w') : wpList Tryd.prog ops Q (o :: rest) a W := by
  obtain ⟨i0, hi, hz0, hz1, hz2⟩ := info_parts hinfo
  exact wpList_append_own_at _ hgd s x S ho base T i0 z size bytes hS hi hz0 hz1 hz2 hz hsz v n xs hs hown ad m cap news hx hl hnews hu hlen hby hbase fun v' w1 h1 h2 _ h4 => h v' w1 h1 h2 h4
/-- an own row as a finished one -/
theorem own_rowAt {base : Nat} {T : TypeId} {sz n : Nat} {xs : List Value} {v : Value} {w : World} (h : w.ownsRow base T sz v n xs) (hsz : 0 < sz) : RowAt (Ge base) n xs v w := by
  obtain ⟨hl, h0⟩ := id h
  by_cases hne : xs = []
  · subst hne
    obtain ⟨a, cap, rfl, _⟩ := own_form h
    have : n = 0 := by
      rcases Nat.eq_zero_or_pos n with h1 | h1
      · exact h1
      · have := Nat.mul_pos h1 hsz
        simp at hl
        omega
    subst this
    exact ⟨a, cap, rfl, Nat.zero_le _, .inl ⟨rfl, rfl⟩⟩
  · obtain ⟨g, cap, rfl, _, hb, hlt, hc⟩ := own_cell h hne
    exact ⟨_, cap, rfl, own_max h, .inr ⟨g, 0, rfl, hb, hlt, fun j u hu => by rw [Nat.zero_add]; exact hc j u hu⟩⟩
/-- how many signs are ahead of the reader -/
def measT (r : Nat) (w : World) : Nat := match w.cell? ⟨r, 0, none⟩ with
  | some (.string s) => (sigs s.data.toList).length
  | _ => 0
theorem measT_eq {r : Nat} {X : List Nat} {d : Int} {b : Bool} {w : World} (h : RD r X d b w) : measT r w = X.length := by
  obtain ⟨s, c0, _, _, _, _, _, _, _, hX⟩ := h.at
  unfold measT
  rw [c0]
  simp only
  rw [hX.out]
theorem info_piece : (Tryd.prog.info? 71).map (fun i => (i.zero, i.size, i.bytes)) = some (some (.agg #[.nilIface, .int .i64 0, .int .i64 0]), 3, 32) := by kernel_rfl
theorem info_pieces : (Tryd.prog.info? 55).map (fun i => (i.zero, i.size, i.bytes)) = some (some (.slice none 0 0), 1, 24) := by kernel_rfl
end Go.Proofs.YtfhgnnlhacjnkaaDoor

/-
  The pattern's reader: a row that grows: how its pieces lie.
-/
namespace Go.Proofs.YtfhgnnlhacjnkaaDoor
set_option linter.unusedVariables false
set_option linter.unusedSimpArgs false
open Go.RowKit PT

theorem dig_le {c : Nat} (h : digB c = true) : c - 48 ≤ 9 := by
  unfold digB at h
  simp only [Bool.and_eq_true, decide_eq_true_eq] at h
  omega
theorem numP_le {l r : List Nat} {n : Nat} (h : numP l = some (n, r)) : n ≤ 99 := by
  cases l with
  | nil => cases h
  | cons a t =>
    unfold numP at h
    simp only at h
    by_cases ha : digB a = true
    · have h1 := dig_le ha
      rw [if_pos ha] at h
      cases t with
      | nil => cases h; omega
      | cons b t =>
        simp only at h
        by_cases hb : digB b = true
        · have h2 := dig_le hb
          rw [if_pos hb] at h
          cases h
          omega
        · rw [if_neg hb] at h
          cases h
          omega
    · rw [if_neg ha] at h
      cases h
theorem timesP_b {l r : List Nat} {lo : Nat} {hi : Option Nat} (h : timesP l = some (lo, hi, r)) : OftB lo hi := by
  unfold timesP at h
  split at h
  · cases h
  · rename_i lo1 r1 h1
    have b1 := numP_le h1
    split at h
    · cases h
    · split at h
      · cases h
        exact ⟨by omega, fun n hn => by cases hn; omega⟩
      · split at h
        · split at h
          · cases h
          · split at h
            · cases h
              exact ⟨by omega, fun n hn => by cases hn⟩
            · split at h
              · cases h
              · rename_i hi1 r4 h4
                have b4 := numP_le h4
                split at h
                · cases h
                · split at h
                  · cases h
                    exact ⟨by omega, fun n hn => by cases hn; omega⟩
                  · cases h
        · cases h
theorem oftenP_b {g : Bool} {l r : List Nat} {lo : Nat} {hi : Option Nat} (h : oftenP g l = some (lo, hi, r)) : OftB lo hi := by
  unfold oftenP at h
  split at h
  · cases h
    exact ⟨by omega, fun n hn => by cases hn; omega⟩
  · repeat' split at h
    all_goals first
      | (cases h; exact ⟨by omega, fun n hn => by cases hn; omega⟩)
      | (cases h; exact ⟨by omega, fun n hn => by cases hn⟩)
      | exact timesP_b h
      | cases h
/-- one piece is read: what of the row is left -/
def StepE (kk : Nat) (X X2 : List Nat) (dn : Den) (lo : Nat) (hi : Option Nat) : Prop := rowF (atomK kk) X = (rowF (atomK kk) X2).map (fun q => (⟨dn, lo, hi⟩ :: q.1, q.2)) ∧ OftB lo hi
/-- the pieces that are read so far, in a row of one's own -/
def DoneRow (kk B : Nat) (X X' : List Nat) (n : Nat) (xs : List Value) (vo : Value) (w : World) : Prop := ∃ (done : List Pce) (as_ : List Value), as_.length = done.length ∧ n = done.length ∧ xs = (List.zipWith pceCells as_ done).flatten ∧
  (∀ (j : Nat) (a : Value) (p : Pce), as_[j]? = some a → done[j]? = some p → AtomV (Sv B vo) tcls tgrp kk p.d a w ∧ OftB p.lo p.hi) ∧ rowF (atomK kk) X = (rowF (atomK kk) X').map (fun q => (done ++ q.1, q.2))
theorem DoneRow.start (kk B : Nat) (X : List Nat) (vo : Value) (w : World) : DoneRow kk B X X 0 [] vo w :=
  ⟨[], [], rfl, rfl, rfl, fun j a p h => by simp at h, by cases rowF (atomK kk) X <;> simp⟩
theorem DoneRow.kept {kk B : Nat} {X X' : List Nat} {n : Nat} {xs : List Value} {vo : Value} {w w' : World} (h : DoneRow kk B X X' n xs vo w) (hb : Hi (Sv B vo) w w') : DoneRow kk B X X' n xs vo w' := by
  obtain ⟨done, as_, h1, h2, h3, h4, h5⟩ := h
  exact ⟨done, as_, h1, h2, h3, fun j a p ha hp => ⟨AtomV.kept kk _ _ _ _ (h4 j a p ha hp).1 hb, (h4 j a p ha hp).2⟩, h5⟩
theorem hi_rd {r B : Nat} {vo : Value} {w w' : World} (h : Rd r w w') (hr : r < B) : Hi (Sv B vo) w w' := h.hi (fun e => by have := e.1; omega)
/-- what is read ends here -/
theorem DoneRow.finish {kk B : Nat} {X X' : List Nat} {n : Nat} {xs : List Value} {vo : Value} {w : World} (h : DoneRow kk B X X' n xs vo w) (hown : w.ownsRow B 71 3 vo n xs) (he : rowF (atomK kk) X' = some ([], X')) : OkRow kk X X' false B vo w := by
  obtain ⟨done, as_, h1, rfl, rfl, h4, h5⟩ := h
  have e : rowF (atomK kk) X = some (done, X') := by rw [h5, he]; simp
  unfold OkRow
  rw [e]
  refine ⟨rfl, rfl, as_, h1, own_rowAt hown (by decide), fun j a p ha hp => ⟨(h4 j a p ha hp).1.mono kk _ _ _ (fun k hk _ => hk.1), (h4 j a p ha hp).2⟩⟩
/-- one piece more -/
theorem DoneRow.step {kk B : Nat} {X X' X2 : List Nat} {n : Nat} {xs : List Value} {vo v' a : Value} {dn : Den} {lo : Nat} {hi : Option Nat} {w w' : World} (h : DoneRow kk B X X' n xs vo w) (ha : AtomV (Sv B vo) tcls tgrp kk dn a w)
    (hg : w.grownBy w' vo.ownBlock) (hv : v'.ownBlock = vo.ownBlock ∨ v'.ownBlock = some w.heap.size) (hX0 : StepE kk X' X2 dn lo hi) :
    DoneRow kk B X X2 (n + 1) (xs ++ [a, .int .i64 lo, .int .i64 (hiV hi)]) v' w' := by
  obtain ⟨hX, hB⟩ := hX0
  obtain ⟨done, as_, h1, rfl, rfl, h4, h5⟩ := h
  have hto : ∀ (d : Den) (u : Value), AtomV (Sv B vo) tcls tgrp kk d u w → AtomV (Sv B v') tcls tgrp kk d u w' := fun d u hu => by
    have e1 := hu.mono kk _ _ _ (S' := fun k => Sv B vo k ∧ Sv B v' k) (fun k hk hlt => ⟨hk, hk.1, fun e => by
      rcases hv with h | h
      · rw [h] at e; exact hk.2 e
      · rw [h] at e; cases e; omega⟩)
    have e2 := AtomV.kept kk _ _ _ _ e1 (Hi.of_grown hg (fun k hk => hk.1.2))
    exact e2.mono kk _ _ _ (fun k hk _ => hk.2)
  refine ⟨done ++ [⟨dn, lo, hi⟩], as_ ++ [a], by simp [h1], by simp, ?_, ?_, ?_⟩
  · rw [List.zipWith_append h1, List.flatten_append]
    rfl
  · intro j u p hu hp
    by_cases hj : j < done.length
    · rw [List.getElem?_append_left (by omega)] at hu
      rw [List.getElem?_append_left hj] at hp
      exact ⟨hto _ _ (h4 j u p hu hp).1, (h4 j u p hu hp).2⟩
    · rw [List.getElem?_append_right (by omega)] at hu
      rw [List.getElem?_append_right (by omega)] at hp
      have e : j - done.length = 0 := by
        rcases Nat.eq_zero_or_pos (j - done.length) with h | h
        · exact h
        · rw [List.getElem?_eq_none (by simp; omega)] at hp; cases hp
      rw [h1, e] at hu
      rw [e] at hp
      cases hu
      cases hp
      exact ⟨hto _ _ ha, hB⟩
  · rw [h5, hX, Option.map_map]
    congr 1
    funext q
    simp [List.append_assoc]
theorem rowF_step {kk : Nat} {c : Nat} {R X1 X2 : List Nat} {dn : Den} {lo : Nat} {hi : Option Nat} (h : ¬ (c = 124 ∨ c = 41)) (h1 : atomK kk (c :: R) = some (dn, X1)) (h2 : oftenP (decide (c = 40)) X1 = some (lo, hi, X2)) : StepE kk (c :: R) X2 dn lo hi := by
  refine ⟨?_, oftenP_b h2⟩
  rw [rowF_cons (atomK_len kk) h, h1]
  simp only
  rw [h2]
  simp only
  cases rowF (atomK kk) X2 with
  | none => rfl
  | some q => rfl
theorem rowF_no1 {kk : Nat} {c : Nat} {R : List Nat} (h : ¬ (c = 124 ∨ c = 41)) (h1 : atomK kk (c :: R) = none) : rowF (atomK kk) (c :: R) = none := by
  rw [rowF_cons (atomK_len kk) h, h1]
theorem rowF_no2 {kk : Nat} {c : Nat} {R X1 : List Nat} {dn : Den} (h : ¬ (c = 124 ∨ c = 41)) (h1 : atomK kk (c :: R) = some (dn, X1)) (h2 : oftenP (decide (c = 40)) X1 = none) : rowF (atomK kk) (c :: R) = none := by
  rw [rowF_cons (atomK_len kk) h, h1]
  simp only
  rw [h2]
theorem done_none {kk B : Nat} {X X' : List Nat} {n : Nat} {xs : List Value} {vo : Value} {w : World} (h : DoneRow kk B X X' n xs vo w) (he : rowF (atomK kk) X' = none) : rowF (atomK kk) X = none := by
  obtain ⟨done, as_, h1, h2, h3, h4, h5⟩ := h
  rw [h5, he]; rfl
end Go.Proofs.YtfhgnnlhacjnkaaDoor
