import Derived.Test.YtafbghlldlconaaPart13
import Derived.Test.YtafbghlldlconaaPart6
import Derived.Test.YtafbghlldlconaaRows
import Derived.Below
import Derived.ChangeSame
import Derived.WalkKit
import Derived.ProofKit
import Derived.ReadAgain
import Derived.ChangeStays
import Derived.ChangeBears
import Derived.Test.YtafbghlldlconaaPart1
import Derived.Deep.Slices
import Derived.Deep.Fields
import Derived.SizedLaws
/-
  The law EntrySubmitter: the walk.
-/
namespace Go.Proofs.Ytafbghlldlconaa
set_option linter.unusedVariables false
set_option linter.unusedSimpArgs false
open Go.RowKit PT

theorem eOf_any (l : List Nd) (cs : List Ct) (form : Int) : eOf l cs form = 0 ∨ eOf l cs form ≠ 0 := by omega
theorem lOf_no {l : List Nd} {cs : List Ct} {form sub : Int} (h : eOf l cs form ≠ 0) : lOf l cs form sub = [] := if_neg h
theorem lOf_len {l : List Nd} {cs : List Ct} (hB : SmallC cs) (form sub : Int) : (lOf l cs form sub).length ≤ 400 * 1048576 := by
  unfold lOf
  split
  · rename_i he
    obtain ⟨hR, _, f0, f1, _⟩ := eOf_ok he
    obtain ⟨t0, t1⟩ := topF_range hR f0 f1
    have h1 := ord_len hR t0 t1
    have h2 := hR.max
    exact Nat.le_trans (flat_lenB hB _ _ _) (Nat.mul_le_mul_right _ (by omega))
  · exact Nat.zero_le _
theorem grd_end {b : List Ent} {j : Nat} (hj : j ≤ b.length) (h : grd (b.drop j) [] = []) : j = b.length := by
  have h2 : b.drop j = [] := h
  have := congrArg List.length h2
  rw [List.length_drop, List.length_nil] at this
  omega
theorem grd_out {a b : List Ent} {i j : Nat} (hi : i < a.length) (hj : b.length ≤ j) (h : grd (b.drop j) (a.drop i) = []) : grd (b.drop j) (a.drop (i + 1)) = [] := by
  rw [List.drop_eq_nil_of_le hj]
  exact grd_nil _
theorem grd_yes {a b : List Ent} {i j : Nat} (hi : i < a.length) (hj : j < b.length) (h : grd (b.drop j) (a.drop i) = []) (he : a[i] = b[j]) : grd (b.drop (j + 1)) (a.drop (i + 1)) = [] := by
  rw [List.drop_eq_getElem_cons hi, List.drop_eq_getElem_cons hj] at h
  change (if entEq a[i] b[j] = true then grd (b.drop (j + 1)) (a.drop (i + 1)) else grd (b[j] :: b.drop (j + 1)) (a.drop (i + 1))) = [] at h
  rw [if_pos ((entEq_iff _ _).2 he)] at h
  exact h
theorem grd_no {a b : List Ent} {i j : Nat} (hi : i < a.length) (hj : j < b.length) (h : grd (b.drop j) (a.drop i) = []) (he : a[i] ≠ b[j]) : grd (b.drop j) (a.drop (i + 1)) = [] := by
  rw [List.drop_eq_getElem_cons hi, List.drop_eq_getElem_cons hj] at h
  change (if entEq a[i] b[j] = true then grd (b.drop (j + 1)) (a.drop (i + 1)) else grd (b[j] :: b.drop (j + 1)) (a.drop (i + 1))) = [] at h
  rw [if_neg (fun e => he ((entEq_iff _ _).1 e))] at h
  rw [List.drop_eq_getElem_cons hj]
  exact h
set_option maxHeartbeats 4000000 in
set_option maxRecDepth 100000 in
theorem entrySubmitter_walk (l : List Nd) (cs : List Ct) (vn vc : Value) (form sub : Int) (w : World) (hD : DocAt l cs vn vc w) (_ : (Lit.int .i64 form).wf = true) (_ : (Lit.int .i64 sub).wf = true) (hB : SmallC cs) :
    Calls Try.prog 5 #[.agg #[vn, vc], .int .i64 form, .int .i64 sub] w fun e w' => e = .returned (.bool true) ∧ Below w.heap.size w w' := by
  obtain ⟨a1, cap1, rfl⟩ := hD.nodes.nodes.len
  obtain ⟨a2, cap2, rfl⟩ := hD.ctls.len
  obtain ⟨hD1, hb1, hs1, c0, c1⟩ := doc_box (T := 25) hD
  obtain ⟨hsubl, hlen2⟩ := lOf_sub l cs form sub
  have hlen1 := hsubl.length_le
  have hstart := Lib.hid (grd_sub _ _ hsubl)
  have hlA := lOf_len (l := l) hB form sub
  go_enter Try.func5, Try.ntmps5
  go_wp2_with fail
  generalize World.alloc w _ = W1 at hD1 hb1 hs1 c0 c1 ⊢
  refine (wakes22_any _).mono ?_
  rintro e w2 ⟨rfl, hb2⟩
  have hD2 := hD1.kept hb2
  have d0 := cellK hb2 (by omega) c0
  have d1 := cellK hb2 (by omega) c1
  have hs2 := hb2.size
  go_wp2_with fail
  refine (lawCopied22_any l cs _ _ _ hD2).mono ?_
  rintro e w3 ⟨vn3, vc3, rfl, hO3, hb3⟩
  have hb23 := bs hb2 hb3
  obtain ⟨a3, cap3, rfl⟩ := hO3.nodes.nodes.len
  obtain ⟨a4, cap4, rfl⟩ := hO3.ctls.len
  have hs3 := hb3.size
  go_wp2_with fail
  refine (entList_any l cs _ _ form sub hB _ hO3).mono ?_
  rintro e w4 ⟨va, rfl, hA, hb4⟩
  have hb24 := bs hb23 hb4
  have hs4 := hb4.size
  have f0 := cellK hb24 (by omega) c0
  have f1 := cellK hb24 (by omega) c1
  obtain ⟨a5, cap5, rfl⟩ := hA.len
  go_wp2_with fail
  refine (lawCopied22_any l cs _ _ _ ((hD2.kept hb3).kept hb4)).mono ?_
  rintro e w5 ⟨vn5, vc5, rfl, hO5, hb5⟩
  obtain ⟨a6, cap6, rfl⟩ := hO5.nodes.nodes.len
  obtain ⟨a7, cap7, rfl⟩ := hO5.ctls.len
  have hs5 := hb5.size
  go_wp2_with fail
  refine (entList_any l cs _ _ form (-1) hB _ hO5).mono ?_
  rintro e w6 ⟨vb, rfl, hBv, hb6⟩
  have hA6 := (hA.kept hb5).kept hb6
  have hbw := bs hb1 (bs (bs hb24 hb5) hb6)
  generalize lOf l cs form sub = A at *
  generalize lOf l cs form (-1) = B at *
  obtain ⟨a8, cap8, rfl⟩ := hBv.len
  generalize eOf l cs form = z at *
  have q1 : (z != z) = false := bne_self_eq_false z
  have q2 : decide ((A.length : Int) < (B.length : Int)) = false := decide_eq_false (by omega)
  have q3 : decide ((B.length : Int) + 2 < (A.length : Int)) = false := decide_eq_false (by omega)
  clear hA hb6 hb5 hb4 hb3 hb2 hb1 hb23 hb24 f0 f1 d0 d1 c0 c1 hO3 hO5 hD1 hD2 hsubl
  go_wp2_with fail
  go_loopw [11, 50] (fun u i wr => ∃ k j : Nat, k ≤ A.length ∧ j ≤ B.length ∧ i = .int .i64 k ∧ u = .int .i64 j ∧ Hid (grd (B.drop j) (A.drop k) = []) ∧ Below w6.heap.size w6 wr) (fun _ i _ => A.length - (intOf i).toNat)
  case atStart => exact ⟨0, 0, Nat.zero_le _, Nat.zero_le _, rfl, rfl, hstart, Below.refl _ _⟩
  case round =>
    obtain ⟨k, j, hk, hj, rfl, rfl, hG, hbel⟩ := hrel
    have hsz := hbel.size
    by_cases hlt : k < A.length
    · obtain ⟨b, o, cx, hv, hb, x0, x1, x2, x3, x4⟩ := (hA6.kept hbel).five hlt
      cases hv
      have hk0 : (0 : Int) ≤ (k : Int) := by omega
      have hk1 : (k : Int) < (A.length : Int) := by omega
      by_cases hlj : j < B.length
      · obtain ⟨b', o', cy, hv, hb', y0, y1, y2, y3, y4⟩ := (hBv.kept hbel).five hlj
        cases hv
        have hj0 : (0 : Int) ≤ (j : Int) := by omega
        have hj1 : (j : Int) < (B.length : Int) := by omega
        have hjb : decide ((j : Int) < (B.length : Int)) = true := decide_eq_true hj1
        have hjc : decide (j < B.length) = true := decide_eq_true hlj
        have hY := Lib.hid (fun h => grd_yes hlt hlj hG.out h)
        have hN := Lib.hid (fun h => grd_no hlt hlj hG.out h)
        generalize A[k] = x at *
        generalize B[j] = y at *
        obtain ⟨xn, xv, xf, xfn, xt⟩ := x
        obtain ⟨yn, yv, yf, yfn, yt⟩ := y
        dsimp only at x0 x1 x2 x3 x4 y0 y1 y2 y3 y4
        by_cases h1 : xn = yn
        case neg =>
          have q4 := sFalse h1
          have hN1 := Lib.hid (hN.out (fun e => h1 (congrArg Ent.n e)))
          clear h1 hY hN
          go_wp2_with fail
          go_quiet (fail)
          go_wp2_with fail
          go_roundw
          case rel => exact ⟨k + 1, j, by omega, hj, by go_num, rfl, hN1, hbel.trans ((below_draws wr _).mono hsz)⟩
          case measure => simp [intOf]; omega
        subst h1
        by_cases h2 : xv = yv
        case neg =>
          have q4 := sFalse h2
          have hN1 := Lib.hid (hN.out (fun e => h2 (congrArg Ent.v e)))
          clear h2 hY hN
          go_wp2_with fail
          go_quiet (fail)
          go_wp2_with fail
          go_roundw
          case rel => exact ⟨k + 1, j, by omega, hj, by go_num, rfl, hN1, hbel.trans ((below_draws wr _).mono hsz)⟩
          case measure => simp [intOf]; omega
        subst h2
        by_cases h3 : xf = yf
        case neg =>
          have hN1 := Lib.hid (hN.out (fun e => h3 (congrArg Ent.f e)))
          clear hY hN
          cases xf <;> cases yf
          · exact absurd rfl h3
          · clear h3
            go_wp2_with fail
            go_quiet (fail)
            go_wp2_with fail
            go_roundw
            case rel => exact ⟨k + 1, j, by omega, hj, by go_num, rfl, hN1, hbel.trans ((below_draws wr _).mono hsz)⟩
            case measure => simp [intOf]; omega
          · clear h3
            go_wp2_with fail
            go_quiet (fail)
            go_wp2_with fail
            go_roundw
            case rel => exact ⟨k + 1, j, by omega, hj, by go_num, rfl, hN1, hbel.trans ((below_draws wr _).mono hsz)⟩
            case measure => simp [intOf]; omega
          · exact absurd rfl h3
        subst h3
        by_cases h4 : xfn = yfn
        case neg =>
          have q4 := sFalse h4
          have hN1 := Lib.hid (hN.out (fun e => h4 (congrArg Ent.fn e)))
          clear h4 hY hN
          go_wp2_with fail
          go_quiet (fail)
          go_wp2_with fail
          go_roundw
          case rel => exact ⟨k + 1, j, by omega, hj, by go_num, rfl, hN1, hbel.trans ((below_draws wr _).mono hsz)⟩
          case measure => simp [intOf]; omega
        subst h4
        by_cases h5 : xt = yt
        case neg =>
          have q4 := sFalse h5
          have hN1 := Lib.hid (hN.out (fun e => h5 (congrArg Ent.t e)))
          clear h5 hY hN
          go_wp2_with fail
          go_quiet (fail)
          go_wp2_with fail
          go_roundw
          case rel => exact ⟨k + 1, j, by omega, hj, by go_num, rfl, hN1, hbel.trans ((below_draws wr _).mono hsz)⟩
          case measure => simp [intOf]; omega
        subst h5
        have hY1 := Lib.hid (hY.out rfl)
        clear hY hN
        go_wp2_with fail
        go_quiet (fail)
        go_wp2_with fail
        go_roundw
        case rel => exact ⟨k + 1, j + 1, by omega, by omega, by go_num, by go_num, hY1, hbel.trans ((below_draws wr _).mono hsz)⟩
        case measure => simp [intOf]; omega
      · have hjb : decide ((j : Int) < (B.length : Int)) = false := decide_eq_false (by omega)
        have hjc : decide (j < B.length) = false := decide_eq_false hlj
        have hO := Lib.hid (grd_out hlt (by omega) hG.out)
        go_wp2_with fail
        go_quiet (fail)
        go_wp2_with fail
        go_roundw
        case rel => exact ⟨k + 1, j, by omega, hj, by go_num, rfl, hO, hbel.trans ((below_draws wr _).mono hsz)⟩
        case measure => simp [intOf]; omega
    · obtain rfl : k = A.length := by omega
      have hE := grd_end hj (by have := hG.out; rwa [List.drop_length] at this)
      subst hE
      go_wp2_with fail
      go_ret
      exact ⟨rfl, bs hbw hbel⟩
end Go.Proofs.Ytafbghlldlconaa

/-
  WHAT IS DISABLED by the document: ref16.spared, ref16.Disabled: the walks.
-/
namespace Go.Proofs.Ytafbghlldlconaa
set_option linter.unusedVariables false
set_option linter.unusedSimpArgs false
open Go.RowKit PT

theorem leg_toList : (⟨#[108, 101, 103, 101, 110, 100]⟩ : ByteArray).toList = [108, 101, 103, 101, 110, 100] := by rw [ByteArray.toList_eq]
theorem set_toList : (⟨#[102, 105, 101, 108, 100, 115, 101, 116]⟩ : ByteArray).toList = [102, 105, 101, 108, 100, 115, 101, 116] := by rw [ByteArray.toList_eq]
theorem legQ_hit {l : List Nd} {f : Int} {k : Nat} (hk : k < (ksOf l f).length) (hno : ∀ x ∈ (ksOf l f).take k, decide (nmOf l x = ⟨#[108, 101, 103, 101, 110, 100]⟩) = false) (h : nmOf l (ksOf l f)[k] = ⟨#[108, 101, 103, 101, 110, 100]⟩) : legQ l f = some (ksOf l f)[k] := by
  unfold legQ
  rw [List.find?_eq_some_iff_getElem]
  refine ⟨decide_eq_true h, k, hk, rfl, fun j hj => ?_⟩
  have := hno (ksOf l f)[j] (by
    rw [List.mem_take_iff_getElem]
    exact ⟨j, by omega, rfl⟩)
  simpa using this
theorem legQ_none {l : List Nd} {f : Int} (hno : ∀ x ∈ ksOf l f, decide (nmOf l x = ⟨#[108, 101, 103, 101, 110, 100]⟩) = false) : legQ l f = none := by
  unfold legQ
  rw [List.find?_eq_none]
  intro x hx
  rw [hno x hx]
  exact Bool.false_ne_true
set_option maxHeartbeats 4000000 in
set_option maxRecDepth 100000 in
theorem spared_any (l : List Nd) (v : Value) (K F : Nat) (hkl : K < l.length) (hfl : F < l.length) (hRP : RightP l) (w : World) (hU : Nodes l v w) :
    Calls Try.prog 34 #[v, .int .i64 K, .int .i64 F] w fun e w' => e = .returned (.bool (spB l K F)) ∧ w = w' := by
  obtain ⟨a, cap, rfl⟩ := hU.len
  obtain ⟨b, o, cap', va, vk, hv, hb, c0, c1, c2, c3, c4, hat, hks⟩ := hU.at hfl
  cases hv
  have hke := ksOf_at hfl
  have hkid := Lib.hid (fun (c : Int) (hc : c ∈ ksOf l F) => hRP.kid (k := (F : Int)) (by omega) (by omega) hc)
  have hhit := Lib.hid (fun k hk hno h => legQ_hit (l := l) (f := F) (k := k) hk hno h)
  have hnone := Lib.hid (fun h => legQ_none (l := l) (f := F) h)
  have hkn := hRP.nodup (k := (F : Int)) (by omega) (by omega)
  have hkz : (ksOf l (F : Int)).length ≤ 400 := Nat.le_trans (nodup_len hkn (fun c' hc' => ⟨(hRP.kid (by omega) (by omega) hc').1, (hRP.kid (by omega) (by omega) hc').2.1⟩)) hRP.max
  have hSp := Lib.hid (show spB l K F = match legQ l F with | some k => decide (k = (K : Int)) || withinF l k (paOf l K) | none => false from rfl)
  rw [hke] at hkz hkid hhit hnone
  clear hkn hke
  generalize l[F] = x at *
  obtain ⟨a2, cap2, rfl⟩ := hks.len
  have hF0 : (0 : Int) ≤ (F : Int) := by omega
  have hF1 : (F : Int) < (l.length : Int) := by omega
  go_enter Try.func34, Try.ntmps34
  go_wp2_with fail
  go_loop [7] (fun i => ∃ k : Nat, k ≤ x.ks.length ∧ i = .int .i64 k ∧ Hid (∀ c ∈ x.ks.take k, decide (nmOf l c = ⟨#[108, 101, 103, 101, 110, 100]⟩) = false)) (fun i => x.ks.length - (intOf i).toNat)
  case atStart => exact ⟨0, Nat.zero_le _, rfl, Lib.hid (by simp)⟩
  case round =>
    obtain ⟨k, hk, rfl, hA⟩ := hrel
    by_cases hlt : k < x.ks.length
    · obtain ⟨kb, ko, kcap', kv, khb, kc0⟩ := hks.at hlt
      cases kv
      obtain ⟨d0, d1, _⟩ := hkid.out x.ks[k] (List.getElem_mem hlt)
      have hT := Lib.hid (fun h => take_mem_snoc (P := fun c => decide (nmOf l c = ⟨#[108, 101, 103, 101, 110, 100]⟩) = false) hlt hA.out h)
      have hH := Lib.hid (fun h => hhit.out k hlt hA.out h)
      have hk0 : (0 : Int) ≤ (k : Int) := by omega
      have hk1 : (k : Int) < (x.ks.length : Int) := by omega
      generalize x.ks[k] = c at *
      obtain ⟨q, rfl⟩ := Int.eq_ofNat_of_zero_le d0
      have hq : q < l.length := by omega
      have hnm := nmOf_at hq
      obtain ⟨b2, o2, cap2', va2, vk2, hv, hb2, g0, g1, g2, g3, g4, _, _⟩ := hU.at hq
      cases hv
      by_cases hn : nmOf l (q : Nat) = ⟨#[108, 101, 103, 101, 110, 100]⟩
      · have hN := hH.out hn
        have hN := Lib.hid (show spB l K F = (decide ((q : Int) = (K : Int)) || withinF l q (paOf l K)) by rw [hSp.out, hN])
        rw [hnm] at hn
        have q1 := sTrue hn
        rw [leg_toList] at q1
        clear hn hnm
        generalize l[q] = y at *
        by_cases e : (q : Int) = (K : Int)
        · have hM := Lib.hid (show spB l K F = true by rw [hN.out, decide_eq_true e]; rfl)
          have q3 : ((q : Int) == (K : Int)) = true := by rw [e]; exact beq_self_eq_true _
          have q4 : decide ((q : Int) = (K : Int)) = true := decide_eq_true e
          have q5 : q = K := by omega
          clear e
          subst q5
          go_wp2_with fail
          go_ret
          exact ⟨ret_bool hM.out.symm, rfl⟩
        · have hM := Lib.hid (show spB l K F = withinF l q (paOf l K) by rw [hN.out, decide_eq_false e]; rfl)
          have q3 := intNe e
          have q4 : decide (q = K) = false := decide_eq_false (by omega)
          have q5 : (q == K) = false := by rw [beq_eq_false_iff_ne]; omega
          clear e
          go_wp2_with fail
          refine (refWithin_any l _ K q hkl hRP _ hU).mono ?_
          rintro e w2 ⟨rfl, rfl⟩
          go_wp2_with fail
          go_ret
          exact ⟨ret_bool hM.out.symm, rfl⟩
      · have hN := Lib.hid (hT.out (decide_eq_false hn))
        rw [hnm] at hn
        have q1 := sFalse hn
        rw [leg_toList] at q1
        clear hn hnm
        generalize l[q] = y at *
        go_wp2_with fail
        go_round
        case rel => exact ⟨k + 1, by omega, by go_num, hN⟩
        case measure => simp [intOf]; omega
    · obtain rfl : k = x.ks.length := by omega
      have hN := hnone.out (by have := hA.out; rwa [List.take_of_length_le (Nat.le_refl _)] at this)
      have hN := Lib.hid (show spB l K F = false by rw [hSp.out, hN])
      go_wp2_with fail
      go_ret
      exact ⟨ret_bool hN.out.symm, rfl⟩
theorem upDis_none {l : List Nd} (h : RightP l) {id : Int} (h0 : 0 ≤ id) (h1 : id < l.length) (hno : ∀ f : Nat, f < l.length → setQ l id f = false) : upDis l id = false := by
  cases hu : upDis l id
  · rfl
  · obtain ⟨f, f0, f1, hf⟩ := (upDis_iff h h0 h1).1 hu
    obtain ⟨q, rfl⟩ := Int.eq_ofNat_of_zero_le f0
    rw [hno q (by omega)] at hf
    cases hf
set_option maxHeartbeats 4000000 in
set_option maxRecDepth 100000 in
theorem refDisabled_any (l : List Nd) (v : Value) (id : Int) (hl : l.length ≤ 1000000000000000000) (hz : ∀ x ∈ l, Fits x) (w : World) (hU : Nodes l v w) :
    Calls Try.prog 13 #[v, .int .i64 id] w fun e w' => e = .returned (.bool (disF l id)) ∧ Below w.heap.size w w' := by
  obtain ⟨a, cap, rfl⟩ := hU.len
  cases hh : hasB l id
  · have HH := Lib.hid hh
    have hR := Lib.hid (disF_out hh)
    clear hh
    go_enter Try.func13, Try.ntmps13
    go_wp2_with fail
    refine (refHas10_any l _ id hl hz _ hU).mono ?_
    rintro e w' ⟨rfl, hb⟩
    rw [HH.out]
    go_wp2_with fail
    go_ret
    exact ⟨ret_bool hR.out.symm, hb⟩
  have HH := Lib.hid hh
  obtain ⟨i0, i1, hRP⟩ := (hasB_iff l id).1 hh
  have hD := disF_in hRP i0 i1
  obtain ⟨K, rfl⟩ := Int.eq_ofNat_of_zero_le i0
  have hkl : K < l.length := by omega
  clear hh
  obtain ⟨k0, k1⟩ := kindF_range l (K : Nat)
  rw [kindF_in i0 i1] at k0 k1
  obtain ⟨kk, hkk⟩ : ∃ kk, kOf l (K : Nat) = kk := ⟨_, rfl⟩
  rw [hkk] at k0 k1 hD
  have HKI := Lib.hid hkk
  clear hkk
  by_cases hA : submB kk = false ∧ kk ≠ 29
  · obtain ⟨hL, h29⟩ := hA
    have hR := Lib.hid (show disF l (K : Nat) = false by rw [hD, hL, decide_eq_false h29]; simp)
    have HL := Lib.hid hL
    have q1 : (kk == 29) = false := intNe h29
    have q2 : (kk != 29) = true := by rw [bne, q1]; rfl
    clear hL h29 hD
    go_enter Try.func13, Try.ntmps13
    go_wp2_with fail
    refine (refHas10_any l _ _ hl hz _ hU).mono ?_
    rintro e w1 ⟨rfl, hb1⟩
    rw [HH.out]
    go_wp2_with fail
    refine (ref16Kind_any l _ K hkl hRP _ (hU.kept hb1)).mono ?_
    rintro e w2 ⟨rfl, hb2⟩
    rw [HKI.out]
    go_wp2_with fail
    refine (refIs2_any kk k0 k1 _).mono ?_
    rintro e w3 ⟨rfl, rfl⟩
    rw [HL.out]
    go_wp2_with fail
    go_ret
    exact ⟨ret_bool hR.out.symm, bs hb1 hb2⟩
  have hS : (submB kk || decide (kk = 29)) = true := by
    cases hs : submB kk
    · rw [decide_eq_true (by by_cases e : kk = 29; exact e; exact absurd ⟨hs, e⟩ hA)]; rfl
    · rfl
  rw [hS, Bool.true_and] at hD
  obtain ⟨b9, HL, hq⟩ : ∃ b, Hid (submB kk = b) ∧ (b = true ∨ (b = false ∧ Hid ((kk == 29) = true) ∧ Hid ((kk != 29) = false))) := by
    by_cases hs : submB kk = true
    · exact ⟨true, Lib.hid hs, .inl rfl⟩
    · have hs' : submB kk = false := by simpa using hs
      have e : kk = 29 := by by_cases e : kk = 29; exact e; exact absurd ⟨hs', e⟩ hA
      exact ⟨false, Lib.hid hs', .inr ⟨rfl, by unfold Hid; rw [e]; rfl, by unfold Hid; rw [e]; rfl⟩⟩
  clear hS hA
  have hmax := hRP.max
  have hD := Lib.hid hD
  have hdA := Lib.hid (show disA l (K : Nat) = (atO l[K].ats ⟨#[100, 105, 115, 97, 98, 108, 101, 100]⟩).isSome by unfold disA; rw [atsOf_at hkl])
  have hal := one_ats (hRP.node K _ (List.getElem?_eq_getElem hkl)).1
  have hK0 : (0 : Int) ≤ (K : Int) := by omega
  have hK1 : (K : Int) < (l.length : Int) := by omega
  have hyes := Lib.hid (fun (f : Nat) (hf : f < l.length) (h : setQ l (K : Nat) f = true) => (upDis_iff hRP i0 i1).2 ⟨f, by omega, by omega, h⟩)
  have hno := Lib.hid (fun h => upDis_none hRP i0 i1 h)
  go_enter Try.func13, Try.ntmps13
  go_wp2_with fail
  refine (refHas10_any l _ _ hl hz _ hU).mono ?_
  rintro e w1 ⟨rfl, hb1⟩
  rw [HH.out]
  go_wp2_with fail
  refine (ref16Kind_any l _ K hkl hRP _ (hU.kept hb1)).mono ?_
  rintro e w2 ⟨rfl, hb2⟩
  rw [HKI.out]
  have hb02 := bs hb1 hb2
  go_wp2_with fail
  refine (refIs2_any kk k0 k1 _).mono ?_
  rintro e w3 ⟨rfl, rfl⟩
  rw [HL.out]
  obtain ⟨b, o, cap', va, vk, hv, hb, c0, c1, c2, c3, c4, hat, hks⟩ := (hU.kept hb02).at hkl
  cases hv
  generalize l[K] = x at *
  obtain ⟨a1, cap1, rfl⟩ := hat.len
  obtain ⟨a2, cap2, rfl⟩ := hks.len
  rcases hq with rfl | ⟨rfl, hq1, hq2⟩
  case' inr => have q1 := hq1.out; have q2 := hq2.out
  all_goals
    go_wp2_with fail
    refine (refHas15_any x _ _ ⟨#[100, 105, 115, 97, 98, 108, 101, 100]⟩ (by omega) _ hat).mono ?_
    rintro e w4 ⟨rfl, hb4⟩
    have hb04 := bs hb02 hb4
    have hg4 := hb04.size
    rw [← hdA.out]
    cases hda : disA l (K : Nat)
    case true =>
      have hR := Lib.hid (show disF l (K : Nat) = true by rw [hD.out, hda]; rfl)
      clear hda
      go_wp2_with fail
      go_ret
      exact ⟨ret_bool hR.out.symm, hb04⟩
    have hR := Lib.hid (show disF l (K : Nat) = upDis l (K : Nat) by rw [hD.out, hda]; rfl)
    clear hda
    go_wp2_with fail
    go_loopw [6] (fun i wr => ∃ k : Nat, k ≤ l.length ∧ i = .int .i64 k ∧ Hid (∀ f : Nat, f < k → setQ l (K : Nat) f = false) ∧ Below w4.heap.size w4 wr) (fun i _ => l.length - (intOf i).toNat)
    case atStart => exact ⟨0, Nat.zero_le _, rfl, Lib.hid (fun f hf => absurd hf (Nat.not_lt_zero _)), Below.refl _ _⟩
    case round =>
      obtain ⟨f, hfl, rfl, hA, hbel⟩ := hrel
      have hb0r := hb04.trans (hbel.mono hg4)
      by_cases hlt : f < l.length
      · have hstep := Lib.hid (fun (h : setQ l (K : Nat) f = false) => show ∀ g : Nat, g < f + 1 → setQ l (K : Nat) g = false from fun g hg => by
          by_cases e : g = f
          · rw [e]; exact h
          · exact hA.out g (by omega))
        have hs := show setQ l (K : Nat) f = (decide (nmOf l f = ⟨#[102, 105, 101, 108, 100, 115, 101, 116]⟩) && (disA l f && (withinF l f (paOf l (K : Nat)) && !spB l (K : Nat) f))) from rfl
        have hhit := Lib.hid (hyes.out f hlt)
        have hal2 := one_ats (hRP.node f _ (List.getElem?_eq_getElem hlt)).1
        have hdP := Lib.hid (show disA l (f : Nat) = (atO l[f].ats ⟨#[100, 105, 115, 97, 98, 108, 101, 100]⟩).isSome by unfold disA; rw [atsOf_at hlt])
        have hUr := hU.kept hb0r
        obtain ⟨b2, o2, cap2, va2, vk2, hv, hbb, g0, g1, g2, g3, g4, hat2, hks2⟩ := hUr.at hlt
        cases hv
        rw [nmOf_at hlt] at hs
        have hf0 : (0 : Int) ≤ (f : Int) := by omega
        have hf1 : (f : Int) < (l.length : Int) := by omega
        have hfz : f < 1000000000000000000 := by omega
        generalize l[f] = y at *
        obtain ⟨a3, cap3, rfl⟩ := hat2.len
        obtain ⟨a4, cap4, rfl⟩ := hks2.len
        by_cases hn : y.nm = ⟨#[102, 105, 101, 108, 100, 115, 101, 116]⟩
        case neg =>
          have hN := Lib.hid (hstep.out (by rw [hs, decide_eq_false hn]; rfl))
          have q1 := sFalse hn
          rw [set_toList] at q1
          clear hn hs
          go_wp2_with fail
          go_roundw
          case rel => exact ⟨f + 1, by omega, by go_num, hN, hbel⟩
          case measure => simp [intOf]; omega
        rw [decide_eq_true hn, Bool.true_and] at hs
        have q1 := sTrue hn
        rw [set_toList] at q1
        clear hn
        cases hda : disA l (f : Nat)
        case false =>
          have hN := Lib.hid (hstep.out (by rw [hs, hda]; rfl))
          have HD := Lib.hid (hdP.out.symm.trans hda)
          clear hda hs
          go_wp2_with fail
          refine (refHas15_any y _ _ ⟨#[100, 105, 115, 97, 98, 108, 101, 100]⟩ (by omega) _ hat2).mono ?_
          rintro e w5 ⟨rfl, hb5⟩
          rw [HD.out]
          go_wp2_with fail
          go_roundw
          case rel => exact ⟨f + 1, by omega, by go_num, hN, bs hbel hb5⟩
          case measure => simp [intOf]; omega
        have HD := Lib.hid (hdP.out.symm.trans hda)
        rw [hda, Bool.true_and] at hs
        clear hda
        cases hw : withinF l (f : Nat) (paOf l (K : Nat))
        case false =>
          have hN := Lib.hid (hstep.out (by rw [hs, hw]; rfl))
          have HW := Lib.hid hw
          clear hw hs
          go_wp2_with fail
          refine (refHas15_any y _ _ ⟨#[100, 105, 115, 97, 98, 108, 101, 100]⟩ (by omega) _ hat2).mono ?_
          rintro e w5 ⟨rfl, hb5⟩
          rw [HD.out]
          go_wp2_with fail
          refine (refWithin_any l _ K (f : Nat) hkl hRP _ (hUr.kept hb5)).mono ?_
          rintro e w6 ⟨rfl, rfl⟩
          rw [HW.out]
          go_wp2_with fail
          go_roundw
          case rel => exact ⟨f + 1, by omega, by go_num, hN, bs hbel hb5⟩
          case measure => simp [intOf]; omega
        have HW := Lib.hid hw
        rw [hw, Bool.true_and] at hs
        clear hw
        cases hsp : spB l (K : Nat) (f : Nat)
        case true =>
          have hN := Lib.hid (hstep.out (by rw [hs, hsp]; rfl))
          have HS := Lib.hid hsp
          clear hsp hs
          go_wp2_with fail
          refine (refHas15_any y _ _ ⟨#[100, 105, 115, 97, 98, 108, 101, 100]⟩ (by omega) _ hat2).mono ?_
          rintro e w5 ⟨rfl, hb5⟩
          rw [HD.out]
          go_wp2_with fail
          refine (refWithin_any l _ K (f : Nat) hkl hRP _ (hUr.kept hb5)).mono ?_
          rintro e w6 ⟨rfl, rfl⟩
          rw [HW.out]
          go_wp2_with fail
          refine (spared_any l _ K f hkl hlt hRP _ (hUr.kept hb5)).mono ?_
          rintro e w6 ⟨rfl, rfl⟩
          rw [HS.out]
          go_wp2_with fail
          go_roundw
          case rel => exact ⟨f + 1, by omega, by go_num, hN, bs hbel hb5⟩
          case measure => simp [intOf]; omega
        have hN := Lib.hid (hhit.out (by rw [hs, hsp]; rfl))
        have HS := Lib.hid hsp
        clear hsp hs
        go_wp2_with fail
        refine (refHas15_any y _ _ ⟨#[100, 105, 115, 97, 98, 108, 101, 100]⟩ (by omega) _ hat2).mono ?_
        rintro e w5 ⟨rfl, hb5⟩
        rw [HD.out]
        go_wp2_with fail
        refine (refWithin_any l _ K (f : Nat) hkl hRP _ (hUr.kept hb5)).mono ?_
        rintro e w6 ⟨rfl, rfl⟩
        rw [HW.out]
        go_wp2_with fail
        refine (spared_any l _ K f hkl hlt hRP _ (hUr.kept hb5)).mono ?_
        rintro e w6 ⟨rfl, rfl⟩
        rw [HS.out]
        go_wp2_with fail
        go_ret
        exact ⟨ret_bool (by rw [hR.out, hN.out]), bs hb0r hb5⟩
      · obtain rfl : f = l.length := by omega
        have hN := Lib.hid (hno.out hA.out)
        go_wp2_with fail
        go_ret
        exact ⟨ret_bool (by rw [hR.out, hN.out]), hb0r⟩
end Go.Proofs.Ytafbghlldlconaa

/-
  The law EntryNames: the walk.
-/
namespace Go.Proofs.Ytafbghlldlconaa
set_option linter.unusedVariables false
set_option linter.unusedSimpArgs false
open Go.RowKit PT

/-- among the first k nodes one fits -/
noncomputable def anyN (l : List Nd) (form sub : Int) (n : ByteArray) (k : Nat) : Bool := (List.range k).any fun i => hasN l form sub i n
theorem isEmpty_yes {s : ByteArray} (h : s.size = 0) : s.toList.isEmpty = true := by rw [size0.2 h, ByteArray.toList_eq]; rfl
theorem anyN_zero (l : List Nd) (form sub : Int) (n : ByteArray) : anyN l form sub n 0 = false := rfl
theorem anyN_succ (l : List Nd) (form sub : Int) (n : ByteArray) (k : Nat) : anyN l form sub n (k + 1) = (anyN l form sub n k || hasN l form sub k n) := by
  unfold anyN
  rw [List.range_succ, List.any_append]
  simp
theorem anyN_all {l : List Nd} {cs : List Ct} {form sub : Int} {x : Ent} (hx : x ∈ lOf l cs form sub) : anyN l form sub x.n l.length = true := by
  obtain ⟨i, hi, h⟩ := lOf_names hx
  unfold anyN
  rw [List.any_eq_true]
  exact ⟨i, List.mem_range.2 hi, h⟩
set_option maxHeartbeats 4000000 in
set_option maxRecDepth 100000 in
theorem entryNames_walk (l : List Nd) (cs : List Ct) (vn vc : Value) (form sub : Int) (w : World) (hD : DocAt l cs vn vc w) (_ : (Lit.int .i64 form).wf = true) (_ : (Lit.int .i64 sub).wf = true) (hB : SmallC cs) :
    Calls Try.prog 4 #[.agg #[vn, vc], .int .i64 form, .int .i64 sub] w fun e w' => e = .returned (.bool true) ∧ Below w.heap.size w w' := by
  have hmax := hD.nodes.len
  have hfits := hD.nodes.fits
  obtain ⟨a1, cap1, rfl⟩ := hD.nodes.nodes.len
  obtain ⟨a2, cap2, rfl⟩ := hD.ctls.len
  obtain ⟨hD1, hb1, hs1, c0, c1⟩ := doc_box (T := 25) hD
  have hlA := lOf_len (l := l) hB form sub
  have hall := Lib.hid (fun (x : Ent) (h : x ∈ lOf l cs form sub) => anyN_all h)
  go_enter Try.func4, Try.ntmps4
  go_wp2_with fail
  generalize World.alloc w _ = W1 at hD1 hb1 hs1 c0 c1 ⊢
  refine (wakes22_any _).mono ?_
  rintro e w2 ⟨rfl, hb2⟩
  have hD2 := hD1.kept hb2
  have d0 := cellK hb2 (by omega) c0
  have d1 := cellK hb2 (by omega) c1
  have hs2 := hb2.size
  go_wp2_with fail
  refine (lawCopied22_any l cs _ _ _ hD2).mono ?_
  rintro e w3 ⟨vn3, vc3, rfl, hO3, hb3⟩
  have hb23 := bs hb2 hb3
  obtain ⟨a3, cap3, rfl⟩ := hO3.nodes.nodes.len
  obtain ⟨a4, cap4, rfl⟩ := hO3.ctls.len
  have hs3 := hb3.size
  go_wp2_with fail
  refine (entList_any l cs _ _ form sub hB _ hO3).mono ?_
  rintro e w4 ⟨va, rfl, hA, hb4⟩
  have hb24 := bs hb23 hb4
  have hs4 := hb24.size
  have f0 := cellK hb24 (by omega) c0
  have hgw : w.heap.size < w4.heap.size := by omega
  have hbw := bs hb1 hb24
  have hD4 := (hD2.kept hb3).kept hb4
  rcases eOf_any l cs form with hz | hz
  case inr =>
    rw [lOf_no hz] at hA
    obtain ⟨a5, cap5, rfl⟩ := hA.len
    have q1 : (eOf l cs form != 0) = true := by rw [bne, intNe hz]; rfl
    clear hz
    have hl : ([] : List Ent).length = 0 := rfl
    rw [hl]
    go_wp2_with fail
    go_ret
    exact ⟨rfl, hbw⟩
  have hRP := (eOf_ok hz).1
  have hmx := hRP.max
  rw [hz]
  generalize lOf l cs form sub = A at *
  obtain ⟨a5, cap5, rfl⟩ := hA.len
  clear hz hb4 hb3 hb2 hb1 hb23 d0 d1 hO3 hD2 hs1
  go_wp2_with fail
  go_loopw [33] (fun i wr => ∃ k : Nat, k ≤ A.length ∧ i = .int .i64 k ∧ Below w4.heap.size w4 wr) (fun i _ => A.length - (intOf i).toNat)
  case atStart => exact ⟨0, Nat.zero_le _, rfl, Below.refl _ _⟩
  case round =>
    obtain ⟨k, hk, rfl, hbel⟩ := hrel
    have hsz := hbel.size
    by_cases hlt : k < A.length
    · obtain ⟨b, o, cx, hv, hb, x0, x1, x2, x3, x4⟩ := (hA.kept hbel).five hlt
      cases hv
      have hk0 : (0 : Int) ≤ (k : Int) := by omega
      have hk1 : (k : Int) < (A.length : Int) := by omega
      have hAny := Lib.hid (hall.out _ (List.getElem_mem hlt))
      generalize A[k] = x at *
      have hn := Go.heap_alloc_new wr (.cells #[.string x.n, .string x.v, .bool x.f, .string x.fn, .string x.t] 43)
      have hba := one_alloc (w := wr) (.cells #[.string x.n, .string x.v, .bool x.f, .string x.fn, .string x.t] 43)
      have hsa : (wr.alloc (.cells #[.string x.n, .string x.v, .bool x.f, .string x.fn, .string x.t] 43)).heap.size = wr.heap.size + 1 := by simp
      have y0 : (wr.alloc (.cells #[.string x.n, .string x.v, .bool x.f, .string x.fn, .string x.t] 43)).cell? ⟨wr.heap.size, 0, none⟩ = some (.string x.n) := by simp only [World.cell?, hn]; rfl
      have g0 := cellK hba (by omega) (cellK hbel (by omega) f0)
      clear hn
      go_wp2_with fail
      generalize World.alloc wr _ = wA at hba hsa y0 g0 ⊢
      have hDA := (hD4.kept hbel).kept hba
      have hbA := hbel.trans (hba.mono hsz)
      have hr0 := hsa
      obtain ⟨n0, hn0⟩ : ∃ n0, wr.heap.size = n0 := ⟨_, rfl⟩
      rw [hn0] at y0 hsa ⊢
      clear hba hr0
      go_loopw [11, 40] (fun f i wi => ∃ t : Nat, t ≤ l.length ∧ i = .int .i64 t ∧ f = .bool (anyN l form sub x.n t) ∧ Below wA.heap.size wA wi) (fun _ i _ => l.length - (intOf i).toNat)
      case atStart => exact ⟨0, Nat.zero_le _, rfl, rfl, Below.refl _ _⟩
      case round =>
        obtain ⟨t, ht, rfl, rfl, hbi⟩ := hrel
        have hsi := hbi.size
        by_cases hlt2 : t < l.length
        · have hDi := hDA.kept hbi
          have gi := cellK hbi (by omega) g0
          have yi := cellK hbi (by omega) y0
          obtain ⟨z1, z2⟩ := hRP.vals _ (List.getElem_mem hlt2)
          have z3 := one_vals (hRP.node t _ (List.getElem?_eq_getElem hlt2)).1
          obtain ⟨b, o, cap', wa, wk, hv, hb, e0, e1, e2, e3, e4, hat, hks⟩ := hDi.nodes.nodes.at hlt2
          cases hv
          have hSu := Lib.hid (anyN_succ l form sub x.n t)
          have hkt := kOf_at hlt2
          have hats := atsOf_at hlt2
          have hH := show hasN l form sub t x.n = (submB (kOf l (t : Nat)) && (decide (formF l (t : Nat) = form) && (!disF l (t : Nat) && fitN l sub t x.n))) from rfl
          have hFit := show fitN l sub t x.n = ((decide (kOf l (t : Nat) = 20) && (decide (x.n.size ≠ 0) && decide (((t : Nat) : Int) = sub))) || (decide (nmF l (t : Nat) = x.n) && decide ((nmF l (t : Nat)).size ≠ 0))) from rfl
          have hnm := Lib.hid (show (atO l[t].ats nameS).getD ⟨#[]⟩ = nmF l (t : Nat) by rw [← hats]; rfl)
          rw [hkt] at hH hFit
          obtain ⟨nd, hnd⟩ : ∃ nd, l[t] = nd := ⟨_, rfl⟩
          rw [hnd] at e0 e1 e3 hat hks z1 z2 z3 hH hFit hnm
          clear hnd hkt hats
          obtain ⟨k0, k1⟩ := kindOf_range nd
          obtain ⟨kk, hkk⟩ : ∃ kk, kindOf nd = kk := ⟨_, rfl⟩
          rw [hkk] at hH hFit k0 k1
          have HKK := Lib.hid hkk
          obtain ⟨fb, hfb⟩ : ∃ fb, anyN l form sub x.n t = fb := ⟨_, rfl⟩
          rw [hfb]
          have HFB := Lib.hid hfb
          clear hkk hfb
          have ht0 : (0 : Int) ≤ (t : Int) := by omega
          have ht1 : (t : Int) < (l.length : Int) := by omega
          cases hS : submB kk
          · have HN := Lib.hid (show hasN l form sub t x.n = false by rw [hH, hS]; rfl)
            have HS := Lib.hid hS
            clear hS hH hFit
            go_wp2_with fail
            refine (refOf11_any nd wa wk z1 (fun a ha => Nat.le_trans (z3 a ha) (by omega)) _ hat).mono ?_
            rintro e w6 ⟨rfl, hb6⟩
            rw [HKK.out]
            go_wp2_with fail
            refine (refIs2_any kk k0 k1 _).mono ?_
            rintro e w7 ⟨rfl, rfl⟩
            rw [HS.out]
            go_wp2_with fail
            go_roundw
            case rel => exact ⟨t + 1, by omega, by go_num, by rw [hSu.out, HN.out, HFB.out, Bool.or_false], hbi.trans (hb6.mono hsi)⟩
            case measure => simp [intOf]; omega
          have HS := Lib.hid hS
          by_cases hfo : formF l (t : Nat) = form
          case neg =>
            have HN := Lib.hid (show hasN l form sub t x.n = false by rw [hH, hS, decide_eq_false hfo]; rfl)
            have hq := intNe hfo
            rw [← formF_Form ((rightB_iff l).2 hRP) (t : Nat)] at hq
            have HF := Lib.hid (show (FormF l (t : Nat) != form) = true by rw [bne, hq]; rfl)
            clear hS hH hFit hfo hq
            go_wp2_with fail
            refine (refOf11_any nd wa wk z1 (fun a ha => Nat.le_trans (z3 a ha) (by omega)) _ hat).mono ?_
            rintro e w6 ⟨rfl, hb6⟩
            rw [HKK.out]
            have u6 := cellK hb6 (by omega) gi
            go_wp2_with fail
            refine (refIs2_any kk k0 k1 _).mono ?_
            rintro e w7 ⟨rfl, rfl⟩
            rw [HS.out]
            go_wp2_with fail
            refine (refForm_any l _ (t : Nat) hmax hfits _ (hDi.nodes.nodes.kept hb6)).mono ?_
            rintro e w8 ⟨rfl, hb8⟩
            have hq1 := HF.out
            go_wp2_with fail
            go_roundw
            case rel => exact ⟨t + 1, by omega, by go_num, by rw [hSu.out, HN.out, HFB.out, Bool.or_false], hbi.trans ((bs hb6 hb8).mono hsi)⟩
            case measure => simp [intOf]; omega
          have HF := Lib.hid ((formF_Form ((rightB_iff l).2 hRP) (t : Nat)).trans hfo)
          have hqf : (form != form) = false := bne_self_eq_false form
          cases hd : disF l (t : Nat)
          case true =>
            have HN := Lib.hid (show hasN l form sub t x.n = false by rw [hH, hS, hd, decide_eq_true hfo]; rfl)
            have HD := Lib.hid hd
            clear hS hH hFit hfo hd
            go_wp2_with fail
            refine (refOf11_any nd wa wk z1 (fun a ha => Nat.le_trans (z3 a ha) (by omega)) _ hat).mono ?_
            rintro e w6 ⟨rfl, hb6⟩
            rw [HKK.out]
            have u6 := cellK hb6 (by omega) gi
            go_wp2_with fail
            refine (refIs2_any kk k0 k1 _).mono ?_
            rintro e w7 ⟨rfl, rfl⟩
            rw [HS.out]
            go_wp2_with fail
            refine (refForm_any l _ (t : Nat) hmax hfits _ (hDi.nodes.nodes.kept hb6)).mono ?_
            rintro e w8 ⟨rfl, hb8⟩
            rw [HF.out]
            have hb68 := bs hb6 hb8
            have u8 := cellK hb68 (by omega) gi
            go_wp2_with fail
            refine (refDisabled_any l _ (t : Nat) hmax hfits _ (hDi.nodes.nodes.kept hb68)).mono ?_
            rintro e w9 ⟨rfl, hb9⟩
            rw [HD.out]
            go_wp2_with fail
            go_roundw
            case rel => exact ⟨t + 1, by omega, by go_num, by rw [hSu.out, HN.out, HFB.out, Bool.or_false], hbi.trans ((bs hb68 hb9).mono hsi)⟩
            case measure => simp [intOf]; omega
          have hH0 := show hasN l form sub t x.n = fitN l sub t x.n by rw [hH, hS, hd, decide_eq_true hfo]; rfl
          have HD := Lib.hid hd
          rw [hFit] at hH0
          clear hS hH hFit hfo hd
          go_wp2_with fail
          refine (refOf11_any nd wa wk z1 (fun a ha => Nat.le_trans (z3 a ha) (by omega)) _ hat).mono ?_
          rintro e w6 ⟨rfl, hb6⟩
          rw [HKK.out]
          have u6 := cellK hb6 (by omega) gi
          go_wp2_with fail
          refine (refIs2_any kk k0 k1 _).mono ?_
          rintro e w7 ⟨rfl, rfl⟩
          rw [HS.out]
          go_wp2_with fail
          refine (refForm_any l _ (t : Nat) hmax hfits _ (hDi.nodes.nodes.kept hb6)).mono ?_
          rintro e w8 ⟨rfl, hb8⟩
          rw [HF.out]
          have hb68 := bs hb6 hb8
          have u8 := cellK hb68 (by omega) gi
          go_wp2_with fail
          refine (refDisabled_any l _ (t : Nat) hmax hfits _ (hDi.nodes.nodes.kept hb68)).mono ?_
          rintro e w9 ⟨rfl, hb9⟩
          rw [HD.out]
          have hb69 := bs hb68 hb9
          have u9 := cellK hb69 (by omega) gi
          have x2' := cellK hb69 hb e2
          have m9 := cellK hb69 (by omega) yi
          have hbE := hbi.trans (hb69.mono hsi)
          clear hb6 hb8 hb9 hb68 u6 u8
          go_wp2_with fail
          refine (refAttr14_any nd.ats _ nameS z1 _ (hat.kept hb69)).mono ?_
          unfold atT
          rintro e w10 ⟨rfl, rfl⟩
          rw [hnm.out]
          have hnmz : (nmF l (t : Nat)).size ≤ 140737488351232 := by rw [← hnm.out]; exact atO_size _ _ (fun a ha => z2 a ha)
          clear hnm hat hks e0 e1 e2 e3 e4 z1 z2 z3
          by_cases h20 : kk = 20
          · have q20 : (kk == 20) = true := by rw [h20]; rfl
            rw [decide_eq_true h20, Bool.true_and] at hH0
            clear h20
            cases fb
            · have hF := HFB.out
              by_cases hs0 : x.n.size = 0
              · have r1 : decide (0 < x.n.size) = false := decide_eq_false (by omega)
                have r1' : decide ((0 : Int) < (x.n.size : Int)) = false := decide_eq_false (by omega)
                rw [decide_eq_false (fun e : x.n.size ≠ 0 => e hs0), Bool.false_and, Bool.false_or] at hH0
                have HF2 := Lib.hid hF
                clear hF hs0
                have hF := HF2.out
                clear HF2
                by_cases hn1 : nmF l (t : Nat) = x.n
                · have p1 := sTrue hn1
                  by_cases hn2 : (nmF l (t : Nat)).size = 0
                  · have HH := Lib.hid (show hasN l form sub t x.n = false by rw [hH0, decide_eq_true hn1, decide_eq_false (fun e => e hn2)]; first | rfl | simp)
                    have p2 : (nmF l (t : Nat)).toList.isEmpty = true := isEmpty_yes hn2
                    generalize nmF l (t : Nat) = nm at *
                    clear hH0 hn1 hn2
                    go_wp2_with fail
                    go_roundw
                    case rel => exact ⟨t + 1, by omega, by go_num, by rw [hSu.out, hF, HH.out, Bool.false_or], hbE⟩
                    case measure => simp [intOf]; omega
                  · have HH := Lib.hid (show hasN l form sub t x.n = true by rw [hH0, decide_eq_true hn1, decide_eq_true hn2]; first | rfl | simp)
                    have p2 := isEmpty_no hn2
                    generalize nmF l (t : Nat) = nm at *
                    clear hH0 hn1 hn2
                    go_wp2_with fail
                    go_roundw
                    case rel => exact ⟨t + 1, by omega, by go_num, by rw [hSu.out, HH.out, Bool.or_true], hbE⟩
                    case measure => simp [intOf]; omega
                · have p1 := sFalse hn1
                  have HH := Lib.hid (show hasN l form sub t x.n = false by rw [hH0, decide_eq_false hn1]; first | rfl | simp)
                  generalize nmF l (t : Nat) = nm at *
                  clear hH0 hn1
                  go_wp2_with fail
                  go_roundw
                  case rel => exact ⟨t + 1, by omega, by go_num, by rw [hSu.out, hF, HH.out, Bool.false_or], hbE⟩
                  case measure => simp [intOf]; omega
              · have r1 : decide (0 < x.n.size) = true := decide_eq_true (by omega)
                have r1' : decide ((0 : Int) < (x.n.size : Int)) = true := decide_eq_true (by omega)
                rw [decide_eq_true hs0, Bool.true_and] at hH0
                by_cases hts : ((t : Nat) : Int) = sub
                · have HH := Lib.hid (show hasN l form sub t x.n = true by rw [hH0, decide_eq_true hts, Bool.true_or])
                  have r2 : (((t : Nat) : Int) == sub) = true := by rw [hts]; exact beq_self_eq_true _
                  clear hH0 hts hs0 hF
                  go_wp2_with fail
                  go_roundw
                  case rel => exact ⟨t + 1, by omega, by go_num, by rw [hSu.out, HH.out, Bool.or_true], hbE⟩
                  case measure => simp [intOf]; omega
                · have r2 := intNe hts
                  rw [decide_eq_false hts, Bool.false_or] at hH0
                  clear hts hs0
                  by_cases hn1 : nmF l (t : Nat) = x.n
                  · have p1 := sTrue hn1
                    by_cases hn2 : (nmF l (t : Nat)).size = 0
                    · have HH := Lib.hid (show hasN l form sub t x.n = false by rw [hH0, decide_eq_true hn1, decide_eq_false (fun e => e hn2)]; first | rfl | simp)
                      have p2 : (nmF l (t : Nat)).toList.isEmpty = true := isEmpty_yes hn2
                      generalize nmF l (t : Nat) = nm at *
                      clear hH0 hn1 hn2
                      go_wp2_with fail
                      go_roundw
                      case rel => exact ⟨t + 1, by omega, by go_num, by rw [hSu.out, hF, HH.out, Bool.false_or], hbE⟩
                      case measure => simp [intOf]; omega
                    · have HH := Lib.hid (show hasN l form sub t x.n = true by rw [hH0, decide_eq_true hn1, decide_eq_true hn2]; first | rfl | simp)
                      have p2 := isEmpty_no hn2
                      generalize nmF l (t : Nat) = nm at *
                      clear hH0 hn1 hn2
                      go_wp2_with fail
                      go_roundw
                      case rel => exact ⟨t + 1, by omega, by go_num, by rw [hSu.out, HH.out, Bool.or_true], hbE⟩
                      case measure => simp [intOf]; omega
                  · have p1 := sFalse hn1
                    have HH := Lib.hid (show hasN l form sub t x.n = false by rw [hH0, decide_eq_false hn1]; first | rfl | simp)
                    generalize nmF l (t : Nat) = nm at *
                    clear hH0 hn1
                    go_wp2_with fail
                    go_roundw
                    case rel => exact ⟨t + 1, by omega, by go_num, by rw [hSu.out, hF, HH.out, Bool.false_or], hbE⟩
                    case measure => simp [intOf]; omega
            · have hF := HFB.out
              have HF2 := Lib.hid (show anyN l form sub x.n (t + 1) = true by rw [hSu.out, hF, Bool.true_or])
              clear hF hH0
              generalize nmF l (t : Nat) = nm at *
              go_wp2_with fail
              go_roundw
              case rel => exact ⟨t + 1, by omega, by go_num, by rw [HF2.out], hbE⟩
              case measure => simp [intOf]; omega
          · have q20 := intNe h20
            rw [decide_eq_false h20, Bool.false_and, Bool.false_or] at hH0
            clear h20
            cases fb
            · have hF := HFB.out
              by_cases hn1 : nmF l (t : Nat) = x.n
              · have p1 := sTrue hn1
                by_cases hn2 : (nmF l (t : Nat)).size = 0
                · have HH := Lib.hid (show hasN l form sub t x.n = false by rw [hH0, decide_eq_true hn1, decide_eq_false (fun e => e hn2)]; first | rfl | simp)
                  have p2 : (nmF l (t : Nat)).toList.isEmpty = true := isEmpty_yes hn2
                  generalize nmF l (t : Nat) = nm at *
                  clear hH0 hn1 hn2
                  go_wp2_with fail
                  go_roundw
                  case rel => exact ⟨t + 1, by omega, by go_num, by rw [hSu.out, hF, HH.out, Bool.false_or], hbE⟩
                  case measure => simp [intOf]; omega
                · have HH := Lib.hid (show hasN l form sub t x.n = true by rw [hH0, decide_eq_true hn1, decide_eq_true hn2]; first | rfl | simp)
                  have p2 := isEmpty_no hn2
                  generalize nmF l (t : Nat) = nm at *
                  clear hH0 hn1 hn2
                  go_wp2_with fail
                  go_roundw
                  case rel => exact ⟨t + 1, by omega, by go_num, by rw [hSu.out, HH.out, Bool.or_true], hbE⟩
                  case measure => simp [intOf]; omega
              · have p1 := sFalse hn1
                have HH := Lib.hid (show hasN l form sub t x.n = false by rw [hH0, decide_eq_false hn1]; first | rfl | simp)
                generalize nmF l (t : Nat) = nm at *
                clear hH0 hn1
                go_wp2_with fail
                go_roundw
                case rel => exact ⟨t + 1, by omega, by go_num, by rw [hSu.out, hF, HH.out, Bool.false_or], hbE⟩
                case measure => simp [intOf]; omega
            · have hF := HFB.out
              have HF2 := Lib.hid (show anyN l form sub x.n (t + 1) = true by rw [hSu.out, hF, Bool.true_or])
              clear hF hH0
              generalize nmF l (t : Nat) = nm at *
              go_wp2_with fail
              go_roundw
              case rel => exact ⟨t + 1, by omega, by go_num, by rw [HF2.out], hbE⟩
              case measure => simp [intOf]; omega
        · obtain rfl : t = l.length := by omega
          rw [hAny.out]
          go_wp2_with fail
          go_roundw
          case rel => exact ⟨k + 1, by omega, by go_num, hbA.trans (hbi.mono (by have := hbA.size; omega))⟩
          case measure => simp [intOf]; omega
    · obtain rfl : k = A.length := by omega
      go_wp2_with fail
      go_ret
      exact ⟨rfl, bs hbw hbel⟩
end Go.Proofs.Ytafbghlldlconaa

/-
  THE LAST STEP OF A LAW'S ROW where of the world behind the call 'Below' alone is known.
-/
namespace Go.Proofs.Ytafbghlldlconaa
set_option linter.unusedVariables false
set_option linter.unusedSimpArgs false
open Go.RowKit Go.WideShapes Go.ChangeShapes
section
variable {H : Type} {enc : TypeId × Value → H} {P : Program}
theorem post_of_below {f : Func} {s : ChangeSpec} {apart fresh handsOn again : Bool} {W W' : World} {args : Array Value} {v : Value} {ds gs : List (DataW H)} {before pa pv : List MemPlace}
    (hW : DataW.Whole enc P f.params.toList s.vars apart W args.toList ds gs before)
    (hres : ∀ (b : Nat) (sp : Nat → Bool) (hd : Bool), DataW.TrodAll enc P W' b sp hd f.resultTypes.toList (v.resultList f.resultTypes.size) (s.fn H (ds ++ gs)).results [])
    (hargs : ∀ sp : Nat → Bool, (∀ p ∈ before, sp p.block = true) → DataW.TrodAll enc P W' 0 sp true f.params.toList args.toList (s.fn H (ds ++ gs)).args pa)
    (hvars : ∀ sp : Nat → Bool, (∀ p ∈ before, sp p.block = true) → DataW.TrodVars enc P W' sp s.vars (s.fn H (ds ++ gs)).vars pv)
    (hps : before = pa ++ pv) (hb : Below W.heap.size W W')
    (hok : ∀ (j : Nat) (t : TypeId) (r : Value), f.resultTypes[j]? = some t → (v.resultList f.resultTypes.size)[j]? = some r → Value.okWide P W' .any 0 t r) :
    s.post enc P f apart fresh handsOn again W args v W' := by
  have hlt : ∀ p ∈ before, p.block < W.heap.size := fun p hp => hW.lt p hp
  have hold : ∀ p ∈ before, (fun b => decide (b < W.heap.size)) p.block = true := fun p hp => by simpa using hlt p hp
  refine ⟨ds, gs, before, [], pa, pv, hW, hres _ _ _, hargs _ hold, hvars _ hold, World.keptBut_mono (fun p hp => ⟨hp, ?_⟩) (hb.frame (· ∈ before)), fun _ => ?_⟩
  · rw [hps, List.mem_append] at hp
    exact Or.inr hp
  · obtain ⟨_, _, _, _, _, hz, hn⟩ := hW
    refine ⟨hok, _, _, ([] ++ pa) ++ pv, ⟨[] ++ pa, pv, trodAll_append (hargs _ (fun _ _ => rfl)) (hres _ _ _), hvars _ (fun _ _ => rfl), rfl, ?_, ?_⟩, ?_⟩
    · intro b off hp
      have hin : MemPlace.cell b off ∈ before := by rw [hps]; simpa using hp
      rw [hb.frozen (hlt _ hin)]
      exact hz b off hin
    · intro ha
      have := hn ha
      rw [hps] at this
      simpa using this
    · intro p hp _
      rw [hps]
      simpa using hp
end
end Go.Proofs.Ytafbghlldlconaa

/-
  WHAT THE ARGUMENTS READ BEHIND A CALL that has kept all older blocks: what they read before, whatever their types.
-/
namespace Go.Proofs.Ytafbghlldlconaa
set_option linter.unusedVariables false
set_option linter.unusedSimpArgs false
open Go.RowKit Go.WideShapes Go.ChangeShapes
section
variable {H : Type} {enc : TypeId × Value → H} {P : Program}
theorem same_below {W W' : World} (hb : Below W.heap.size W W') {p : MemPlace} (hp : p.block < W.heap.size) : W.sameAt W' p := by
  cases p with
  | cell b off =>
    show W'.cell? _ = W.cell? _
    have : W'.heap[b]? = W.heap[b]? := hb.block b hp
    simp only [World.cell?, this]
  | map b => exact hb.block b hp
theorem args_stay {T : TypeId → Prop} (K : Kids P T) (hz : ∀ {t e : TypeId}, T t → P.underlying t = some (.slice e) → 0 < P.cellsOf e) {W W' : World} {sp : Nat → Bool} (hb : Below W.heap.size W W') :
    ∀ {ts : List TypeId} {vs : List Value} {ds : List (DataW H)} {ps : List MemPlace}, (∀ t ∈ ts, T t) → DataW.TrodAll enc P W 0 (fun _ => true) true ts vs ds ps → (∀ p ∈ ps, p.block < W.heap.size) → (∀ p ∈ ps, sp p.block = true) → DataW.TrodAll enc P W' 0 sp true ts vs ds ps
  | [], [], [], _, _, h, _, _ => h
  | _ :: _, _ :: _, _ :: _, _, hT, ⟨p, q, ⟨n, h1⟩, h2, e⟩, hlt, hs =>
    ⟨p, q, ⟨n, DataW.trod_stays K hz (fun h => by cases h) (hT _ (List.mem_cons.2 (Or.inl rfl))) h1
        (fun x hx => same_below hb (hlt x (by rw [e]; exact List.mem_append_left _ hx))) (fun x hx => hs x (by rw [e]; exact List.mem_append_left _ hx))⟩,
      args_stay K hz hb (fun t ht => hT t (List.mem_cons.2 (Or.inr ht))) h2 (fun x hx => hlt x (by rw [e]; exact List.mem_append_right _ hx)) (fun x hx => hs x (by rw [e]; exact List.mem_append_right _ hx)), e⟩
end
end Go.Proofs.Ytafbghlldlconaa

/-
  OPENING ARGUMENTS: helpers; what arguments of any type read behind the call.
-/
namespace Go.Proofs.Ytafbghlldlconaa
set_option linter.unusedVariables false
set_option linter.unusedSimpArgs false
open Go.RowKit Go.ChangeShapes Go.WideShapes Go.Deep

theorem list_of {α : Type} {P : Nat → α → Prop} : ∀ n, (∀ i, i < n → ∃ x, P i x) → ∃ l : List α, l.length = n ∧ ∀ i x, l[i]? = some x → P i x
  | 0, _ => ⟨[], rfl, fun i x h => by simp at h⟩
  | n + 1, h => by
    obtain ⟨l, hl, hp⟩ := list_of n (fun i hi => h i (by omega))
    obtain ⟨x, hx⟩ := h n (by omega)
    refine ⟨l ++ [x], by simp [hl], fun i y hy => ?_⟩
    by_cases e : i < l.length
    · rw [List.getElem?_append_left e] at hy; exact hp i y hy
    · rw [List.getElem?_append_right (by omega)] at hy
      have : i - l.length = 0 := by
        have := (List.getElem?_eq_some_iff.1 hy).1
        simp at this; exact this
      rw [this] at hy
      simp at hy
      obtain rfl : i = n := by omega
      rw [← hy]; exact hx
theorem spot_none {w : World} {a : Addr} {k : Nat} {v : Value} (h : w.cell? (a.add k) = some v) (hk : k = 0) : a.spot = none ∧ a.block < w.heap.size := by
  subst hk
  have e : a.add 0 = a := by simp [Addr.add]
  rw [e] at h
  simp only [World.cell?] at h
  cases hb : w.heap[a.block]? with
  | none => rw [hb] at h; cases h
  | some o =>
    have hlt := (Array.getElem?_eq_some_iff.1 hb).1
    rw [hb] at h
    cases o with
    | cells c t f =>
      simp only at h
      cases hs : a.spot with
      | none => exact ⟨rfl, hlt⟩
      | some z => rw [hs] at h; simp at h
    | _ => simp at h

section
variable {H : Type} {enc : TypeId × Value → H} {w : World} {spare : Nat → Bool} {held : Bool}
theorem kids_all : Kids Try.prog (· < Try.prog.types.size) := kids_rows (by kernel_rfl) (by kernel_rfl)
theorem full_all : ∀ t e, t < Try.prog.types.size → Try.prog.underlying t = some (.slice e) → 0 < Try.prog.cellsOf e := slices_full_of Try.prog (by kernel_rfl)
/-- what the arguments read behind the call -/
theorem args_again {W W' : World} {ts : List TypeId} {vs : List Value} {ds : List (DataW H)} {ps : List MemPlace} (hts : (ts.all fun t => decide (t < Try.prog.types.size)) = true) (hb : Below W.heap.size W W')
    (h : DataW.TrodAll enc Try.prog W 0 (fun _ => true) true ts vs ds ps) (hlt : ∀ p ∈ ps, p.block < W.heap.size) (sp : Nat → Bool) (hs : ∀ p ∈ ps, sp p.block = true) : DataW.TrodAll enc Try.prog W' 0 sp true ts vs ds ps :=
  args_stay kids_all (fun ht hu => full_all _ _ ht hu) hb (fun t ht => of_decide_eq_true (List.all_eq_true.1 hts t ht)) h hlt hs
end
end Go.Proofs.Ytafbghlldlconaa
