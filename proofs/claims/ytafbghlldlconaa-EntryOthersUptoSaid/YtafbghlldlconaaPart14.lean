import Derived.Test.YtafbghlldlconaaPart13
import Derived.Test.YtafbghlldlconaaPart6
import Derived.Test.YtafbghlldlconaaRows
import Derived.Below
import Derived.ChangeSame
import Derived.WalkKit
import Derived.ProofKit
import Derived.ReadAgain
import Derived.ChangeStays
import Derived.ChangeBears
import Derived.Test.YtafbghlldlconaaPart1
import Derived.Deep.Slices
import Derived.Deep.Fields
import Derived.SizedLaws
/-
  The law EntrySubmitter: the walk.
-/
namespace Go.Proofs.Ytafbghlldlconaa
set_option linter.unusedVariables false
set_option linter.unusedSimpArgs false
open Go.RowKit PT

theorem eOf_any (l : List Nd) (cs : List Ct) (form : Int) : eOf l cs form = 0 ∨ eOf l cs form ≠ 0 := by omega
theorem lOf_no {l : List Nd} {cs : List Ct} {form sub : Int} (h : eOf l cs form ≠ 0) : lOf l cs form sub = [] := if_neg h
theorem lOf_len {l : List Nd} {cs : List Ct} (hB : SmallC cs) (form sub : Int) : (lOf l cs form sub).length ≤ 400 * 1048576 := by
  unfold lOf
  split
  · rename_i he
    obtain ⟨hR, _, f0, f1, _⟩ := eOf_ok he
    obtain ⟨t0, t1⟩ := topF_range hR f0 f1
    have h1 := ord_len hR t0 t1
    have h2 := hR.max
    exact Nat.le_trans (flat_lenB hB _ _ _) (Nat.mul_le_mul_right _ (by omega))
  · exact Nat.zero_le _
theorem grd_end {b : List Ent} {j : Nat} (hj : j ≤ b.length) (h : grd (b.drop j) [] = []) : j = b.length := by
  have h2 : b.drop j = [] := h
  have := congrArg List.length h2
  rw [List.length_drop, List.length_nil] at this
  omega
theorem grd_out {a b : List Ent} {i j : Nat} (hi : i < a.length) (hj : b.length ≤ j) (h : grd (b.drop j) (a.drop i) = []) : grd (b.drop j) (a.drop (i + 1)) = [] := by
  rw [List.drop_eq_nil_of_le hj]
  exact grd_nil _
theorem grd_yes {a b : List Ent} {i j : Nat} (hi : i < a.length) (hj : j < b.length) (h : grd (b.drop j) (a.drop i) = []) (he : a[i] = b[j]) : grd (b.drop (j + 1)) (a.drop (i + 1)) = [] := by
  rw [List.drop_eq_getElem_cons hi, List.drop_eq_getElem_cons hj] at h
  change (if entEq a[i] b[j] = true then grd (b.drop (j + 1)) (a.drop (i + 1)) else grd (b[j] :: b.drop (j + 1)) (a.drop (i + 1))) = [] at h
  rw [if_pos ((entEq_iff _ _).2 he)] at h
  exact h
theorem grd_no {a b : List Ent} {i j : Nat} (hi : i < a.length) (hj : j < b.length) (h : grd (b.drop j) (a.drop i) = []) (he : a[i] ≠ b[j]) : grd (b.drop j) (a.drop (i + 1)) = [] := by
  rw [List.drop_eq_getElem_cons hi, List.drop_eq_getElem_cons hj] at h
  change (if entEq a[i] b[j] = true then grd (b.drop (j + 1)) (a.drop (i + 1)) else grd (b[j] :: b.drop (j + 1)) (a.drop (i + 1))) = [] at h
  rw [if_neg (fun e => he ((entEq_iff _ _).1 e))] at h
  rw [List.drop_eq_getElem_cons hj]
  exact h
set_option maxHeartbeats 4000000 in
set_option maxRecDepth 100000 in
theorem entrySubmitter_walk (l : List Nd) (cs : List Ct) (vn vc : Value) (form sub : Int) (w : World) (hD : DocAt l cs vn vc w) (_ : (Lit.int .i64 form).wf = true) (_ : (Lit.int .i64 sub).wf = true) (hB : SmallC cs) :
    Calls Try.prog 5 #[.agg #[vn, vc], .int .i64 form, .int .i64 sub] w fun e w' => e = .returned (.bool true) ∧ Below w.heap.size w w' := by
  obtain ⟨a1, cap1, rfl⟩ := hD.nodes.nodes.len
  obtain ⟨a2, cap2, rfl⟩ := hD.ctls.len
  obtain ⟨hD1, hb1, hs1, c0, c1⟩ := doc_box (T := 25) hD
  obtain ⟨hsubl, hlen2⟩ := lOf_sub l cs form sub
  have hlen1 := hsubl.length_le
  have hstart := Lib.hid (grd_sub _ _ hsubl)
  have hlA := lOf_len (l := l) hB form sub
  go_enter Try.func5, Try.ntmps5
  go_wp2_with fail
  generalize World.alloc w _ = W1 at hD1 hb1 hs1 c0 c1 ⊢
  refine (wakes22_any _).mono ?_
  rintro e w2 ⟨rfl, hb2⟩
  have hD2 := hD1.kept hb2
  have d0 := cellK hb2 (by omega) c0
  have d1 := cellK hb2 (by omega) c1
  have hs2 := hb2.size
  go_wp2_with fail
  refine (lawCopied22_any l cs _ _ _ hD2).mono ?_
  rintro e w3 ⟨vn3, vc3, rfl, hO3, hb3⟩
  have hb23 := bs hb2 hb3
  obtain ⟨a3, cap3, rfl⟩ := hO3.nodes.nodes.len
  obtain ⟨a4, cap4, rfl⟩ := hO3.ctls.len
  have hs3 := hb3.size
  go_wp2_with fail
  refine (entList_any l cs _ _ form sub hB _ hO3).mono ?_
  rintro e w4 ⟨va, rfl, hA, hb4⟩
  have hb24 := bs hb23 hb4
  have hs4 := hb4.size
  have f0 := cellK hb24 (by omega) c0
  have f1 := cellK hb24 (by omega) c1
  obtain ⟨a5, cap5, rfl⟩ := hA.len
  go_wp2_with fail
  refine (lawCopied22_any l cs _ _ _ ((hD2.kept hb3).kept hb4)).mono ?_
  rintro e w5 ⟨vn5, vc5, rfl, hO5, hb5⟩
  obtain ⟨a6, cap6, rfl⟩ := hO5.nodes.nodes.len
  obtain ⟨a7, cap7, rfl⟩ := hO5.ctls.len
  have hs5 := hb5.size
  go_wp2_with fail
  refine (entList_any l cs _ _ form (-1) hB _ hO5).mono ?_
  rintro e w6 ⟨vb, rfl, hBv, hb6⟩
  have hA6 := (hA.kept hb5).kept hb6
  have hbw := bs hb1 (bs (bs hb24 hb5) hb6)
  generalize lOf l cs form sub = A at *
  generalize lOf l cs form (-1) = B at *
  obtain ⟨a8, cap8, rfl⟩ := hBv.len
  generalize eOf l cs form = z at *
  have q1 : (z != z) = false := bne_self_eq_false z
  have q2 : decide ((A.length : Int) < (B.length : Int)) = false := decide_eq_false (by omega)
  have q3 : decide ((B.length : Int) + 2 < (A.length : Int)) = false := decide_eq_false (by omega)
  clear hA hb6 hb5 hb4 hb3 hb2 hb1 hb23 hb24 f0 f1 d0 d1 c0 c1 hO3 hO5 hD1 hD2 hsubl
  go_wp2_with fail
  go_loopw [11, 50] (fun u i wr => ∃ k j : Nat, k ≤ A.length ∧ j ≤ B.length ∧ i = .int .i64 k ∧ u = .int .i64 j ∧ Hid (grd (B.drop j) (A.drop k) = []) ∧ Below w6.heap.size w6 wr) (fun _ i _ => A.length - (intOf i).toNat)
  case atStart => exact ⟨0, 0, Nat.zero_le _, Nat.zero_le _, rfl, rfl, hstart, Below.refl _ _⟩
  case round =>
    obtain ⟨k, j, hk, hj, rfl, rfl, hG, hbel⟩ := hrel
    have hsz := hbel.size
    by_cases hlt : k < A.length
    · obtain ⟨b, o, cx, hv, hb, x0, x1, x2, x3, x4⟩ := (hA6.kept hbel).five hlt
      cases hv
      have hk0 : (0 : Int) ≤ (k : Int) := by omega
      have hk1 : (k : Int) < (A.length : Int) := by omega
      by_cases hlj : j < B.length
      · obtain ⟨b', o', cy, hv, hb', y0, y1, y2, y3, y4⟩ := (hBv.kept hbel).five hlj
        cases hv
        have hj0 : (0 : Int) ≤ (j : Int) := by omega
        have hj1 : (j : Int) < (B.length : Int) := by omega
        have hjb : decide ((j : Int) < (B.length : Int)) = true := decide_eq_true hj1
        have hjc : decide (j < B.length) = true := decide_eq_true hlj
        have hY := Lib.hid (fun h => grd_yes hlt hlj hG.out h)
        have hN := Lib.hid (fun h => grd_no hlt hlj hG.out h)
        generalize A[k] = x at *
        generalize B[j] = y at *
        obtain ⟨xn, xv, xf, xfn, xt⟩ := x
        obtain ⟨yn, yv, yf, yfn, yt⟩ := y
        dsimp only at x0 x1 x2 x3 x4 y0 y1 y2 y3 y4
        by_cases h1 : xn = yn
        case neg =>
          have q4 := sFalse h1
          have hN1 := Lib.hid (hN.out (fun e => h1 (congrArg Ent.n e)))
          clear h1 hY hN
          go_wp2_with fail
          go_quiet (fail)
          go_wp2_with fail
          go_roundw
          case rel => exact ⟨k + 1, j, by omega, hj, by go_num, rfl, hN1, hbel.trans ((below_draws wr _).mono hsz)⟩
          case measure => simp [intOf]; omega
        subst h1
        by_cases h2 : xv = yv
        case neg =>
          have q4 := sFalse h2
          have hN1 := Lib.hid (hN.out (fun e => h2 (congrArg Ent.v e)))
          clear h2 hY hN
          go_wp2_with fail
          go_quiet (fail)
          go_wp2_with fail
          go_roundw
          case rel => exact ⟨k + 1, j, by omega, hj, by go_num, rfl, hN1, hbel.trans ((below_draws wr _).mono hsz)⟩
          case measure => simp [intOf]; omega
        subst h2
        by_cases h3 : xf = yf
        case neg =>
          have hN1 := Lib.hid (hN.out (fun e => h3 (congrArg Ent.f e)))
          clear hY hN
          cases xf <;> cases yf
          · exact absurd rfl h3
          · clear h3
            go_wp2_with fail
            go_quiet (fail)
            go_wp2_with fail
            go_roundw
            case rel => exact ⟨k + 1, j, by omega, hj, by go_num, rfl, hN1, hbel.trans ((below_draws wr _).mono hsz)⟩
            case measure => simp [intOf]; omega
          · clear h3
            go_wp2_with fail
            go_quiet (fail)
            go_wp2_with fail
            go_roundw
            case rel => exact ⟨k + 1, j, by omega, hj, by go_num, rfl, hN1, hbel.trans ((below_draws wr _).mono hsz)⟩
            case measure => simp [intOf]; omega
          · exact absurd rfl h3
        subst h3
        by_cases h4 : xfn = yfn
        case neg =>
          have q4 := sFalse h4
          have hN1 := Lib.hid (hN.out (fun e => h4 (congrArg Ent.fn e)))
          clear h4 hY hN
          go_wp2_with fail
          go_quiet (fail)
          go_wp2_with fail
          go_roundw
          case rel => exact ⟨k + 1, j, by omega, hj, by go_num, rfl, hN1, hbel.trans ((below_draws wr _).mono hsz)⟩
          case measure => simp [intOf]; omega
        subst h4
        by_cases h5 : xt = yt
        case neg =>
          have q4 := sFalse h5
          have hN1 := Lib.hid (hN.out (fun e => h5 (congrArg Ent.t e)))
          clear h5 hY hN
          go_wp2_with fail
          go_quiet (fail)
          go_wp2_with fail
          go_roundw
          case rel => exact ⟨k + 1, j, by omega, hj, by go_num, rfl, hN1, hbel.trans ((below_draws wr _).mono hsz)⟩
          case measure => simp [intOf]; omega
        subst h5
        have hY1 := Lib.hid (hY.out rfl)
        clear hY hN
        go_wp2_with fail
        go_quiet (fail)
        go_wp2_with fail
        go_roundw
        case rel => exact ⟨k + 1, j + 1, by omega, by omega, by go_num, by go_num, hY1, hbel.trans ((below_draws wr _).mono hsz)⟩
        case measure => simp [intOf]; omega
      · have hjb : decide ((j : Int) < (B.length : Int)) = false := decide_eq_false (by omega)
        have hjc : decide (j < B.length) = false := decide_eq_false hlj
        have hO := Lib.hid (grd_out hlt (by omega) hG.out)
        go_wp2_with fail
        go_quiet (fail)
        go_wp2_with fail
        go_roundw
        case rel => exact ⟨k + 1, j, by omega, hj, by go_num, rfl, hO, hbel.trans ((below_draws wr _).mono hsz)⟩
        case measure => simp [intOf]; omega
    · obtain rfl : k = A.length := by omega
      have hE := grd_end hj (by have := hG.out; rwa [List.drop_length] at this)
      subst hE
      go_wp2_with fail
      go_ret
      exact ⟨rfl, bs hbw hbel⟩
end Go.Proofs.Ytafbghlldlconaa

/-
  WHAT IS DISABLED by the document: ref16.spared, ref16.Disabled: the walks.
-/
namespace Go.Proofs.Ytafbghlldlconaa
set_option linter.unusedVariables false
set_option linter.unusedSimpArgs false
open Go.RowKit PT

theorem leg_toList : (⟨#[108, 101, 103, 101, 110, 100]⟩ : ByteArray).toList = [108, 101, 103, 101, 110, 100] := by rw [ByteArray.toList_eq]
theorem set_toList : (⟨#[102, 105, 101, 108, 100, 115, 101, 116]⟩ : ByteArray).toList = [102, 105, 101, 108, 100, 115, 101, 116] := by rw [ByteArray.toList_eq]
theorem legQ_hit {l : List Nd} {f : Int} {k : Nat} (hk : k < (ksOf l f).length) (hno : ∀ x ∈ (ksOf l f).take k, decide (nmOf l x = ⟨#[108, 101, 103, 101, 110, 100]⟩) = false) (h : nmOf l (ksOf l f)[k] = ⟨#[108, 101, 103, 101, 110, 100]⟩) : legQ l f = some (ksOf l f)[k] := by
  unfold legQ
  rw [List.find?_eq_some_iff_getElem]
  refine ⟨decide_eq_true h, k, hk, rfl, fun j hj => ?_⟩
  have := hno (ksOf l f)[j] (by
    rw [List.mem_take_iff_getElem]
    exact ⟨j, by omega, rfl⟩)
  simpa using this
theorem legQ_none {l : List Nd} {f : Int} (hno : ∀ x ∈ ksOf l f, decide (nmOf l x = ⟨#[108, 101, 103, 101, 110, 100]⟩) = false) : legQ l f = none := by
  unfold legQ
  rw [List.find?_eq_none]
  intro x hx
  rw [hno x hx]
  exact Bool.false_ne_true
set_option maxHeartbeats 4000000 in
set_option maxRecDepth 100000 in
theorem spared_any (l : List Nd) (v : Value) (K F : Nat) (hkl : K < l.length) (hfl : F < l.length) (hRP : RightP l) (w : World) (hU : Nodes l v w) :
    Calls Try.prog 34 #[v, .int .i64 K, .int .i64 F] w fun e w' => e = .returned (.bool (spB l K F)) ∧ w = w' := by
  obtain ⟨a, cap, rfl⟩ := hU.len
  obtain ⟨b, o, cap', va, vk, hv, hb, c0, c1, c2, c3, c4, hat, hks⟩ := hU.at hfl
  cases hv
  have hke := ksOf_at hfl
  have hkid := Lib.hid (fun (c : Int) (hc : c ∈ ksOf l F) => hRP.kid (k := (F : Int)) (by omega) (by omega) hc)
  have hhit := Lib.hid (fun k hk hno h => legQ_hit (l := l) (f := F) (k := k) hk hno h)
  have hnone := Lib.hid (fun h => legQ_none (l := l) (f := F) h)
  have hkn := hRP.nodup (k := (F : Int)) (by omega) (by omega)
  have hkz : (ksOf l (F : Int)).length ≤ 400 := Nat.le_trans (nodup_len hkn (fun c' hc' => ⟨(hRP.kid (by omega) (by omega) hc').1, (hRP.kid (by omega) (by omega) hc').2.1⟩)) hRP.max
  have hSp := Lib.hid (show spB l K F = match legQ l F with | some k => decide (k = (K : Int)) || withinF l k (paOf l K) | none => false from rfl)
  rw [hke] at hkz hkid hhit hnone
  clear hkn hke
  generalize l[F] = x at *
  obtain ⟨a2, cap2, rfl⟩ := hks.len
  have hF0 : (0 : Int) ≤ (F : Int) := by omega
  have hF1 : (F : Int) < (l.length : Int) := by omega
  go_enter Try.func34, Try.ntmps34
  go_wp2_with fail
  go_loop [7] (fun i => ∃ k : Nat, k ≤ x.ks.length ∧ i = .int .i64 k ∧ Hid (∀ c ∈ x.ks.take k, decide (nmOf l c = ⟨#[108, 101, 103, 101, 110, 100]⟩) = false)) (fun i => x.ks.length - (intOf i).toNat)
  case atStart => exact ⟨0, Nat.zero_le _, rfl, Lib.hid (by simp)⟩
  case round =>
    obtain ⟨k, hk, rfl, hA⟩ := hrel
    by_cases hlt : k < x.ks.length
    · obtain ⟨kb, ko, kcap', kv, khb, kc0⟩ := hks.at hlt
      cases kv
      obtain ⟨d0, d1, _⟩ := hkid.out x.ks[k] (List.getElem_mem hlt)
      have hT := Lib.hid (fun h => take_mem_snoc (P := fun c => decide (nmOf l c = ⟨#[108, 101, 103, 101, 110, 100]⟩) = false) hlt hA.out h)
      have hH := Lib.hid (fun h => hhit.out k hlt hA.out h)
      have hk0 : (0 : Int) ≤ (k : Int) := by omega
      have hk1 : (k : Int) < (x.ks.length : Int) := by omega
      generalize x.ks[k] = c at *
      obtain ⟨q, rfl⟩ := Int.eq_ofNat_of_zero_le d0
      have hq : q < l.length := by omega
      have hnm := nmOf_at hq
      obtain ⟨b2, o2, cap2', va2, vk2, hv, hb2, g0, g1, g2, g3, g4, _, _⟩ := hU.at hq
      cases hv
      by_cases hn : nmOf l (q : Nat) = ⟨#[108, 101, 103, 101, 110, 100]⟩
      · have hN := hH.out hn
        have hN := Lib.hid (show spB l K F = (decide ((q : Int) = (K : Int)) || withinF l q (paOf l K)) by rw [hSp.out, hN])
        rw [hnm] at hn
        have q1 := sTrue hn
        rw [leg_toList] at q1
        clear hn hnm
        generalize l[q] = y at *
        by_cases e : (q : Int) = (K : Int)
        · have hM := Lib.hid (show spB l K F = true by rw [hN.out, decide_eq_true e]; rfl)
          have q3 : ((q : Int) == (K : Int)) = true := by rw [e]; exact beq_self_eq_true _
          have q4 : decide ((q : Int) = (K : Int)) = true := decide_eq_true e
          have q5 : q = K := by omega
          clear e
          subst q5
          go_wp2_with fail
          go_ret
          exact ⟨ret_bool hM.out.symm, rfl⟩
        · have hM := Lib.hid (show spB l K F = withinF l q (paOf l K) by rw [hN.out, decide_eq_false e]; rfl)
          have q3 := intNe e
          have q4 : decide (q = K) = false := decide_eq_false (by omega)
          have q5 : (q == K) = false := by rw [beq_eq_false_iff_ne]; omega
          clear e
          go_wp2_with fail
          refine (refWithin_any l _ K q hkl hRP _ hU).mono ?_
          rintro e w2 ⟨rfl, rfl⟩
          go_wp2_with fail
          go_ret
          exact ⟨ret_bool hM.out.symm, rfl⟩
      · have hN := Lib.hid (hT.out (decide_eq_false hn))
        rw [hnm] at hn
        have q1 := sFalse hn
        rw [leg_toList] at q1
        clear hn hnm
        generalize l[q] = y at *
        go_wp2_with fail
        go_round
        case rel => exact ⟨k + 1, by omega, by go_num, hN⟩
        case measure => simp [intOf]; omega
    · obtain rfl : k = x.ks.length := by omega
      have hN := hnone.out (by have := hA.out; rwa [List.take_of_length_le (Nat.le_refl _)] at this)
      have hN := Lib.hid (show spB l K F = false by rw [hSp.out, hN])
      go_wp2_with fail
      go_ret
      exact ⟨ret_bool hN.out.symm, rfl⟩
theorem upDis_none {l : List Nd} (h : RightP l) {id : Int} (h0 : 0 ≤ id) (h1 : id < l.length) (hno : ∀ f : Nat, f < l.length → setQ l id f = false) : upDis l id = false := by
  cases hu : upDis l id
  · rfl
  · obtain ⟨f, f0, f1, hf⟩ := (upDis_iff h h0 h1).1 hu
    obtain ⟨q, rfl⟩ := Int.eq_ofNat_of_zero_le f0
    rw [hno q (by omega)] at hf
    cases hf
set_option maxHeartbeats 4000000 in
set_option maxRecDepth 100000 in
theorem refDisabled_any (l : List Nd) (v : Value) (id : Int) (hl : l.length ≤ 1000000000000000000) (hz : ∀ x ∈ l, Fits x) (w : World) (hU : Nodes l v w) :
    Calls Try.prog 13 #[v, .int .i64 id] w fun e w' => e = .returned (.bool (disF l id)) ∧ Below w.heap.size w w' := by
  obtain ⟨a, cap, rfl⟩ := hU.len
  cases hh : hasB l id
  · have HH := Lib.hid hh
    have hR := Lib.hid (disF_out hh)
    clear hh
    go_enter Try.func13, Try.ntmps13
    go_wp2_with fail
    refine (refHas10_any l _ id hl hz _ hU).mono ?_
    rintro e w' ⟨rfl, hb⟩
    rw [HH.out]
    go_wp2_with fail
    go_ret
    exact ⟨ret_bool hR.out.symm, hb⟩
  have HH := Lib.hid hh
  obtain ⟨i0, i1, hRP⟩ := (hasB_iff l id).1 hh
  have hD := disF_in hRP i0 i1
  obtain ⟨K, rfl⟩ := Int.eq_ofNat_of_zero_le i0
  have hkl : K < l.length := by omega
  clear hh
  obtain ⟨k0, k1⟩ := kindF_range l (K : Nat)
  rw [kindF_in i0 i1] at k0 k1
  obtain ⟨kk, hkk⟩ : ∃ kk, kOf l (K : Nat) = kk := ⟨_, rfl⟩
  rw [hkk] at k0 k1 hD
  have HKI := Lib.hid hkk
  clear hkk
  by_cases hA : submB kk = false ∧ kk ≠ 29
  · obtain ⟨hL, h29⟩ := hA
    have hR := Lib.hid (show disF l (K : Nat) = false by rw [hD, hL, decide_eq_false h29]; simp)
    have HL := Lib.hid hL
    have q1 : (kk == 29) = false := intNe h29
    have q2 : (kk != 29) = true := by rw [bne, q1]; rfl
    clear hL h29 hD
    go_enter Try.func13, Try.ntmps13
    go_wp2_with fail
    refine (refHas10_any l _ _ hl hz _ hU).mono ?_
    rintro e w1 ⟨rfl, hb1⟩
    rw [HH.out]
    go_wp2_with fail
    refine (ref16Kind_any l _ K hkl hRP _ (hU.kept hb1)).mono ?_
    rintro e w2 ⟨rfl, hb2⟩
    rw [HKI.out]
    go_wp2_with fail
    refine (refIs2_any kk k0 k1 _).mono ?_
    rintro e w3 ⟨rfl, rfl⟩
    rw [HL.out]
    go_wp2_with fail
    go_ret
    exact ⟨ret_bool hR.out.symm, bs hb1 hb2⟩
  have hS : (submB kk || decide (kk = 29)) = true := by
    cases hs : submB kk
    · rw [decide_eq_true (by by_cases e : kk = 29; exact e; exact absurd ⟨hs, e⟩ hA)]; rfl
    · rfl
  rw [hS, Bool.true_and] at hD
  obtain ⟨b9, HL, hq⟩ : ∃ b, Hid (submB kk = b) ∧ (b = true ∨ (b = false ∧ Hid ((kk == 29) = true) ∧ Hid ((kk != 29) = false))) := by
    by_cases hs : submB kk = true
    · exact ⟨true, Lib.hid hs, .inl rfl⟩
    · have hs' : submB kk = false := by simpa using hs
      have e : kk = 29 := by by_cases e : kk = 29; exact e; exact absurd ⟨hs', e⟩ hA
      exact ⟨false, Lib.hid hs', .inr ⟨rfl, by unfold Hid; rw [e]; rfl, by unfold Hid; rw [e]; rfl⟩⟩
  clear hS hA
  have hmax := hRP.max
  have hD := Lib.hid hD
  have hdA := Lib.hid (show disA l (K : Nat) = (atO l[K].ats ⟨#[100, 105, 115, 97, 98, 108, 101, 100]⟩).isSome by unfold disA; rw [atsOf_at hkl])
  have hal := one_ats (hRP.node K _ (List.getElem?_eq_getElem hkl)).1
  have hK0 : (0 : Int) ≤ (K : Int) := by omega
  have hK1 : (K : Int) < (l.length : Int) := by omega
  have hyes := Lib.hid (fun (f : Nat) (hf : f < l.length) (h : setQ l (K : Nat) f = true) => (upDis_iff hRP i0 i1).2 ⟨f, by omega, by omega, h⟩)
  have hno := Lib.hid (fun h => upDis_none hRP i0 i1 h)
  go_enter Try.func13, Try.ntmps13
  go_wp2_with fail
  refine (refHas10_any l _ _ hl hz _ hU).mono ?_
  rintro e w1 ⟨rfl, hb1⟩
  rw [HH.out]
  go_wp2_with fail
  refine (ref16Kind_any l _ K hkl hRP _ (hU.kept hb1)).mono ?_
  rintro e w2 ⟨rfl, hb2⟩
  rw [HKI.out]
  have hb02 := bs hb1 hb2
  go_wp2_with fail
  refine (refIs2_any kk k0 k1 _).mono ?_
  rintro e w3 ⟨rfl, rfl⟩
  rw [HL.out]
  obtain ⟨b, o, cap', va, vk, hv, hb, c0, c1, c2, c3, c4, hat, hks⟩ := (hU.kept hb02).at hkl
  cases hv
  generalize l[K] = x at *
  obtain ⟨a1, cap1, rfl⟩ := hat.len
  obtain ⟨a2, cap2, rfl⟩ := hks.len
  rcases hq with rfl | ⟨rfl, hq1, hq2⟩
  case' inr => have q1 := hq1.out; have q2 := hq2.out
  all_goals
    go_wp2_with fail
    refine (refHas15_any x _ _ ⟨#[100, 105, 115, 97, 98, 108, 101, 100]⟩ (by omega) _ hat).mono ?_
    rintro e w4 ⟨rfl, hb4⟩
    have hb04 := bs hb02 hb4
    have hg4 := hb04.size
    rw [← hdA.out]
    cases hda : disA l (K : Nat)
    case true =>
      have hR := Lib.hid (show disF l (K : Nat) = true by rw [hD.out, hda]; rfl)
      clear hda
      go_wp2_with fail
      go_ret
      exact ⟨ret_bool hR.out.symm, hb04⟩
    have hR := Lib.hid (show disF l (K : Nat) = upDis l (K : Nat) by rw [hD.out, hda]; rfl)
    clear hda
    go_wp2_with fail
    go_loopw [6] (fun i wr => ∃ k : Nat, k ≤ l.length ∧ i = .int .i64 k ∧ Hid (∀ f : Nat, f < k → setQ l (K : Nat) f = false) ∧ Below w4.heap.size w4 wr) (fun i _ => l.length - (intOf i).toNat)
    case atStart => exact ⟨0, Nat.zero_le _, rfl, Lib.hid (fun f hf => absurd hf (Nat.not_lt_zero _)), Below.refl _ _⟩
    case round =>
      obtain ⟨f, hfl, rfl, hA, hbel⟩ := hrel
      have hb0r := hb04.trans (hbel.mono hg4)
      by_cases hlt : f < l.length
      · have hstep := Lib.hid (fun (h : setQ l (K : Nat) f = false) => show ∀ g : Nat, g < f + 1 → setQ l (K : Nat) g = false from fun g hg => by
          by_cases e : g = f
          · rw [e]; exact h
          · exact hA.out g (by omega))
        have hs := show setQ l (K : Nat) f = (decide (nmOf l f = ⟨#[102, 105, 101, 108, 100, 115, 101, 116]⟩) && (disA l f && (withinF l f (paOf l (K : Nat)) && !spB l (K : Nat) f))) from rfl
        have hhit := Lib.hid (hyes.out f hlt)
        have hal2 := one_ats (hRP.node f _ (List.getElem?_eq_getElem hlt)).1
        have hdP := Lib.hid (show disA l (f : Nat) = (atO l[f].ats ⟨#[100, 105, 115, 97, 98, 108, 101, 100]⟩).isSome by unfold disA; rw [atsOf_at hlt])
        have hUr := hU.kept hb0r
        obtain ⟨b2, o2, cap2, va2, vk2, hv, hbb, g0, g1, g2, g3, g4, hat2, hks2⟩ := hUr.at hlt
        cases hv
        rw [nmOf_at hlt] at hs
        have hf0 : (0 : Int) ≤ (f : Int) := by omega
        have hf1 : (f : Int) < (l.length : Int) := by omega
        have hfz : f < 1000000000000000000 := by omega
        generalize l[f] = y at *
        obtain ⟨a3, cap3, rfl⟩ := hat2.len
        obtain ⟨a4, cap4, rfl⟩ := hks2.len
        by_cases hn : y.nm = ⟨#[102, 105, 101, 108, 100, 115, 101, 116]⟩
        case neg =>
          have hN := Lib.hid (hstep.out (by rw [hs, decide_eq_false hn]; rfl))
          have q1 := sFalse hn
          rw [set_toList] at q1
          clear hn hs
          go_wp2_with fail
          go_roundw
          case rel => exact ⟨f + 1, by omega, by go_num, hN, hbel⟩
          case measure => simp [intOf]; omega
        rw [decide_eq_true hn, Bool.true_and] at hs
        have q1 := sTrue hn
        rw [set_toList] at q1
        clear hn
        cases hda : disA l (f : Nat)
        case false =>
          have hN := Lib.hid (hstep.out (by rw [hs, hda]; rfl))
          have HD := Lib.hid (hdP.out.symm.trans hda)
          clear hda hs
          go_wp2_with fail
          refine (refHas15_any y _ _ ⟨#[100, 105, 115, 97, 98, 108, 101, 100]⟩ (by omega) _ hat2).mono ?_
          rintro e w5 ⟨rfl, hb5⟩
          rw [HD.out]
          go_wp2_with fail
          go_roundw
          case rel => exact ⟨f + 1, by omega, by go_num, hN, bs hbel hb5⟩
          case measure => simp [intOf]; omega
        have HD := Lib.hid (hdP.out.symm.trans hda)
        rw [hda, Bool.true_and] at hs
        clear hda
        cases hw : withinF l (f : Nat) (paOf l (K : Nat))
        case false =>
          have hN := Lib.hid (hstep.out (by rw [hs, hw]; rfl))
          have HW := Lib.hid hw
          clear hw hs
          go_wp2_with fail
          refine (refHas15_any y _ _ ⟨#[100, 105, 115, 97, 98, 108, 101, 100]⟩ (by omega) _ hat2).mono ?_
          rintro e w5 ⟨rfl, hb5⟩
          rw [HD.out]
          go_wp2_with fail
          refine (refWithin_any l _ K (f : Nat) hkl hRP _ (hUr.kept hb5)).mono ?_
          rintro e w6 ⟨rfl, rfl⟩
          rw [HW.out]
          go_wp2_with fail
          go_roundw
          case rel => exact ⟨f + 1, by omega, by go_num, hN, bs hbel hb5⟩
          case measure => simp [intOf]; omega
        have HW := Lib.hid hw
        rw [hw, Bool.true_and] at hs
        clear hw
        cases hsp : spB l (K : Nat) (f : Nat)
        case true =>
          have hN := Lib.hid (hstep.out (by rw [hs, hsp]; rfl))
          have HS := Lib.hid hsp
          clear hsp hs
          go_wp2_with fail
          refine (refHas15_any y _ _ ⟨#[100, 105, 115, 97, 98, 108, 101, 100]⟩ (by omega) _ hat2).mono ?_
          rintro e w5 ⟨rfl, hb5⟩
          rw [HD.out]
          go_wp2_with fail
          refine (refWithin_any l _ K (f : Nat) hkl hRP _ (hUr.kept hb5)).mono ?_
          rintro e w6 ⟨rfl, rfl⟩
          rw [HW.out]
          go_wp2_with fail
          refine (spared_any l _ K f hkl hlt hRP _ (hUr.kept hb5)).mono ?_
          rintro e w6 ⟨rfl, rfl⟩
          rw [HS.out]
          go_wp2_with fail
          go_roundw
          case rel => exact ⟨f + 1, by omega, by go_num, hN, bs hbel hb5⟩
          case measure => simp [intOf]; omega
        have hN := Lib.hid (hhit.out (by rw [hs, hsp]; rfl))
        have HS := Lib.hid hsp
        clear hsp hs
        go_wp2_with fail
        refine (refHas15_any y _ _ ⟨#[100, 105, 115, 97, 98, 108, 101, 100]⟩ (by omega) _ hat2).mono ?_
        rintro e w5 ⟨rfl, hb5⟩
        rw [HD.out]
        go_wp2_with fail
        refine (refWithin_any l _ K (f : Nat) hkl hRP _ (hUr.kept hb5)).mono ?_
        rintro e w6 ⟨rfl, rfl⟩
        rw [HW.out]
        go_wp2_with fail
        refine (spared_any l _ K f hkl hlt hRP _ (hUr.kept hb5)).mono ?_
        rintro e w6 ⟨rfl, rfl⟩
        rw [HS.out]
        go_wp2_with fail
        go_ret
        exact ⟨ret_bool (by rw [hR.out, hN.out]), bs hb0r hb5⟩
      · obtain rfl : f = l.length := by omega
        have hN := Lib.hid (hno.out hA.out)
        go_wp2_with fail
        go_ret
        exact ⟨ret_bool (by rw [hR.out, hN.out]), hb0r⟩
end Go.Proofs.Ytafbghlldlconaa

/-
  The law EntryOthers: the walk.
-/
namespace Go.Proofs.Ytafbghlldlconaa
set_option linter.unusedVariables false
set_option linter.unusedSimpArgs false
open Go.RowKit PT

set_option maxHeartbeats 1000000 in
set_option maxRecDepth 100000 in
theorem lawCopied22_own (l : List Nd) (cs : List Ct) (vn vc : Value) (w : World) (hD : DocAt l cs vn vc w) :
    Calls Try.prog 8 #[.agg #[vn, vc]] w fun e w' => ∃ vn' vc' b3 L3 L, e = .returned (.agg #[vn', vc']) ∧ Hid (L3.map (·.1) = l) ∧ Hid (L.map (·.1) = cs) ∧ ON b3 L3 vn' w' ∧ OC w.heap.size L vc' w' ∧ Below w.heap.size w w' := by
  obtain ⟨a1, cap1, rfl⟩ := hD.nodes.nodes.len
  obtain ⟨a2, cap2, rfl⟩ := hD.ctls.len
  obtain ⟨hD1, hb1, hs1, c0, c1⟩ := doc_box (T := 25) hD
  go_enter Try.func8, Try.ntmps8
  go_wp2_with fail
  generalize World.alloc w _ = W1 at hD1 hb1 hs1 c0 c1 ⊢
  have hn := Go.heap_alloc_new W1 (.cells #[.slice none 0 0, .slice none 0 0] 25)
  have hb2 := (Below.refl W1.heap.size W1).alloc (Nat.le_refl _) (.cells #[.slice none 0 0, .slice none 0 0] 25)
  rw [hs1] at hn
  generalize World.alloc W1 _ = W2 at hn hb2 ⊢
  have hbd : Below W2.heap.size W2 W2.drew := below_draws W2 1
  have hD2 := (hD1.kept hb2).kept hbd
  have hB2 := hD.ctls.at_base.kept (bs (bs hb1 hb2) hbd)
  have d0 := cellK hbd (by have := hb2.size; omega) (cellK hb2 (by omega) c0)
  have d1 := cellK hbd (by have := hb2.size; omega) (cellK hb2 (by omega) c1)
  have hn2 : W2.drew.heap[w.heap.size + 1]? = some (.cells #[.slice none 0 0, .slice none 0 0] 25 (0, 0)) := hn
  have hb12 : Below w.heap.size w W2.drew := bs (bs hb1 hb2) hbd
  have hs2 : w.heap.size + 2 ≤ W2.drew.heap.size := by have := (Array.getElem?_eq_some_iff.1 hn2).1; omega
  clear hn hbd hb1 hb2 c0 c1 hD1 hs1
  go_region_with ((first
    | (go_at_call 22; (with_reducible refine (copied_any l _ _ hD2.nodes.sized hD2.nodes.nodes).mono ?_); rintro e w3 ⟨L3, vo, rfl, hL3, hN3, hb3⟩; obtain ⟨a3, cap3, rfl, _⟩ := own_form hN3.row; have e0 := cellK hb3 (by omega) d0; have e1 := cellK hb3 (by omega) d1; have hn3 := blk_kept hb3 hn2; have hD3 := hB2.kept hb3; have hN3s := hb3.size)
    | (go_at_call 23; (with_reducible refine (refCopied15_at cs _ _ (base := w.heap.size) (by omega) hD.sz hD3).mono ?_); rintro e w4 ⟨L, vo, rfl, hL4, hO4, hb4⟩; obtain ⟨a4, cap4, rfl, _⟩ := hO4.len; have hn4 := blk_kept hb4 hn3; obtain ⟨x0, x1, f0, f1⟩ := doc2_of hn4)))
  all_goals
    have hN4 := hN3.kept hb4
    have z := doc2_heap (.slice a3 L3.length cap3) (.slice a4 L.length cap4) hn4
    have hN9 := (hN4.set hn4 (by decide) (by decide) (by decide) 0 (.slice a3 L3.length cap3)).set (doc1_heap (.slice a3 L3.length cap3) hn4) (by decide) (by decide) (by decide) 1 (.slice a4 L.length cap4)
    have hO9 := (hO4.setT hn4 (by omega) (by decide) (by decide) 0 (.slice a3 L3.length cap3)).setT (doc1_heap (.slice a3 L3.length cap3) hn4) (by omega) (by decide) (by decide) 1 (.slice a4 L.length cap4)
    have hb9 := (bs (bs hb12 hb3) hb4).trans (doc2_below w4 (w.heap.size + 1) (.slice a3 L3.length cap3) (.slice a4 L.length cap4) (Nat.le_succ w.heap.size))
    generalize World.setCell (World.setCell _ _ _) _ _ = W9 at z hN9 hO9 hb9 ⊢
    obtain ⟨y0, y1, _, _⟩ := doc2_of z
    go_wp2_with fail
    refine bodyPost_ret (v := .agg #[.slice a3 L3.length cap3, .slice a4 L.length cap4]) (by simp [results, Try.results8, go_sem, y0, y1]) rfl ⟨_, _, _, _, _, rfl, hL3, hL4, hN9, hO9, hb9⟩
/-- the states, when the first k nodes are done -/
noncomputable def othT (l : List Nd) (cs : List Ct) (form : Int) (c : Ct) (k : Nat) : List Ct := cs.mapIdx fun i x => if i < k ∧ formF l i ≠ form ∧ kOf l i ≠ 32 then c else x
theorem othT_zero (l : List Nd) (cs : List Ct) (form : Int) (c : Ct) : othT l cs form c 0 = cs := by
  unfold othT
  apply List.ext_getElem?
  intro i
  rw [List.getElem?_mapIdx]
  cases cs[i]? with
  | none => rfl
  | some x => rw [Option.map_some, if_neg (fun h => by omega)]
theorem othT_no {l : List Nd} {cs : List Ct} {form : Int} {c : Ct} {k : Nat} (h : ¬ (formF l k ≠ form ∧ kOf l k ≠ 32)) : othT l cs form c (k + 1) = othT l cs form c k := by
  unfold othT
  apply List.ext_getElem?
  intro i
  rw [List.getElem?_mapIdx, List.getElem?_mapIdx]
  cases cs[i]? with
  | none => rfl
  | some x =>
    rw [Option.map_some, Option.map_some]
    by_cases e : i = k
    · subst e
      rw [if_neg (fun hh => h hh.2), if_neg (fun hh => h hh.2)]
    · by_cases hc : formF l i ≠ form ∧ kOf l i ≠ 32
      · by_cases hi : i < k
        · rw [if_pos ⟨by omega, hc⟩, if_pos ⟨hi, hc⟩]
        · rw [if_neg (fun hh => by omega), if_neg (fun hh => hi hh.1)]
      · rw [if_neg (fun hh => hc hh.2), if_neg (fun hh => hc hh.2)]
theorem othT_yes {l : List Nd} {cs : List Ct} {form : Int} {c : Ct} {k : Nat} (h : formF l k ≠ form ∧ kOf l k ≠ 32) : othT l cs form c (k + 1) = (othT l cs form c k).set k c := by
  unfold othT
  apply List.ext_getElem?
  intro i
  rw [List.getElem?_set, List.getElem?_mapIdx, List.getElem?_mapIdx, List.length_mapIdx]
  cases hx : cs[i]? with
  | none =>
    have := List.getElem?_eq_none_iff.1 hx
    by_cases e : k = i
    · subst e
      rw [if_pos rfl, if_neg (by omega)]
      rfl
    · rw [if_neg e]
      rfl
  | some x =>
    have hlt := (List.getElem?_eq_some_iff.1 hx).1
    by_cases e : k = i
    · subst e
      rw [if_pos rfl, if_pos hlt, Option.map_some, if_pos ⟨by omega, h⟩]
    · rw [if_neg e, Option.map_some, Option.map_some]
      by_cases hc : formF l i ≠ form ∧ kOf l i ≠ 32
      · by_cases hi : i < k
        · rw [if_pos ⟨by omega, hc⟩, if_pos ⟨hi, hc⟩]
        · rw [if_neg (fun hh => by omega), if_neg (fun hh => hi hh.1)]
      · rw [if_neg (fun hh => hc hh.2), if_neg (fun hh => hc hh.2)]
theorem othT_all {l : List Nd} {cs : List Ct} {form : Int} {c : Ct} (hl : l.length = cs.length) : othT l cs form c l.length = othF l cs form c := by
  unfold othT othF
  apply List.ext_getElem?
  intro i
  rw [List.getElem?_mapIdx, List.getElem?_mapIdx]
  cases hx : cs[i]? with
  | none => rfl
  | some x =>
    have hlt := (List.getElem?_eq_some_iff.1 hx).1
    rw [Option.map_some, Option.map_some]
    by_cases hc : formF l i ≠ form ∧ kOf l i ≠ 32
    · rw [if_pos ⟨by omega, hc⟩, if_pos hc]
    · rw [if_neg (fun hh => hc hh.2), if_neg hc]
theorem othF_mem {l : List Nd} {cs : List Ct} {form : Int} {c x : Ct} (h : x ∈ othF l cs form c) : x ∈ cs ∨ x = c := by
  unfold othF at h
  obtain ⟨i, hi, rfl⟩ := List.mem_mapIdx.1 h
  split
  · exact .inr rfl
  · exact .inl (List.getElem_mem _)
theorem oth_sized {l : List Nd} {cs : List Ct} {form : Int} {c : Ct} (h1 : SizedC cs) (h2 : SizedC [c]) : SizedC (othF l cs form c) := by
  refine ⟨by rw [othF_len]; exact h1.len, fun x hx => ?_⟩
  rcases othF_mem hx with h | rfl
  · exact h1.fi' x h
  · exact h2.fi' x (List.mem_singleton.2 rfl)
theorem oth_small {l : List Nd} {cs : List Ct} {form : Int} {c : Ct} (h1 : SmallC cs) (h2 : SmallC [c]) : SmallC (othF l cs form c) := by
  intro x hx
  rcases othF_mem hx with h | rfl
  · exact h1 x h
  · exact h2 x (List.mem_singleton.2 rfl)
theorem oc_cells {base : Nat} {L : List CtT} {g n cap : Nat} {w : World} (h : OC base L (.slice (some ⟨g, 0, none⟩) n cap) w) {k : Nat} (hk : k < L.length) : (∃ u, w.cell? ⟨g, k * 10, none⟩ = some u) ∧ (∃ u, w.cell? ⟨g, k * 10 + 1, none⟩ = some u) ∧ (∃ u, w.cell? ⟨g, k * 10 + 2, none⟩ = some u) ∧ (∃ u, w.cell? ⟨g, k * 10 + 3, none⟩ = some u) ∧ (∃ u, w.cell? ⟨g, k * 10 + 4, none⟩ = some u) ∧ (∃ u, w.cell? ⟨g, k * 10 + 5, none⟩ = some u) ∧ (∃ u, w.cell? ⟨g, k * 10 + 6, none⟩ = some u) ∧ (∃ u, w.cell? ⟨g, k * 10 + 7, none⟩ = some u) ∧ (∃ u, w.cell? ⟨g, k * 10 + 8, none⟩ = some u) ∧ (∃ u, w.cell? ⟨g, k * 10 + 9, none⟩ = some u) := by
  rcases h.ctr with ⟨rfl, _⟩ | ⟨b, o, cap', hv, _, _, hc⟩
  · simp at hk
  · have ho : o = 0 ∧ b = g := by cases hv; exact ⟨rfl, rfl⟩
    obtain ⟨rfl, rfl⟩ := ho
    have hc := hc k L[k] (List.getElem?_eq_getElem hk)
    simp only [Nat.zero_add] at hc
    exact ⟨⟨_, hc 0 _ rfl⟩, ⟨_, hc 1 _ rfl⟩, ⟨_, hc 2 _ rfl⟩, ⟨_, hc 3 _ rfl⟩, ⟨_, hc 4 _ rfl⟩, ⟨_, hc 5 _ rfl⟩, ⟨_, hc 6 _ rfl⟩, ⟨_, hc 7 _ rfl⟩, ⟨_, hc 8 _ rfl⟩, ⟨_, hc 9 _ rfl⟩⟩
/-- what lies beside the states -/
structure Aside (base : Nat) (es : List Ent) (ev : Value) (b3 : Nat) (L3 : List NdT) (v3 : Value) (n7 : Nat) (cells : Array Value) (w : World) : Prop where
  fil : Fil base es ev w
  on : ON b3 L3 v3 w
  box : w.heap[n7]? = some (.cells cells 25 (0, 0))
theorem put_one {base : Nat} {L : List CtT} {g n cap : Nat} {w : World} {es : List Ent} {ev : Value} {b3 : Nat} {L3 : List NdT} {v3 : Value} {n7 : Nat} {cells : Array Value} (h : OC base L (.slice (some ⟨g, 0, none⟩) n cap) w) (hE : Aside base es ev b3 L3 v3 n7 cells w) {k i : Nat} {t t' : CtT} {u : Value} (hk : L[k]? = some t) (hi : i < 10) (he : ctC t' = (ctC t).set i u) (hf : Fil base t'.1.fi t'.2 w) :
    OC base (L.set k t') (.slice (some ⟨g, 0, none⟩) n cap) (w.setCell ⟨g, k * 10 + i, none⟩ u) ∧ Aside base es ev b3 L3 v3 n7 cells (w.setCell ⟨g, k * 10 + i, none⟩ u) ∧ Below base w (w.setCell ⟨g, k * 10 + i, none⟩ u) := by
  have hl : L ≠ [] := by rintro rfl; simp at hk
  obtain ⟨g', cap', cur, hv, hb, hg⟩ := h.blk hl
  cases hv
  obtain ⟨h1, h2⟩ := h.set hk hi he hf
  have hne : n7 ≠ g := fun e => by
    subst e
    have h3 := hE.box
    rw [hg] at h3
    injection h3 with h3
    injection h3 with _ h3
    exact absurd h3 (by decide)
  exact ⟨h1, ⟨hE.fil.set hg hb, hE.on.set hg (by decide) (by decide) (by decide) _ _, (Below.heap_setCell _ _ _ n7 hne).trans hE.box⟩, h2⟩
theorem set_k {L : List CtT} {k : Nat} {t : CtT} (hk : k < L.length) : (L.set k t)[k]? = some t := by rw [List.getElem?_set_self hk]
/-- 'x.Ctls[k] = c': all ten cells -/
theorem OC.put {base : Nat} {L : List CtT} {g n cap : Nat} {w : World} (h : OC base L (.slice (some ⟨g, 0, none⟩) n cap) w) {k : Nat} (hk : k < L.length) (c : Ct) (vf : Value) {b3 : Nat} {L3 : List NdT} {v3 : Value} {n7 : Nat} {cells : Array Value} (hf : Aside base c.fi vf b3 L3 v3 n7 cells w) :
    ∀ W, W = (((((((((w.setCell ⟨g, k * 10, none⟩ (.string c.va)).setCell ⟨g, k * 10 + 1, none⟩ (.bool c.di)).setCell ⟨g, k * 10 + 2, none⟩ (.bool c.ty)).setCell ⟨g, k * 10 + 3, none⟩ (.bool c.ch)).setCell ⟨g, k * 10 + 4, none⟩ (.bool c.dc)).setCell ⟨g, k * 10 + 5, none⟩ (.bool c.mi)).setCell ⟨g, k * 10 + 6, none⟩ (.bool c.se)).setCell ⟨g, k * 10 + 7, none⟩ (.bool c.ds)).setCell ⟨g, k * 10 + 8, none⟩ (.string c.cu)).setCell ⟨g, k * 10 + 9, none⟩ vf →
      OC base (L.set k (c, vf)) (.slice (some ⟨g, 0, none⟩) n cap) W ∧ Aside base c.fi vf b3 L3 v3 n7 cells W ∧ Below base w W := by
  rintro W rfl
  obtain ⟨t, ht⟩ : ∃ t, L[k]? = some t := ⟨_, List.getElem?_eq_getElem hk⟩
  have f0 := h.fil t (List.mem_of_getElem? ht)
  have len : ∀ u : CtT, k < (L.set k u).length := fun u => by rw [List.length_set]; exact hk
  have ss : ∀ u v : CtT, (L.set k u).set k v = L.set k v := fun u v => List.set_set _
  obtain ⟨o0, e0, b0⟩ := put_one h hf (i := 0) (t' := (⟨c.va, t.1.di, t.1.ty, t.1.ch, t.1.dc, t.1.mi, t.1.se, t.1.ds, t.1.cu, t.1.fi⟩, t.2)) (u := .string c.va) ht (by omega) rfl f0
  have x1 := set_k (t := ((⟨c.va, t.1.di, t.1.ty, t.1.ch, t.1.dc, t.1.mi, t.1.se, t.1.ds, t.1.cu, t.1.fi⟩ : Ct), t.2)) hk
  obtain ⟨o1, e1, b1⟩ := put_one o0 e0 (i := 1) (t' := ((⟨c.va, c.di, t.1.ty, t.1.ch, t.1.dc, t.1.mi, t.1.se, t.1.ds, t.1.cu, t.1.fi⟩ : Ct), t.2)) (u := .bool c.di) x1 (by omega) rfl (o0.fil ((⟨c.va, t.1.di, t.1.ty, t.1.ch, t.1.dc, t.1.mi, t.1.se, t.1.ds, t.1.cu, t.1.fi⟩ : Ct), t.2) (List.mem_of_getElem? x1))
  rw [ss] at o1
  have x2 := set_k (t := ((⟨c.va, c.di, t.1.ty, t.1.ch, t.1.dc, t.1.mi, t.1.se, t.1.ds, t.1.cu, t.1.fi⟩ : Ct), t.2)) hk
  obtain ⟨o2, e2, b2⟩ := put_one o1 e1 (i := 2) (t' := ((⟨c.va, c.di, c.ty, t.1.ch, t.1.dc, t.1.mi, t.1.se, t.1.ds, t.1.cu, t.1.fi⟩ : Ct), t.2)) (u := .bool c.ty) x2 (by omega) rfl (o1.fil ((⟨c.va, c.di, t.1.ty, t.1.ch, t.1.dc, t.1.mi, t.1.se, t.1.ds, t.1.cu, t.1.fi⟩ : Ct), t.2) (List.mem_of_getElem? x2))
  rw [ss] at o2
  have x3 := set_k (t := ((⟨c.va, c.di, c.ty, t.1.ch, t.1.dc, t.1.mi, t.1.se, t.1.ds, t.1.cu, t.1.fi⟩ : Ct), t.2)) hk
  obtain ⟨o3, e3, b3⟩ := put_one o2 e2 (i := 3) (t' := ((⟨c.va, c.di, c.ty, c.ch, t.1.dc, t.1.mi, t.1.se, t.1.ds, t.1.cu, t.1.fi⟩ : Ct), t.2)) (u := .bool c.ch) x3 (by omega) rfl (o2.fil ((⟨c.va, c.di, c.ty, t.1.ch, t.1.dc, t.1.mi, t.1.se, t.1.ds, t.1.cu, t.1.fi⟩ : Ct), t.2) (List.mem_of_getElem? x3))
  rw [ss] at o3
  have x4 := set_k (t := ((⟨c.va, c.di, c.ty, c.ch, t.1.dc, t.1.mi, t.1.se, t.1.ds, t.1.cu, t.1.fi⟩ : Ct), t.2)) hk
  obtain ⟨o4, e4, b4⟩ := put_one o3 e3 (i := 4) (t' := ((⟨c.va, c.di, c.ty, c.ch, c.dc, t.1.mi, t.1.se, t.1.ds, t.1.cu, t.1.fi⟩ : Ct), t.2)) (u := .bool c.dc) x4 (by omega) rfl (o3.fil ((⟨c.va, c.di, c.ty, c.ch, t.1.dc, t.1.mi, t.1.se, t.1.ds, t.1.cu, t.1.fi⟩ : Ct), t.2) (List.mem_of_getElem? x4))
  rw [ss] at o4
  have x5 := set_k (t := ((⟨c.va, c.di, c.ty, c.ch, c.dc, t.1.mi, t.1.se, t.1.ds, t.1.cu, t.1.fi⟩ : Ct), t.2)) hk
  obtain ⟨o5, e5, b5⟩ := put_one o4 e4 (i := 5) (t' := ((⟨c.va, c.di, c.ty, c.ch, c.dc, c.mi, t.1.se, t.1.ds, t.1.cu, t.1.fi⟩ : Ct), t.2)) (u := .bool c.mi) x5 (by omega) rfl (o4.fil ((⟨c.va, c.di, c.ty, c.ch, c.dc, t.1.mi, t.1.se, t.1.ds, t.1.cu, t.1.fi⟩ : Ct), t.2) (List.mem_of_getElem? x5))
  rw [ss] at o5
  have x6 := set_k (t := ((⟨c.va, c.di, c.ty, c.ch, c.dc, c.mi, t.1.se, t.1.ds, t.1.cu, t.1.fi⟩ : Ct), t.2)) hk
  obtain ⟨o6, e6, b6⟩ := put_one o5 e5 (i := 6) (t' := ((⟨c.va, c.di, c.ty, c.ch, c.dc, c.mi, c.se, t.1.ds, t.1.cu, t.1.fi⟩ : Ct), t.2)) (u := .bool c.se) x6 (by omega) rfl (o5.fil ((⟨c.va, c.di, c.ty, c.ch, c.dc, c.mi, t.1.se, t.1.ds, t.1.cu, t.1.fi⟩ : Ct), t.2) (List.mem_of_getElem? x6))
  rw [ss] at o6
  have x7 := set_k (t := ((⟨c.va, c.di, c.ty, c.ch, c.dc, c.mi, c.se, t.1.ds, t.1.cu, t.1.fi⟩ : Ct), t.2)) hk
  obtain ⟨o7, e7, b7⟩ := put_one o6 e6 (i := 7) (t' := ((⟨c.va, c.di, c.ty, c.ch, c.dc, c.mi, c.se, c.ds, t.1.cu, t.1.fi⟩ : Ct), t.2)) (u := .bool c.ds) x7 (by omega) rfl (o6.fil ((⟨c.va, c.di, c.ty, c.ch, c.dc, c.mi, c.se, t.1.ds, t.1.cu, t.1.fi⟩ : Ct), t.2) (List.mem_of_getElem? x7))
  rw [ss] at o7
  have x8 := set_k (t := ((⟨c.va, c.di, c.ty, c.ch, c.dc, c.mi, c.se, c.ds, t.1.cu, t.1.fi⟩ : Ct), t.2)) hk
  obtain ⟨o8, e8, b8⟩ := put_one o7 e7 (i := 8) (t' := ((⟨c.va, c.di, c.ty, c.ch, c.dc, c.mi, c.se, c.ds, c.cu, t.1.fi⟩ : Ct), t.2)) (u := .string c.cu) x8 (by omega) rfl (o7.fil ((⟨c.va, c.di, c.ty, c.ch, c.dc, c.mi, c.se, c.ds, t.1.cu, t.1.fi⟩ : Ct), t.2) (List.mem_of_getElem? x8))
  rw [ss] at o8
  have x9 := set_k (t := ((⟨c.va, c.di, c.ty, c.ch, c.dc, c.mi, c.se, c.ds, c.cu, t.1.fi⟩ : Ct), t.2)) hk
  obtain ⟨o9, e9, b9⟩ := put_one o8 e8 (i := 9) (t' := (c, vf)) (u := vf) x9 (by omega) rfl e8.fil
  rw [ss] at o9
  exact ⟨o9, e9, b0.trans (b1.trans (b2.trans (b3.trans (b4.trans (b5.trans (b6.trans (b7.trans (b8.trans b9))))))))⟩
set_option maxHeartbeats 2000000 in
set_option maxRecDepth 100000 in
theorem entryOthers_walk (l : List Nd) (cs : List Ct) (vn vc : Value) (form : Int) (c : Ct) (vf : Value) (w : World) (hD : DocAt l cs vn vc w) (_ : (Lit.int .i64 form).wf = true) (hE : Ents c.fi vf w) (hB : SmallC cs) (hzc : SizedC [c]) (hsc : SmallC [c]) :
    Calls Try.prog 3 #[.agg #[vn, vc], .int .i64 form, ctV (c, vf)] w fun e w' => e = .returned (.bool true) ∧ Below w.heap.size w w' := by
  have hmax := hD.nodes.len
  have hfits := hD.nodes.fits
  have hsized := hD.nodes.sized
  obtain ⟨a1, cap1, rfl⟩ := hD.nodes.nodes.len
  obtain ⟨a2, cap2, rfl⟩ := hD.ctls.len
  obtain ⟨ae, cape, rfl⟩ := hE.len
  unfold ctV
  obtain ⟨hD1, hb1, hs1, c0, c1⟩ := doc_box (T := 25) hD
  have hE1 := hE.kept hb1
  go_enter Try.func3, Try.ntmps3
  go_wp2_with fail
  have hb2 := one_alloc (w := w.alloc (.cells #[.slice a1 l.length cap1, .slice a2 cs.length cap2] 25)) (.cells #[.string c.va, .bool c.di, .bool c.ty, .bool c.ch, .bool c.dc, .bool c.mi, .bool c.se, .bool c.ds, .string c.cu, .slice ae c.fi.length cape] 28)
  have hnc := Go.heap_alloc_new (w.alloc (.cells #[.slice a1 l.length cap1, .slice a2 cs.length cap2] 25)) (.cells #[.string c.va, .bool c.di, .bool c.ty, .bool c.ch, .bool c.dc, .bool c.mi, .bool c.se, .bool c.ds, .string c.cu, .slice ae c.fi.length cape] 28)
  have hs2 : ((w.alloc (.cells #[.slice a1 l.length cap1, .slice a2 cs.length cap2] 25)).alloc (.cells #[.string c.va, .bool c.di, .bool c.ty, .bool c.ch, .bool c.dc, .bool c.mi, .bool c.se, .bool c.ds, .string c.cu, .slice ae c.fi.length cape] 28)).heap.size = w.heap.size + 1 + 1 := by simp
  rw [hs1] at hnc
  have hD2 := hD1.kept hb2
  have d0 := cellK hb2 (by omega) c0
  have d1 := cellK hb2 (by omega) c1
  have hbw2 := bs hb1 hb2
  have hE2 := hE1.kept hb2
  clear hb1 hb2 hD1 c0 c1 hs1 hE1
  generalize World.alloc (World.alloc w _) _ = W2 at hD2 d0 d1 hbw2 hE2 hnc hs2 ⊢
  refine (wakes22_any _).mono ?_
  rintro e w3 ⟨rfl, hb3⟩
  have hD3 := hD2.kept hb3
  have e0 := cellK hb3 (by omega) d0
  have e1 := cellK hb3 (by omega) d1
  have hs3 := hb3.size
  go_wp2_with fail
  refine (lawCopied22_any l cs _ _ _ hD3).mono ?_
  rintro e w4 ⟨vn4, vc4, rfl, hO4, hb4⟩
  obtain ⟨a3, cap3, rfl⟩ := hO4.nodes.nodes.len
  obtain ⟨a4, cap4, rfl⟩ := hO4.ctls.len
  have hs4 := hb4.size
  go_wp2_with fail
  refine (entList_any l cs _ _ form (-1) hB _ hO4).mono ?_
  rintro e w5 ⟨va, rfl, hA, hb5⟩
  have hb25 := bs (bs hb3 hb4) hb5
  have hs5 := hb25.size
  have hbw5 := bs hbw2 hb25
  rcases eOf_any l cs form with hz | hz
  case inr =>
    rw [lOf_no hz] at hA
    obtain ⟨a5, cap5, rfl⟩ := hA.len
    have q1 : (eOf l cs form != 0) = true := by rw [bne, intNe hz]; rfl
    clear hz
    have hl : ([] : List Ent).length = 0 := rfl
    rw [hl]
    go_wp2_with fail
    go_ret
    exact ⟨rfl, hbw5⟩
  have hRP := (eOf_ok hz).1
  have HLL := Lib.hid (eOf_ok hz).2.1
  have hmx := hRP.max
  have HZ := Lib.hid hz
  rw [hz]
  have hlA := lOf_len (l := l) hB form (-1)
  obtain ⟨a5, cap5, rfl⟩ := hA.len
  have f0 := cellK hb25 (by omega) d0
  have f1 := cellK hb25 (by omega) d1
  have hn5 := blk_kept hb25 hnc
  have hD5 := hD2.kept hb25
  have hE5 := hE2.kept hb25
  have hF5 : Fil w5.heap.size c.fi (.slice ae c.fi.length cape) w5 := hE5.fil
  clear hz hb3 hb4 hb5 hD3 e0 e1 hO4 hb25 hbw2 hnc hD2 hE2 d0 d1
  go_wp2_with fail
  refine (lawCopied22_own l cs _ _ _ hD5).mono ?_
  rintro e w6 ⟨vn6, vc6, b3, L3, L, rfl, hL3, hL, hN6, hO6, hb6⟩
  obtain ⟨a6, cap6, rfl, _⟩ := own_form hN6.row
  obtain ⟨a7, cap7, rfl, _⟩ := own_form hO6.row
  have hl3 : L3.length = l.length := by have := congrArg List.length hL3.out; rwa [List.length_map] at this
  have hlL : L.length = cs.length := by have := congrArg List.length hL.out; rwa [List.length_map] at this
  rw [hl3, hlL]
  rw [hl3] at hN6
  rw [hlL] at hO6
  have hs6 := hb6.size
  have hx6 := Go.heap_alloc_new w6 (.cells #[.slice a6 l.length cap6, .slice a7 cs.length cap7] 25)
  have hb7 := one_alloc (w := w6) (.cells #[.slice a6 l.length cap6, .slice a7 cs.length cap7] 25)
  have hs7 : (w6.alloc (.cells #[.slice a6 l.length cap6, .slice a7 cs.length cap7] 25)).heap.size = w6.heap.size + 1 := by simp
  have hN7 := hN6.kept hb7
  have hO7 := hO6.kept hb7
  have hb57 := hb6.trans (hb7.mono hs6)
  have hF7 := hF5.kept hb57
  clear hb6 hb7 hN6 hO6
  have hpos : 0 < cs.length := by have := hRP.pos; have := HLL.out; omega
  obtain ⟨g, cpg, curg, hvg, hbg, hgg⟩ := hO7.blk (by intro e; rw [e] at hlL; simp at hlL; omega)
  rw [hlL] at hvg
  cases hvg
  clear curg hgg
  go_wp2_with fail
  generalize World.alloc w6 _ = W7 at hx6 hs7 hN7 hO7 hb57 hF7 ⊢
  generalize w6.heap.size = n7 at hx6 hs6 hs7 ⊢
  obtain ⟨x0, x1, _, _⟩ := doc2_of hx6
  have hg7 := hb57.size
  go_wp2_with fail
  go_loopw [32] (fun i wr => ∃ k : Nat, k ≤ l.length ∧ i = .int .i64 k ∧ (∃ L' : List CtT, Hid (L'.map (·.1) = othT l cs form c k) ∧ OC w5.heap.size L' (.slice (some ⟨g, 0, none⟩) cs.length cap7) wr) ∧ ON b3 L3 (.slice a6 l.length cap6) wr ∧ wr.heap[n7]? = some (.cells #[.slice a6 l.length cap6, .slice (some ⟨g, 0, none⟩) cs.length cap7] 25 (0, 0)) ∧ Fil w5.heap.size c.fi (.slice ae c.fi.length cape) wr ∧ Below w5.heap.size w5 wr) (fun i _ => l.length - (intOf i).toNat)
  case atStart => exact ⟨0, Nat.zero_le _, rfl, ⟨L, Lib.hid (by rw [othT_zero]; exact hL.out), hO7⟩, hN7, hx6, hF7, hb57⟩
  case round =>
    obtain ⟨k, hk, rfl, ⟨L', hLm, hO⟩, hN, hx, hF, hbel⟩ := hrel
    obtain ⟨y0, y1, _, _⟩ := doc2_of hx
    have hsz := hbel.size
    have hNd : Nodes l (.slice a6 l.length cap6) wr := by have := hN.nodes; rwa [hL3.out] at this
    by_cases hlt : k < l.length
    · have hrf := refForm_any l _ (k : Nat) hmax hfits wr hNd
      have hff := formF_Form ((rightB_iff l).2 hRP) (k : Nat)
      obtain ⟨z1, z2⟩ := hRP.vals _ (List.getElem_mem hlt)
      have z3 := one_vals (hRP.node k _ (List.getElem?_eq_getElem hlt)).1
      have hk0 : (0 : Int) ≤ (k : Int) := by omega
      have hk1 : (k : Int) < (l.length : Int) := by omega
      by_cases hfo : formF l (k : Nat) = form
      · have HF := Lib.hid (hff.trans hfo)
        have hqf : (form != form) = false := bne_self_eq_false form
        have hT := Lib.hid (othT_no (l := l) (cs := cs) (form := form) (c := c) (k := k) (fun h => h.1 hfo))
        clear hfo hff
        go_wp2_with fail
        refine hrf.mono ?_
        rintro e w8 ⟨rfl, hb8⟩
        rw [HF.out]
        go_wp2_with fail
        go_roundw
        case rel => exact ⟨k + 1, by omega, by go_num, ⟨L', by rw [hT.out]; exact hLm, hO.kept hb8⟩, hN.kept hb8, blk_kept hb8 hx, hF.kept hb8, hbel.trans (hb8.mono hsz)⟩
        case measure => simp [intOf]; omega
      · have hq0 := intNe hfo
        rw [← hff] at hq0
        have HQ := Lib.hid hq0
        clear hff hq0
        obtain ⟨b, o, cap', wa, wk, hv, hb, e0, e1, e2, e3, e4, hat, hks⟩ := hNd.at hlt
        cases hv
        have hkt := kOf_at hlt
        obtain ⟨nd, hnd⟩ : ∃ nd, l[k] = nd := ⟨_, rfl⟩
        rw [hnd] at e0 e1 e3 hat hks z1 z2 z3 hkt
        clear hnd
        by_cases h32 : kindOf nd = 32
        · have hT := Lib.hid (othT_no (l := l) (cs := cs) (form := form) (c := c) (k := k) (fun h => h.2 (hkt.trans h32)))
          have H32 := Lib.hid h32
          clear h32 hkt hfo
          go_wp2_with fail
          refine hrf.mono ?_
          rintro e w8 ⟨rfl, hb8⟩
          have hq := HQ.out
          have hq2 : (FormF l (k : Nat) != form) = true := by rw [bne, hq]; rfl
          have u0 := (doc2_of (blk_kept hb8 hx)).1
          have f0' := cellK hb8 hb e0
          have f1' := cellK hb8 hb e1
          have f2' := cellK hb8 hb e2
          have f3' := cellK hb8 hb e3
          have f4' := cellK hb8 hb e4
          go_wp2_with fail
          refine (refOf11_any nd wa wk z1 (fun a ha => Nat.le_trans (z3 a ha) (by omega)) _ (hat.kept hb8)).mono ?_
          rintro e w9 ⟨rfl, hb9⟩
          rw [H32.out]
          have hb89 := bs hb8 hb9
          go_wp2_with fail
          go_roundw
          case rel => exact ⟨k + 1, by omega, by go_num, ⟨L', by rw [hT.out]; exact hLm, hO.kept hb89⟩, hN.kept hb89, blk_kept hb89 hx, hF.kept hb89, hbel.trans (hb89.mono hsz)⟩
          case measure => simp [intOf]; omega
        · have hT := Lib.hid (othT_yes (l := l) (cs := cs) (form := form) (c := c) (k := k) ⟨hfo, fun h => h32 (hkt.symm.trans h)⟩)
          have H32 := Lib.hid (intNe h32)
          clear h32 hkt hfo
          have hLl : L'.length = cs.length := by
            have := congrArg List.length hLm.out
            rw [List.length_map] at this
            rw [this]
            unfold othT
            rw [List.length_mapIdx]
          have hkL : k < L'.length := by have := HLL.out; omega
          have hkc : (k : Int) < (cs.length : Int) := by have := HLL.out; omega
          have hcn : w.heap.size + 1 < w5.heap.size := by omega
          go_wp2_with fail
          refine hrf.mono ?_
          rintro e w8 ⟨rfl, hb8⟩
          have hq := HQ.out
          have hq2 : (FormF l (k : Nat) != form) = true := by rw [bne, hq]; rfl
          have u0 := (doc2_of (blk_kept hb8 hx)).1
          have f0' := cellK hb8 hb e0
          have f1' := cellK hb8 hb e1
          have f2' := cellK hb8 hb e2
          have f3' := cellK hb8 hb e3
          have f4' := cellK hb8 hb e4
          go_wp2_with fail
          refine (refOf11_any nd wa wk z1 (fun a ha => Nat.le_trans (z3 a ha) (by omega)) _ (hat.kept hb8)).mono ?_
          rintro e w9 ⟨rfl, hb9⟩
          have hq3 := H32.out
          have hq4 : (kindOf nd != 32) = true := by rw [bne, hq3]; rfl
          have hb89 := bs hb8 hb9
          have hx9 := blk_kept hb89 hx
          obtain ⟨v0, v1, _, _⟩ := doc2_of hx9
          have hO9 := hO.kept hb89
          have hN9 := hN.kept hb89
          have hF9 := hF.kept hb89
          have hbr9 := hbel.trans (hb89.mono hsz)
          have hc9 := (hbr9.block _ hcn).trans hn5
          clear hb8 hb9 hb89 hq hq2 f0' f1' f2' f3' f4' e0 e1 e2 e3 e4 u0 y0 y1
          have m0 : w9.cell? ⟨w.heap.size + 1, 0, none⟩ = some (.string c.va) := by simp only [World.cell?, hc9]; rfl
          have m1 : w9.cell? ⟨w.heap.size + 1, 1, none⟩ = some (.bool c.di) := by simp only [World.cell?, hc9]; rfl
          have m2 : w9.cell? ⟨w.heap.size + 1, 2, none⟩ = some (.bool c.ty) := by simp only [World.cell?, hc9]; rfl
          have m3 : w9.cell? ⟨w.heap.size + 1, 3, none⟩ = some (.bool c.ch) := by simp only [World.cell?, hc9]; rfl
          have m4 : w9.cell? ⟨w.heap.size + 1, 4, none⟩ = some (.bool c.dc) := by simp only [World.cell?, hc9]; rfl
          have m5 : w9.cell? ⟨w.heap.size + 1, 5, none⟩ = some (.bool c.mi) := by simp only [World.cell?, hc9]; rfl
          have m6 : w9.cell? ⟨w.heap.size + 1, 6, none⟩ = some (.bool c.se) := by simp only [World.cell?, hc9]; rfl
          have m7 : w9.cell? ⟨w.heap.size + 1, 7, none⟩ = some (.bool c.ds) := by simp only [World.cell?, hc9]; rfl
          have m8 : w9.cell? ⟨w.heap.size + 1, 8, none⟩ = some (.string c.cu) := by simp only [World.cell?, hc9]; rfl
          have m9 : w9.cell? ⟨w.heap.size + 1, 9, none⟩ = some (.slice ae c.fi.length cape) := by simp only [World.cell?, hc9]; rfl
          obtain ⟨g', cpg', curg, hvg, hbg', hgg⟩ := hO9.blk (by intro e; rw [e] at hkL; simp at hkL)
          rw [hLl] at hvg
          cases hvg
          obtain ⟨⟨p0, r0⟩, ⟨p1, r1⟩, ⟨p2, r2⟩, ⟨p3, r3⟩, ⟨p4, r4⟩, ⟨p5, r5⟩, ⟨p6, r6⟩, ⟨p7, r7⟩, ⟨p8, r8⟩, ⟨p9, r9⟩⟩ := oc_cells hO9 hkL
          have nf : ∀ i, w9.frozen? ⟨g, i, none⟩ = false := fun i => cells_not_frozen hgg
          clear hx hO hN hF hrf hNd hx6 hgg x0 x1
          go_wp2_with fail
          go_roundw
          case rel =>
            obtain ⟨q1, q2, q3⟩ := hO9.put hkL c (.slice ae c.fi.length cape) ⟨hF9, hN9, hx9⟩ _ rfl
            exact ⟨k + 1, by omega, by go_num, ⟨_, Lib.hid (by rw [hT.out, List.map_set, hLm.out]), q1⟩, q2.on, q2.box, q2.fil, hbr9.trans q3⟩
          case measure => simp [intOf]; omega
    · obtain rfl : k = l.length := by omega
      have hth := Lib.hid (hLm.out.trans (othT_all HLL.out))
      have hCt : Ctls (othF l cs form c) (.slice (some ⟨g, 0, none⟩) cs.length cap7) wr := by
        have := hO.ctls
        rwa [hth.out] at this
      have hDx : DocAt l (othF l cs form c) (.slice a6 l.length cap6) (.slice (some ⟨g, 0, none⟩) cs.length cap7) wr := ⟨⟨hNd, hfits, hsized⟩, hCt, oth_sized hD.sz hzc⟩
      have hBx := oth_small (l := l) (form := form) hB hsc
      have hrun := entList_any l (othF l cs form c) _ _ form (-1) hBx wr hDx
      rw [eOf_oth, lOf_oth] at hrun
      go_wp2_with fail
      refine hrun.mono ?_
      rintro e w8 ⟨vb, rfl, hBv, hb8⟩
      rw [HZ.out]
      have hA8 := (hA.kept hbel).kept hb8
      go_wp2_with fail
      refine (sameFiles_yes _ _ _ _ hA8 hBv (by omega)).mono ?_
      rintro e w9 ⟨rfl, hb9⟩
      go_wp2_with fail
      go_ret
      exact ⟨rfl, bs hbw5 (hbel.trans ((bs hb8 hb9).mono hsz))⟩
end Go.Proofs.Ytafbghlldlconaa

/-
  THE LAST STEP OF A LAW'S ROW where of the world behind the call 'Below' alone is known.
-/
namespace Go.Proofs.Ytafbghlldlconaa
set_option linter.unusedVariables false
set_option linter.unusedSimpArgs false
open Go.RowKit Go.WideShapes Go.ChangeShapes
section
variable {H : Type} {enc : TypeId × Value → H} {P : Program}
theorem post_of_below {f : Func} {s : ChangeSpec} {apart fresh handsOn again : Bool} {W W' : World} {args : Array Value} {v : Value} {ds gs : List (DataW H)} {before pa pv : List MemPlace}
    (hW : DataW.Whole enc P f.params.toList s.vars apart W args.toList ds gs before)
    (hres : ∀ (b : Nat) (sp : Nat → Bool) (hd : Bool), DataW.TrodAll enc P W' b sp hd f.resultTypes.toList (v.resultList f.resultTypes.size) (s.fn H (ds ++ gs)).results [])
    (hargs : ∀ sp : Nat → Bool, (∀ p ∈ before, sp p.block = true) → DataW.TrodAll enc P W' 0 sp true f.params.toList args.toList (s.fn H (ds ++ gs)).args pa)
    (hvars : ∀ sp : Nat → Bool, (∀ p ∈ before, sp p.block = true) → DataW.TrodVars enc P W' sp s.vars (s.fn H (ds ++ gs)).vars pv)
    (hps : before = pa ++ pv) (hb : Below W.heap.size W W')
    (hok : ∀ (j : Nat) (t : TypeId) (r : Value), f.resultTypes[j]? = some t → (v.resultList f.resultTypes.size)[j]? = some r → Value.okWide P W' .any 0 t r) :
    s.post enc P f apart fresh handsOn again W args v W' := by
  have hlt : ∀ p ∈ before, p.block < W.heap.size := fun p hp => hW.lt p hp
  have hold : ∀ p ∈ before, (fun b => decide (b < W.heap.size)) p.block = true := fun p hp => by simpa using hlt p hp
  refine ⟨ds, gs, before, [], pa, pv, hW, hres _ _ _, hargs _ hold, hvars _ hold, World.keptBut_mono (fun p hp => ⟨hp, ?_⟩) (hb.frame (· ∈ before)), fun _ => ?_⟩
  · rw [hps, List.mem_append] at hp
    exact Or.inr hp
  · obtain ⟨_, _, _, _, _, hz, hn⟩ := hW
    refine ⟨hok, _, _, ([] ++ pa) ++ pv, ⟨[] ++ pa, pv, trodAll_append (hargs _ (fun _ _ => rfl)) (hres _ _ _), hvars _ (fun _ _ => rfl), rfl, ?_, ?_⟩, ?_⟩
    · intro b off hp
      have hin : MemPlace.cell b off ∈ before := by rw [hps]; simpa using hp
      rw [hb.frozen (hlt _ hin)]
      exact hz b off hin
    · intro ha
      have := hn ha
      rw [hps] at this
      simpa using this
    · intro p hp _
      rw [hps]
      simpa using hp
end
end Go.Proofs.Ytafbghlldlconaa

/-
  WHAT THE ARGUMENTS READ BEHIND A CALL that has kept all older blocks: what they read before, whatever their types.
-/
namespace Go.Proofs.Ytafbghlldlconaa
set_option linter.unusedVariables false
set_option linter.unusedSimpArgs false
open Go.RowKit Go.WideShapes Go.ChangeShapes
section
variable {H : Type} {enc : TypeId × Value → H} {P : Program}
theorem same_below {W W' : World} (hb : Below W.heap.size W W') {p : MemPlace} (hp : p.block < W.heap.size) : W.sameAt W' p := by
  cases p with
  | cell b off =>
    show W'.cell? _ = W.cell? _
    have : W'.heap[b]? = W.heap[b]? := hb.block b hp
    simp only [World.cell?, this]
  | map b => exact hb.block b hp
theorem args_stay {T : TypeId → Prop} (K : Kids P T) (hz : ∀ {t e : TypeId}, T t → P.underlying t = some (.slice e) → 0 < P.cellsOf e) {W W' : World} {sp : Nat → Bool} (hb : Below W.heap.size W W') :
    ∀ {ts : List TypeId} {vs : List Value} {ds : List (DataW H)} {ps : List MemPlace}, (∀ t ∈ ts, T t) → DataW.TrodAll enc P W 0 (fun _ => true) true ts vs ds ps → (∀ p ∈ ps, p.block < W.heap.size) → (∀ p ∈ ps, sp p.block = true) → DataW.TrodAll enc P W' 0 sp true ts vs ds ps
  | [], [], [], _, _, h, _, _ => h
  | _ :: _, _ :: _, _ :: _, _, hT, ⟨p, q, ⟨n, h1⟩, h2, e⟩, hlt, hs =>
    ⟨p, q, ⟨n, DataW.trod_stays K hz (fun h => by cases h) (hT _ (List.mem_cons.2 (Or.inl rfl))) h1
        (fun x hx => same_below hb (hlt x (by rw [e]; exact List.mem_append_left _ hx))) (fun x hx => hs x (by rw [e]; exact List.mem_append_left _ hx))⟩,
      args_stay K hz hb (fun t ht => hT t (List.mem_cons.2 (Or.inr ht))) h2 (fun x hx => hlt x (by rw [e]; exact List.mem_append_right _ hx)) (fun x hx => hs x (by rw [e]; exact List.mem_append_right _ hx)), e⟩
end
end Go.Proofs.Ytafbghlldlconaa

/-
  OPENING ARGUMENTS: helpers; what arguments of any type read behind the call.
-/
namespace Go.Proofs.Ytafbghlldlconaa
set_option linter.unusedVariables false
set_option linter.unusedSimpArgs false
open Go.RowKit Go.ChangeShapes Go.WideShapes Go.Deep

theorem list_of {α : Type} {P : Nat → α → Prop} : ∀ n, (∀ i, i < n → ∃ x, P i x) → ∃ l : List α, l.length = n ∧ ∀ i x, l[i]? = some x → P i x
  | 0, _ => ⟨[], rfl, fun i x h => by simp at h⟩
  | n + 1, h => by
    obtain ⟨l, hl, hp⟩ := list_of n (fun i hi => h i (by omega))
    obtain ⟨x, hx⟩ := h n (by omega)
    refine ⟨l ++ [x], by simp [hl], fun i y hy => ?_⟩
    by_cases e : i < l.length
    · rw [List.getElem?_append_left e] at hy; exact hp i y hy
    · rw [List.getElem?_append_right (by omega)] at hy
      have : i - l.length = 0 := by
        have := (List.getElem?_eq_some_iff.1 hy).1
        simp at this; exact this
      rw [this] at hy
      simp at hy
      obtain rfl : i = n := by omega
      rw [← hy]; exact hx
theorem spot_none {w : World} {a : Addr} {k : Nat} {v : Value} (h : w.cell? (a.add k) = some v) (hk : k = 0) : a.spot = none ∧ a.block < w.heap.size := by
  subst hk
  have e : a.add 0 = a := by simp [Addr.add]
  rw [e] at h
  simp only [World.cell?] at h
  cases hb : w.heap[a.block]? with
  | none => rw [hb] at h; cases h
  | some o =>
    have hlt := (Array.getElem?_eq_some_iff.1 hb).1
    rw [hb] at h
    cases o with
    | cells c t f =>
      simp only at h
      cases hs : a.spot with
      | none => exact ⟨rfl, hlt⟩
      | some z => rw [hs] at h; simp at h
    | _ => simp at h

section
variable {H : Type} {enc : TypeId × Value → H} {w : World} {spare : Nat → Bool} {held : Bool}
theorem kids_all : Kids Try.prog (· < Try.prog.types.size) := kids_rows (by kernel_rfl) (by kernel_rfl)
theorem full_all : ∀ t e, t < Try.prog.types.size → Try.prog.underlying t = some (.slice e) → 0 < Try.prog.cellsOf e := slices_full_of Try.prog (by kernel_rfl)
/-- what the arguments read behind the call -/
theorem args_again {W W' : World} {ts : List TypeId} {vs : List Value} {ds : List (DataW H)} {ps : List MemPlace} (hts : (ts.all fun t => decide (t < Try.prog.types.size)) = true) (hb : Below W.heap.size W W')
    (h : DataW.TrodAll enc Try.prog W 0 (fun _ => true) true ts vs ds ps) (hlt : ∀ p ∈ ps, p.block < W.heap.size) (sp : Nat → Bool) (hs : ∀ p ∈ ps, sp p.block = true) : DataW.TrodAll enc Try.prog W' 0 sp true ts vs ds ps :=
  args_stay kids_all (fun ht hu => full_all _ _ ht hu) hb (fun t ht => of_decide_eq_true (List.all_eq_true.1 hts t ht)) h hlt hs
end
end Go.Proofs.Ytafbghlldlconaa
