import Derived.Test.YtfhgnnlhacjnkaaDoorPart11
import Derived.Test.YtfhgnnlhacjnkaaDoorPart2
/-
  ref01.Valid: the walk.
-/
namespace Go.Proofs.YtfhgnnlhacjnkaaDoor
set_option linter.unusedVariables false
set_option linter.unusedSimpArgs false
open Go.RowKit PT

set_option maxHeartbeats 1000000 in
set_option maxRecDepth 100000 in
theorem refValid_any (s : ByteArray) (hs : s.size ≤ 1000000) (w : World) :
    Calls Tryd.prog 15 #[.string s] w fun e w' => e = .returned (.bool (Lib.validD s.data.toList)) ∧ w = w' := by
  go_enter Tryd.func15, Tryd.ntmps15
  go_wp2_with fail
  go_loop [3] (fun i => ∃ k : Nat, k ≤ s.size ∧ i = .int .i64 k ∧ Hid (Lib.validD (s.data.toList.drop k) = Lib.validD s.data.toList)) (fun i => s.size - (intOf i).toNat)
  case atStart => exact ⟨0, Nat.zero_le _, rfl, rfl⟩
  case round =>
    obtain ⟨k, hk, rfl, hV⟩ := hrel
    by_cases hlt : k < s.size
    · have hle := sgn_le s k hlt
      go_wp2_with fail
      refine (sign_any s k hlt hs _).mono ?_
      rintro e w' ⟨rfl, rfl⟩
      by_cases h0 : (sgn s k).1 = 0
      · have hB := Lib.hid (valid_bad s k hlt h0)
        rw [h0]
        clear h0
        go_wp2_with fail
        go_ret
        exact ⟨ret_bool (by rw [← hV.out, hB.out]), rfl⟩
      · have hB := Lib.hid (valid_ok s k hlt h0)
        have h0' : (((sgn s k).1 : Int) == 0) = false := intNe (by omega)
        have hpos : 0 < (sgn s k).1 := by omega
        generalize (sgn s k).1 = q at *
        clear h0
        go_wp2_with fail
        go_round
        case rel => exact ⟨k + q, by omega, by go_num, hB.out.symm.trans hV.out⟩
        case measure => simp [intOf]; omega
    · obtain rfl : k = s.size := by omega
      have hE : Hid (Lib.validD s.data.toList = true) := by
        have := hV.out
        rw [List.drop_eq_nil_of_le (by simp)] at this
        exact this.symm
      go_wp2_with fail
      go_ret
      exact ⟨ret_bool hE.out.symm, rfl⟩

end Go.Proofs.YtfhgnnlhacjnkaaDoor

/-
  What a pattern fits, by the document: ref09.all, and all depths; ref09.Right, Fits: the walks.
-/
namespace Go.Proofs.YtfhgnnlhacjnkaaDoor
set_option linter.unusedVariables false
set_option linter.unusedSimpArgs false
open Go.RowKit PT

/-- the rows behind a bar -/
def tailG (kk : Nat) (t : List Nat) (a : List Bool) (o : List Bool) (d : List Nat) : List Bool := match d with
  | [] => o
  | c :: r2 => if c = 124 then (match rowsF (atomK kk) r2 with
    | none => o
    | some (rs2, _) => rs2.foldl (fun o r => orL o (rowL r t a)) o) else o
theorem none_or {a x : List Bool} (h : x.length = a.length) : orL (noneL a) x = x := by
  have hn : (noneL a).length = a.length := by unfold noneL; rw [List.length_map]
  exact ext_getD (by rw [orL_len (by rw [hn, h]), hn, h]) fun i => by rw [orL_get (by rw [hn, h]), noneL_get, Bool.false_or]
theorem rowL_len {kk k : Nat} {l : List Nat} {ps : List Pce} {r : List Nat} (h : rowF (atomK kk) (l.drop k) = some (ps, r)) (t : List Nat) {a : List Bool} (ha : a.length = t.length + 1) : (rowL ps t a).length = t.length + 1 :=
  (rowL_adds fun p hp => rowG_adds (atomK_adds kk) _ _ _ _ h p hp t).len a ha
theorem rwR_of {kk : Nat} (hkk : kk ≤ 8) {l : List Nat} {ps : List Pce} {r : List Nat} (h : rowF (atomK kk) l = some (ps, r)) : rwR 8 l = some r := by
  unfold rwR
  rw [rowF_mono hkk h]
  rfl
theorem rowsF_first {kk : Nat} {l : List Nat} {rs : List (List Pce)} {r : List Nat} (h : rowsF (atomK kk) l = some (rs, r)) : ∃ ps r1, rowF (atomK kk) l = some (ps, r1) ∧ (∀ r2, r1 = 124 :: r2 → ∃ x, rowsF (atomK kk) r2 = some x) ∧ ∀ (t : List Nat) (a : List Bool), (∀ o : List Bool, rs.foldl (fun o r => orL o (rowL r t a)) o = tailG kk t a (orL o (rowL ps t a)) r1) := by
  rw [rowsF_eq (atomK_len kk)] at h
  cases hr : rowF (atomK kk) l with
  | none => rw [hr] at h; cases h
  | some q =>
    obtain ⟨ps, r1⟩ := q
    rw [hr] at h
    simp only at h
    refine ⟨ps, r1, rfl, ?_, ?_⟩
    · rintro r2 rfl
      simp only [if_true] at h
      cases h2 : rowsF (atomK kk) r2 with
      | none => rw [h2] at h; cases h
      | some x => exact ⟨x, rfl⟩
    · intro t a o
      cases r1 with
      | nil => cases h; rfl
      | cons c r2 =>
        simp only at h
        unfold tailG
        simp only
        by_cases hc : c = 124
        · rw [if_pos hc] at h ⊢
          cases h2 : rowsF (atomK kk) r2 with
          | none => rw [h2] at h; cases h
          | some x =>
            obtain ⟨rs2, r3⟩ := x
            rw [h2] at h
            simp only [Option.some.injEq, Prod.mk.injEq] at h
            rw [← h.1]
            rfl
        · rw [if_neg hc] at h ⊢
          cases h
          rfl
set_option maxHeartbeats 4000000 in
set_option maxRecDepth 100000 in
theorem all_of (l : List Nat) (v : Value) (t : List Nat) (vt : Value) (hl : l.length ≤ 1000000) (ht : t.length ≤ 90000) (kk : Nat) (hkk : kk ≤ 8) (hone : OneRowOk l v t vt kk) : AllOk l v t vt kk := by
  intro k0 rs r hk0 hrows a va hla w hE hA
  have hEE := Lib.hid hE
  have hAA := Lib.hid hA
  replace hone := Lib.hid hone
  obtain ⟨ps, r1, hrow, hbar, hfold⟩ := rowsF_first hrows
  have hG := Lib.hid (show grpL rs t a = tailG kk t a (rowL ps t a) r1 by
    unfold grpL
    rw [hfold t a (noneL a), none_or (by rw [rowL_len hrow t hla, hla])])
  have hl1 := rowL_len hrow t hla
  obtain ⟨n0, m1, m2, m3⟩ := drop_suf (rowF_suf hrow) hk0
  have hrE := Lib.hid (show endV l.length (rwR 8 (l.drop k0)) = (n0 : Int) by rw [rwR_of hkk hrow]; exact endV_at m2)
  have hla0 := Lib.hid hla
  have hrow0 := Lib.hid hrow
  have hbar0 := Lib.hid hbar
  have hn0 : n0 ≤ l.length := by omega
  have hm3 := Lib.hid m3
  have hl10 := Lib.hid hl1
  clear hrow hla hfold hrows hbar m1 m2 m3 hl1
  obtain ⟨pa, pcap, rfl⟩ := hE.p.len
  have h8 := Lib.hid (show ∀ (j : Nat), j ≤ l.length → ∀ (w : World), Sg .i64 l (.slice pa l.length pcap) w → Calls Tryd.prog 23 #[.slice pa l.length pcap, .int .i64 j, .int .i64 0] w fun e w' => e = .returned (.int .i64 (endV l.length (rwR 8 (l.drop j)))) ∧ Below w.heap.size w w' from fun j hj w hS => (ref_ok l _ hl 8).2.1 0 rfl j hj w hS)
  go_enter Tryd.func19, Tryd.ntmps19
  go_wp2_with fail
  refine (hone.out k0 ps r1 hk0 hrow0.out a va hla0.out _ hEE.out hAA.out).mono ?_
  rintro e w1 ⟨vo, rfl, hB1, hb1⟩
  have hE1 := hEE.out.kept hb1
  go_wp2_with fail
  refine (h8.out k0 hk0 _ hE1.p).mono ?_
  rintro e w2 ⟨rfl, hb2⟩
  rw [hrE.out]
  have hbl2 := bs hb1 hb2
  have hB2 := hB1.kept hb2
  go_wp2_with fail
  go_loopw [9, 10] (fun vf i wr => ∃ (n : Nat) (O : List Bool), n ≤ l.length ∧ i = .int .i64 n ∧ Hid (O.length = t.length + 1) ∧ Bl O vf wr ∧ Below w.heap.size w wr ∧ Hid (∀ r2, l.drop n = 124 :: r2 → ∃ x, rowsF (atomK kk) r2 = some x) ∧ Hid (grpL rs t a = tailG kk t a O (l.drop n))) (fun _ i _ => l.length - (intOf i).toNat)
  case atStart => exact ⟨n0, rowL ps t a, hn0, rfl, hl10, hB2, hbl2, Lib.hid (by rw [hm3.out]; exact hbar0.out), Lib.hid (by rw [hm3.out]; exact hG.out)⟩
  case round =>
    obtain ⟨n, O, hn, rfl, hOl, hBO, hbel, hbr, hres⟩ := hrel
    have hsz := hbel.size
    have hEr := hEE.out.kept hbel
    by_cases hlt : n < l.length
    case neg =>
      have q1 : decide ((n : Int) < (l.length : Int)) = false := decide_eq_false (by omega)
      have hfin := hBO
      rw [show O = grpL rs t a by rw [hres.out, List.drop_eq_nil_of_le (by omega)]; rfl] at hfin
      replace hfin := Lib.hid hfin
      go_wp2_with fail
      go_ret
      exact ⟨_, rfl, hfin.out, hbel⟩
    have q1 : (n : Int) < (l.length : Int) := by omega
    obtain ⟨b, o, cap', hv, hb, hc⟩ := hEr.p.at (by omega)
    cases hv
    have cj := hc n hlt
    clear hc
    have hd := Lib.hid (drop_at hlt)
    by_cases h124 : l[n] = 124
    case neg =>
      have q2 : ((l[n] : Int) == 124) = false := natEq_no h124
      have hfin := hBO
      rw [show O = grpL rs t a by rw [hres.out, hd.out]; unfold tailG; simp only; rw [if_neg h124]] at hfin
      replace hfin := Lib.hid hfin
      clear h124
      generalize l[n] = c at cj q2
      go_wp2_with fail
      go_ret
      exact ⟨_, rfl, hfin.out, hbel⟩
    have q2 : ((l[n] : Int) == 124) = true := natEq_yes h124
    obtain ⟨x, hx⟩ := hbr.out (l.drop (n + 1)) (by rw [hd.out, h124])
    obtain ⟨rs2, r3⟩ := x
    have hG2 := Lib.hid (show grpL rs t a = rs2.foldl (fun o r => orL o (rowL r t a)) O by
      rw [hres.out, hd.out]
      unfold tailG
      simp only
      rw [if_pos h124, hx])
    obtain ⟨ps2, r4, hrow2, hbar2, hfold2⟩ := rowsF_first hx
    have hG3 := Lib.hid (show grpL rs t a = tailG kk t a (orL O (rowL ps2 t a)) r4 by rw [hG2.out]; exact hfold2 t a O)
    have hl2 := Lib.hid (rowL_len hrow2 t hla0.out)
    obtain ⟨n2, m1, m2, m3⟩ := drop_suf (rowF_suf hrow2) (by omega)
    have hrE2 := Lib.hid (show endV l.length (rwR 8 (l.drop (n + 1))) = (n2 : Int) by rw [rwR_of hkk hrow2]; exact endV_at m2)
    have hrow3 := Lib.hid hrow2
    have hbar3 := Lib.hid hbar2
    have hm4 := Lib.hid m3
    have hn2 : n2 ≤ l.length := by omega
    clear h124 hx hrow2 hbar2 hfold2 m2 m3
    generalize l[n] = c at cj q2
    go_wp2_with fail
    refine (hone.out (n + 1) ps2 r4 (by omega) hrow3.out a va hla0.out _ hEr (hAA.out.kept hbel)).mono ?_
    rintro e w3 ⟨vo2, rfl, hB3, hb3⟩
    have hbl3 := hbel.trans (hb3.mono hsz)
    have hBO3 := hBO.kept hb3
    go_wp2_with fail
    refine (join_any _ _ _ _ (hOl.out.trans hl2.out.symm) (by rw [hOl.out]; omega) _ hBO3 hB3).mono ?_
    rintro e w4 ⟨vj, rfl, hB4, hb4⟩
    have hbl4 := hbl3.trans (hb4.mono hbl3.size)
    have hE4 := hEE.out.kept hbl4
    go_wp2_with fail
    refine (h8.out (n + 1) (by omega) _ hE4.p).mono ?_
    rintro e w5 ⟨rfl, hb5⟩
    rw [hrE2.out]
    have hbl5 := hbl4.trans (hb5.mono hbl4.size)
    have hB5 := hB4.kept hb5
    go_wp2_with fail
    go_roundw
    case rel => exact ⟨n2, _, hn2, rfl, Lib.hid ((orL_len (hOl.out.trans hl2.out.symm)).trans hOl.out), hB5, hbl5, Lib.hid (by rw [hm4.out]; exact hbar3.out), Lib.hid (by rw [hm4.out]; exact hG3.out)⟩
    case measure => simp [intOf]; omega
/-- at each depth -/
theorem all_ok (l : List Nat) (v : Value) (t : List Nat) (vt : Value) (hl : l.length ≤ 1000000) (ht : t.length ≤ 90000) : ∀ kk, kk ≤ 8 → AllOk l v t vt kk
  | 0, h => all_of l v t vt hl ht 0 h (oneRow_of l v t vt hl ht 0 h (once_of l v t vt hl ht 0 (fun m h => by omega)))
  | kk + 1, h => all_of l v t vt hl ht (kk + 1) h (oneRow_of l v t vt hl ht (kk + 1) h (once_of l v t vt hl ht (kk + 1) (fun m e => by
    have e2 : m = kk := by omega
    rw [e2]
    exact all_ok l v t vt hl ht kk (by omega))))
theorem sgV_eq : sgV = fun (x : Nat) => Value.int .i64 (x : Int) := rfl
set_option maxHeartbeats 1000000 in
set_option maxRecDepth 100000 in
theorem refRight9_any (s : ByteArray) (hs : s.size ≤ maxLen) (w : World) :
    Calls Tryd.prog 10 #[.string s] w fun e w' => e = .returned (.bool (rightF s.data.toList)) ∧ Below w.heap.size w w' := by
  go_enter Tryd.func10, Tryd.ntmps10
  by_cases h200 : 200 < s.size
  · have q1 : (200 : Int) < (s.size : Int) := by omega
    have hR := Lib.hid (show rightF s.data.toList = false by unfold rightF; rw [decide_eq_false (by rw [size_list]; omega), Bool.false_and])
    go_wp2_with fail
    go_ret
    exact ⟨ret_bool hR.out.symm, Below.refl _ _⟩
  have q1 : decide ((200 : Int) < (s.size : Int)) = false := decide_eq_false (by omega)
  go_wp2_with fail
  refine (refValid_any s (by omega) _).mono ?_
  rintro e w' ⟨rfl, rfl⟩
  cases hv : Lib.validD s.data.toList
  · have hR := Lib.hid (show rightF s.data.toList = false by unfold rightF; rw [hv, Bool.false_and, Bool.and_false])
    clear hv
    go_wp2_with fail
    go_ret
    exact ⟨ret_bool hR.out.symm, Below.refl _ _⟩
  have hR := Lib.hid (show rightF s.data.toList = (patP (sigs s.data.toList)).isSome by unfold rightF; rw [hv, decide_eq_true (by rw [size_list]; omega), Bool.true_and, Bool.true_and])
  clear hv
  go_wp2_with fail
  refine (signs_any s (by omega) _).mono ?_
  rintro e w1 ⟨vo, rfl, hov, hb1⟩
  have hS := Sg.of_ov hov
  have hlen : (sigs s.data.toList).length ≤ 200 := by
    have := sigs_len _ s.data.toList (Nat.le_refl _)
    rw [size_list] at this
    omega
  have hI := Lib.hid (patP_iff (sigs s.data.toList))
  obtain ⟨l, hl⟩ : ∃ l, sigs s.data.toList = l := ⟨_, rfl⟩
  rw [hl] at hS hlen hI hR
  clear hov hl
  obtain ⟨a, cap, rfl⟩ := hS.len
  go_wp2_with fail
  refine ((ref_ok l _ (by omega) 8).2.2 0 rfl 0 (Nat.zero_le _) _ hS).mono ?_
  rintro e w2 ⟨rfl, hb2⟩
  have hbl := bs hb1 hb2
  rw [List.drop_zero]
  cases hr : rowsF (atomK 8) l with
  | none =>
    rw [show endV l.length (rsR 8 l) = -1 by unfold rsR; rw [hr]; rfl]
    have hR2 := Lib.hid (show rightF s.data.toList = false by rw [hR.out, hI.out, hr])
    have q2 : ((-1 : Int) == (l.length : Int)) = false := intNe (by omega)
    clear hr
    go_wp2_with fail
    go_ret
    exact ⟨ret_bool hR2.out.symm, hbl⟩
  | some q =>
    obtain ⟨rs, r⟩ := q
    obtain ⟨n, n1, n2, n3⟩ := drop_suf (l := l) (k := 0) (by rw [List.drop_zero]; exact rowsF_suf hr) (Nat.zero_le _)
    rw [show endV l.length (rsR 8 l) = (n : Int) by unfold rsR; rw [hr]; exact endV_at n2]
    have hR2 := Lib.hid (show rightF s.data.toList = decide (r.length = 0) by rw [hR.out, hI.out, hr])
    clear hr n3
    by_cases h0 : r.length = 0
    · have q2 : ((n : Int) == (l.length : Int)) = true := by rw [beq_iff_eq]; omega
      have hR3 := Lib.hid (show rightF s.data.toList = true by rw [hR2.out, decide_eq_true h0])
      clear h0
      go_wp2_with fail
      go_ret
      exact ⟨ret_bool hR3.out.symm, hbl⟩
    · have q2 : ((n : Int) == (l.length : Int)) = false := intNe (by omega)
      have hR3 := Lib.hid (show rightF s.data.toList = false by rw [hR2.out, decide_eq_false h0])
      clear h0
      go_wp2_with fail
      go_ret
      exact ⟨ret_bool hR3.out.symm, hbl⟩
end Go.Proofs.YtfhgnnlhacjnkaaDoor

/-
  What a pattern fits, by the document: ref09.Fits: the walk.
-/
namespace Go.Proofs.YtfhgnnlhacjnkaaDoor
set_option linter.unusedVariables false
set_option linter.unusedSimpArgs false
open Go.RowKit PT

theorem rightF_pat {p : List UInt8} (h : rightF p = true) : ∃ rs, patP (sigs p) = some rs ∧ p.length ≤ 200 := by
  obtain ⟨h1, _, rs, h2⟩ := rightF_iff.1 h
  exact ⟨rs, h2, h1⟩
theorem ret_fit {a b : Bool} {x y : Int} (h : a = b) (k : x = y) : Ending.returned (.tuple #[.bool a, .int .i64 x]) = .returned (.tuple #[.bool b, .int .i64 y]) := by rw [h, k]
theorem start_set (n : Nat) : (List.replicate (n + 1) false).set 0 true = startL n := rfl
set_option maxHeartbeats 2000000 in
set_option maxRecDepth 100000 in
theorem refFits9_any (p s : ByteArray) (hp : p.size ≤ maxLen) (hs : s.size ≤ maxLen) (w : World) :
    Calls Tryd.prog 13 #[.string p, .string s] w fun e w' => e = .returned (.tuple #[.bool (fitsF p.data.toList s.data.toList).1, .int .i64 (fitsF p.data.toList s.data.toList).2]) ∧ Below w.heap.size w w' := by
  go_enter Tryd.func13, Tryd.ntmps13
  go_wp2_with fail
  refine (refRight9_any p hp _).mono ?_
  rintro e w1 ⟨rfl, hb1⟩
  cases hr : rightF p.data.toList
  · have hR := Lib.hid (show fitsF p.data.toList s.data.toList = (false, 1) by unfold fitsF; rw [if_pos hr])
    clear hr
    go_wp2_with fail
    go_ret2
    exact ⟨by rw [hR.out]; rfl, hb1⟩
  obtain ⟨rs, hpat, hlen⟩ := rightF_pat hr
  rw [size_list] at hlen
  by_cases h4 : 4000 < s.size
  · have q1 : (4000 : Int) < (s.size : Int) := by omega
    have hR := Lib.hid (show fitsF p.data.toList s.data.toList = (false, 2) by unfold fitsF; rw [if_neg (by rw [hr]; decide), if_pos (by rw [size_list]; exact h4)])
    clear hr hpat
    go_wp2_with fail
    go_ret2
    exact ⟨by rw [hR.out]; rfl, hb1⟩
  have q1 : decide ((4000 : Int) < (s.size : Int)) = false := decide_eq_false (by omega)
  have hR := Lib.hid (show fitsF p.data.toList s.data.toList = (fitL rs (sigs s.data.toList), 0) by unfold fitsF; rw [if_neg (by rw [hr]; decide), if_neg (by rw [size_list]; exact h4), hpat]; rfl)
  have hpp := Lib.hid (patP_is hpat)
  clear hr hpat
  go_wp2_with fail
  refine (signs_any s (by omega) _).mono ?_
  rintro e w2 ⟨vt, rfl, hov, hb2⟩
  have hT := Sg.of_ov hov
  have htl : (sigs s.data.toList).length ≤ 4000 := by
    have := sigs_len _ s.data.toList (Nat.le_refl _)
    rw [size_list] at this
    omega
  obtain ⟨t, ht⟩ : ∃ t, sigs s.data.toList = t := ⟨_, rfl⟩
  rw [ht] at hT htl hR
  clear hov ht
  obtain ⟨ta, tcap, rfl⟩ := hT.len
  have hbl2 := bs hb1 hb2
  have hmk := make_marks (t.length + 1) (by omega)
  have hn0 := Go.heap_alloc_new w2 (.cells (blA (List.replicate (t.length + 1) false)) 4)
  have hb0 := (Below.refl w2.heap.size w2).alloc (Nat.le_refl _) (.cells (blA (List.replicate (t.length + 1) false)) 4)
  have hs0 : (w2.alloc (.cells (blA (List.replicate (t.length + 1) false)) 4)).heap.size = w2.heap.size + 1 := by simp
  have hmk2 : ∀ W : World, (Instr.makeSlice 38 (.int .i64 ((t.length : Int) + 1)) (.int .i64 ((t.length : Int) + 1))).run Tryd.prog W = .ok (.slice (some ⟨W.heap.size, 0, none⟩) (t.length + 1) (t.length + 1)) (W.alloc (.cells (blA (List.replicate (t.length + 1) false)) 4)) := fun W => hmk W
  go_upto_region 7 with fail
  generalize World.alloc _ _ = W3 at hn0 hb0 hs0 ⊢
  clear hmk hmk2
  have hT3 := hT.kept hb0
  have hbl3 := hbl2.trans (hb0.mono hbl2.size)
  obtain ⟨T, hTT⟩ : ∃ T, blA (List.replicate (t.length + 1) false) = T := ⟨_, rfl⟩
  have hTs : 0 < T.size := by rw [← hTT, blA_size, List.length_replicate]; omega
  have hTe := Lib.hid (show T.setIfInBounds 0 (.bool true) = blA (startL t.length) by rw [← hTT, blA_set, start_set])
  rw [hTT] at hn0
  clear hTT
  have hcur : W3.cell? ⟨w2.heap.size, 0, none⟩ = some T[0] := by simp [World.cell?, hn0, hTs]
  have hfr : W3.frozen? ⟨w2.heap.size, 0, none⟩ = false := by simp [World.frozen?, hn0]
  have hs9 : w2.heap.size < W3.heap.size := by omega
  have hg2 : w2.heap.size ≤ W3.heap.size := by omega
  have hw2 := Lib.hid hbl2.size
  go_upto_region 8 with fail
  have hrow := (setCell_heap (.bool true) hn0).trans (by rw [hTe.out])
  have hbs := hb0.setCell (p := ⟨w2.heap.size, 0, none⟩) (Nat.le_refl _) (.bool true)
  have hbl4 := hbl2.trans (hbs.mono hw2.out)
  have hT4 := hT.kept hbs
  have hB4 := Bl.of_own (n := t.length + 1) (cap := t.length + 1) hrow (startL_len t.length).symm
  generalize World.setCell _ _ _ = W4 at hrow hbs hbl4 hT4 hB4 ⊢
  clear hcur hfr hn0 hb0 hs0 hT3 hbl3 hrow hbs hs9 hg2 hTs
  generalize w2.heap.size = g at *
  go_wp2_with fail
  refine (signs_any p (by omega) _).mono ?_
  rintro e w5 ⟨vp, rfl, hovp, hb5⟩
  have hP := Sg.of_ov hovp
  have hpl : (sigs p.data.toList).length ≤ 200 := by
    have := sigs_len _ p.data.toList (Nat.le_refl _)
    rw [size_list] at this
    omega
  have hpp2 := hpp.out
  clear hovp
  obtain ⟨l, hl⟩ : ∃ l, sigs p.data.toList = l := ⟨_, rfl⟩
  rw [hl] at hP hpl hpp2
  clear hl
  have hT5 := hT4.kept hb5
  have hB5 := hB4.kept hb5
  have hbl5 := hbl4.trans (hb5.mono hbl4.size)
  have hrows := Lib.hid (show rowsF (atomK 8) (l.drop 0) = some (rs, []) from hpp2)
  clear hpp2
  have hsl := Lib.hid (startL_len t.length)
  go_wp2_with fail
  refine (all_ok l vp t _ (by omega) (by omega) 8 (Nat.le_refl _) 0 rs [] (Nat.zero_le _) hrows.out (startL t.length) _ hsl.out _ ⟨hP, hT5⟩ hB5).mono ?_
  rintro e w6 ⟨vo, rfl, hB6, hb6⟩
  have hbl6 := hbl5.trans (hb6.mono hbl5.size)
  have hgl := Lib.hid (show (grpL rs t (startL t.length)).length = t.length + 1 from (grpL_adds fun ps hps q hq => rowsG_adds (atomK_adds 8) _ _ _ _ hpp.out ps hps q hq t).len _ (startL_len _))
  obtain ⟨gb, go_, gc, rfl, hgb, hgc⟩ := hB6.at
  have cl := hgc t.length (by rw [hgl.out]; omega)
  clear hgc hB6
  rw [hgl.out]
  have q9 : (t.length : Int) < ((t.length + 1 : Nat) : Int) := by omega
  have q8 : (t.length : Int) < (t.length : Int) + 1 := by omega
  go_wp2_with fail
  go_ret2
  exact ⟨by rw [hR.out]; rfl, hbl6⟩
end Go.Proofs.YtfhgnnlhacjnkaaDoor
