import Derived.Test.YtfhgnnlhacjnkaaDoorPart7
/-
  The pattern's reader: row, rows: the walks.
-/
namespace Go.Proofs.YtfhgnnlhacjnkaaDoor
set_option linter.unusedVariables false
set_option linter.unusedSimpArgs false
open Go.RowKit PT

theorem dec40 (c : Nat) (R : List Nat) : decide (hdI (c :: R) = 40) = decide (c = 40) := by
  rw [decide_eq_decide]
  show ((c : Int) = 40) ↔ c = 40
  omega
set_option maxHeartbeats 8000000 in
set_option maxRecDepth 100000 in
theorem row_q (kk : Nat) (d : Int) (P : Bool → Prop) (hat : ∀ b, P b → b = false → AtomQ kk d) : RowQ kk d P := by
  intro r X b w hP hR
  have hatb := Lib.hid (fun h => hat b hP h)
  clear hat hP
  have hlt := hR.lt
  have hXl := hR.len
  go_enter Tryd.func29, Tryd.ntmps29
  go_wp2_with fail
  go_loopw [3] (fun vo wr => ∃ (X' : List Nat) (b' : Bool) (n : Nat) (xs : List Value), wr.ownsRow w.heap.size 71 3 vo n xs ∧ RD r X' d b' wr ∧ Rd r w wr ∧ n + X'.length ≤ X.length ∧ Hid (b = true → b' = true) ∧ Hid (b = false → b' = false → DoneRow kk w.heap.size X X' n xs vo wr) ∧ Hid (b = false → b' = true → rowF (atomK kk) X = none)) (fun _ wr => measT r wr)
  case atStart => exact ⟨X, b, 0, [], own_nil _ _ _ _, hR, Rd.refl _ _, by omega, Lib.hid (fun h => h), Lib.hid (fun _ _ => DoneRow.start kk _ X _ _), Lib.hid (fun h1 h2 => by rw [h1] at h2; cases h2)⟩
  case round =>
    obtain ⟨X', b', n, xs, hown, hR', hrd', hn, hmono, hgood, hbad⟩ := hrel
    have hmeas := Lib.hid (measT_eq hR')
    obtain ⟨s, c0, c1, c2, f0, f1, f2, hs, hv, hX⟩ := hR'.at
    have hRh := Lib.hid hR'
    clear hR' c1 f0 f1 f2
    obtain ⟨va, vcap, rfl, _⟩ := own_form hown
    cases b' with
    | true =>
      have hno := Lib.hid (show b = false → OkRow kk X X' true w.heap.size (.slice va n vcap) wr from fun h => by unfold OkRow; rw [hbad.out h rfl])
      clear hmono hgood hbad
      go_wp2_with fail
      go_ret
      exact ⟨_, _, _, X', true, rfl, hRh.out, hrd', by omega, fun _ => rfl, hno.out⟩
    | false =>
      have hb9 : Hid (b = false) := Lib.hid (by cases b with | false => rfl | true => exact absurd (hmono.out rfl) (by decide))
      have heq := Lib.hid (hgood.out hb9.out rfl)
      clear hmono hgood hbad
      cases X' with
      | nil =>
        have hs0 : s.size = 0 := by
          rcases Nat.eq_zero_or_pos s.size with h | h
          · exact h
          · have := sigs_eq_nil.1 hX.out
            rw [← size_list, this]; rfl
        have hse := empS_yes hs0
        subst hse
        clear hs0
        have hres := Lib.hid (heq.out.finish hown (rowF_nil _))
        go_wp2_with fail
        go_ret
        exact ⟨_, _, _, [], false, rfl, hRh.out, hrd', by simp, (fun h => by rw [hb9.out] at h; cases h), fun _ => hres.out⟩
      | cons c R =>
        have hs0 : s.size ≠ 0 := by
          intro h
          have := hX.out
          rw [empS_yes h] at this
          cases this
        obtain ⟨e1, e2, e3, _⟩ := empS_no hs0
        clear hs0
        by_cases hend : c = 124 ∨ c = 41
        · have hres0 := Lib.hid (rowF_end (atomK kk) (l := R) hend)
          rcases hend with rfl | rfl
          · go_wp2_with fail
            refine (next_any r _ d false _ hRh.out).mono ?_
            rintro e w1 ⟨rfl, hb1⟩
            rw [show hdI (124 :: R) = 124 from rfl]
            have hfin := Lib.hid (hRh.out.kept hb1)
            have hrd := Lib.hid (hrd'.trans (Rd.of_below (r := r) hb1))
            have hres := Lib.hid ((heq.out.kept (hi_rd (Rd.of_below (r := r) hb1) hlt)).finish (own_keep hown hb1) hres0.out)
            go_wp2_with fail
            go_ret
            exact ⟨_, _, _, 124 :: R, false, rfl, hfin.out, hrd.out, by omega, (fun h => by rw [hb9.out] at h; cases h), fun _ => hres.out⟩
          · go_wp2_with fail
            refine (next_any r _ d false _ hRh.out).mono ?_
            rintro e w1 ⟨rfl, hb1⟩
            rw [show hdI (41 :: R) = 41 from rfl]
            have hR1 := hRh.out.kept hb1
            have hrd1 := hrd'.trans (Rd.of_below (r := r) hb1)
            go_wp2_with fail
            refine (next_any r _ d false _ hR1).mono ?_
            rintro e w2 ⟨rfl, hb2⟩
            rw [show hdI (41 :: R) = 41 from rfl]
            have hfin := Lib.hid (hR1.kept hb2)
            have hrd := Lib.hid (hrd1.trans (Rd.of_below (r := r) hb2))
            have hres := Lib.hid (((heq.out.kept (hi_rd (Rd.of_below (r := r) hb1) hlt)).kept (hi_rd (Rd.of_below (r := r) hb2) hlt)).finish (own_keep (own_keep hown hb1) hb2) hres0.out)
            go_wp2_with fail
            go_ret
            exact ⟨_, _, _, 41 :: R, false, rfl, hfin.out, hrd.out, by omega, (fun h => by rw [hb9.out] at h; cases h), fun _ => hres.out⟩
        have hendh := Lib.hid hend
        have p1 : (hdI (c :: R) != 124) = true := by rw [bne, intNe (show hdI (c :: R) ≠ 124 from fun e => hend (.inl (by have : (c : Int) = 124 := e; omega)))]; rfl
        have p2 : (hdI (c :: R) != 41) = true := by rw [bne, intNe (show hdI (c :: R) ≠ 41 from fun e => hend (.inr (by have : (c : Int) = 41 := e; omega)))]; rfl
        have hdec := Lib.hid (dec40 c R)
        have hst := Lib.hid (fun (dn : Den) (X1 X2 : List Nat) (lo : Nat) (hi : Option Nat) (h1 : atomK kk (c :: R) = some (dn, X1)) (h2 : oftenP (decide (c = 40)) X1 = some (lo, hi, X2)) => rowF_step hend h1 h2)
        have hn1 := Lib.hid (fun (h1 : atomK kk (c :: R) = none) => rowF_no1 hend h1)
        have hn2 := Lib.hid (fun (dn : Den) (X1 : List Nat) (h1 : atomK kk (c :: R) = some (dn, X1)) (h2 : oftenP (decide (c = 40)) X1 = none) => rowF_no2 hend h1 h2)
        obtain ⟨Xc, hXc⟩ : ∃ Xc, c :: R = Xc := ⟨_, rfl⟩
        have hne : Xc ≠ [] := by rw [← hXc]; simp
        rw [hXc] at hRh heq hst hn1 hn2 p1 p2 hmeas hdec hn
        clear hXc hend hX hendh
        go_wp2_with fail
        refine (next_any r _ d false _ hRh.out).mono ?_
        rintro e w1 ⟨rfl, hb1⟩
        have hR1 := hRh.out.kept hb1
        have hrd1 := hrd'.trans (Rd.of_below (r := r) hb1)
        have hdW1 := Rd.of_below (r := r) hb1
        go_wp2_with fail
        refine (next_any r _ d false _ hR1).mono ?_
        rintro e w2 ⟨rfl, hb2⟩
        have hR2 := hR1.kept hb2
        have hrd2 := hrd1.trans (Rd.of_below (r := r) hb2)
        have hdW2 := hdW1.trans (Rd.of_below (r := r) hb2)
        go_wp2_with fail
        refine (hatb.out hb9.out r Xc _ hne hR2).mono ?_
        rintro e w3 ⟨k, X1, b1, rfl, hR3, hd3, hl3, hs3⟩
        have hrd3 := hrd2.trans hd3
        have hdW3 := hdW2.trans hd3
        rw [hdec.out]
        obtain ⟨g, hg⟩ : ∃ g, decide (c = 40) = g := ⟨_, rfl⟩
        rw [hdec.out, hg] at hs3
        rw [hg] at hst hn2 ⊢
        replace hs3 := Lib.hid hs3
        clear hg hdec
        go_wp2_with fail
        refine (often9_any r X1 d b1 g k _ hR3).mono ?_
        rintro e w4 ⟨lo, hi, X2, b2, rfl, hR4, hd4, hl4, hm4, hs4⟩
        have hrd4 := hrd3.trans hd4
        have hdW4 := hdW3.trans hd4
        replace hs4 := Lib.hid hs4
        replace hm4 := Lib.hid hm4
        have hsz2 := hdW2.size
        have hownlt := Lib.hid (fun kb (h : (Value.slice va n vcap).ownBlock = some kb) => (hown.lt kb h).2)
        have hn0 := Go.heap_alloc_new w4 (.cells #[atomT g k, .int .i64 lo, .int .i64 hi] 71)
        have hba := (Below.refl _ w4).alloc (Nat.le_refl _) (.cells #[atomT g k, .int .i64 lo, .int .i64 hi] 71)
        have hdone5 := Lib.hid ((heq.out.kept (hi_rd hdW4 hlt)).kept (hi_rd (Rd.of_below (r := r) hba) hlt))
        have hspec := Lib.hid (show (b2 = false → ∃ (dn : Den) (lo' : Nat) (hi' : Option Nat), lo = (lo' : Int) ∧ hi = hiV hi' ∧ StepE kk Xc X2 dn lo' hi' ∧ AtomV (Sv w.heap.size (.slice va n vcap)) tcls tgrp kk dn (atomT g k) (w4.alloc (.cells #[atomT g k, .int .i64 lo, .int .i64 hi] 71))) ∧ (b2 = true → rowF (atomK kk) Xc = none) by
          have h1 := hs3.out
          unfold OkA at h1
          cases hat1 : atomK kk Xc with
          | none =>
            rw [hat1] at h1
            have h1' : b1 = true := h1
            exact ⟨fun h => (by rw [hm4.out h1'] at h; cases h), fun _ => hn1.out hat1⟩
          | some r1 =>
            obtain ⟨dn, Y1⟩ := r1
            rw [hat1] at h1
            obtain ⟨k1, rfl, hAt⟩ := h1
            have h2 := hs4.out k1
            cases hof : oftenP g X1 with
            | none =>
              rw [hof] at h2
              exact ⟨fun h => (by rw [show b2 = true from h2] at h; cases h), fun _ => hn2.out dn X1 hat1 hof⟩
            | some q =>
              obtain ⟨lo', hi', r2⟩ := q
              rw [hof] at h2
              obtain ⟨k2, rfl, k3, k4⟩ := h2
              refine ⟨fun _ => ⟨dn, lo', hi', k3, k4, hst.out dn X1 X2 lo' hi' hat1 hof, ?_⟩, fun h => (by rw [k2] at h; cases h)⟩
              have e1 := hAt.mono kk _ _ _ (S' := Sv w.heap.size (.slice va n vcap)) (fun kb hkb _ => ⟨by have := hrd2.size; have : w2.heap.size ≤ kb := hkb; omega, fun e => by have h8 := hownlt.out kb e; have : w2.heap.size ≤ kb := hkb; omega⟩)
              exact AtomV.kept kk _ _ _ _ (AtomV.kept kk _ _ _ _ e1 (hi_rd hd4 hlt)) (hi_rd (Rd.of_below (r := r) hba) hlt))
        clear hn0 hba
        obtain ⟨ty, hty⟩ : ∃ ty, atomT g k = .iface ty (.pointer (some ⟨k, 0, none⟩)) := ⟨_, rfl⟩
        rw [hty] at hdone5 hspec ⊢
        clear hty
        have hown4 := own_rd hown hdW4 hlt
        have hn0 := Go.heap_alloc_new w4 (.cells #[(.iface ty (.pointer (some ⟨k, 0, none⟩))), .int .i64 lo, .int .i64 hi] 71)
        have hba := (Below.refl _ w4).alloc (Nat.le_refl _) (.cells #[(.iface ty (.pointer (some ⟨k, 0, none⟩))), .int .i64 lo, .int .i64 hi] 71)
        have hown5 := own_keep hown4 hba
        have hR5 := hR4.kept hba
        have hrd5 := hrd4.trans (Rd.of_below (r := r) hba)
        have hsz5 := hrd5.size
        have hsrc := Lib.hid (show ∀ j u, ([(.iface ty (.pointer (some ⟨k, 0, none⟩))), .int .i64 lo, .int .i64 hi] : List Value)[j]? = some u → (w4.alloc (.cells #[(.iface ty (.pointer (some ⟨k, 0, none⟩))), .int .i64 lo, .int .i64 hi] 71)).cell? ⟨w4.heap.size, j, none⟩ = some u from fun j u hu => by
          simp only [World.cell?, hn0]
          rw [List.getElem?_toArray]
          exact hu)
        have hone := Lib.hid (show ∀ u ∈ ([(.iface ty (.pointer (some ⟨k, 0, none⟩))), .int .i64 lo, .int .i64 hi] : List Value), u.oneCell' = true from fun u hu => by
          simp only [List.mem_cons, List.not_mem_nil, or_false] at hu
          rcases hu with rfl | rfl | rfl <;> rfl)
        clear hn0 hba hown4 hR4 hrd4 hs4 hs3
        go_wp2_with (at_builtin; refine wpList_append_at9 (n := n) (m := 1) (news := [(.iface ty (.pointer (some ⟨k, 0, none⟩))), .int .i64 lo, .int .i64 hi]) rfl _ _ 55 71 rfl Tryd.underlying55 info_piece rfl (by decide) rfl rfl rfl (fun j u hu => by rw [addr_add, Nat.zero_add]; exact hsrc.out j u hu) hone.out hown5 (by unfold maxLen; omega) (by omega) hsz5 ?_; intro v' wA hA1 hA2 hA3; have hstep := Lib.hid (fun (dn : Den) (lo' : Nat) (hi' : Option Nat) h1 h2 => hdone5.out.step (X2 := X2) (a := .iface ty (.pointer (some ⟨k, 0, none⟩))) (dn := dn) (lo := lo') (hi := hi') h1 hA2 hA3 h2))
        have hbA := own_below hown5 hA2 hsz5
        have hRF := hR5.keptB hbA hlt
        have hrdF := hrd5.then_below hbA (Nat.le_refl _)
        have hmF := Lib.hid (measT_eq hRF)
        go_roundw
        case rel => exact ⟨X2, b2, n + 1, _, hA1, hRF, hrdF, by omega, Lib.hid (fun h => by rw [hb9.out] at h; cases h), Lib.hid (fun _ h => by obtain ⟨dn, lo', hi', e1, e2, e3, e4⟩ := hspec.out.1 h; subst e1; subst e2; exact hstep.out dn lo' hi' e4 e3), Lib.hid (fun _ h => done_none heq.out (hspec.out.2 h))⟩
        case measure => rw [hmeas.out]; refine Nat.lt_of_le_of_lt (Nat.le_of_eq hmF.out) ?_; omega
end Go.Proofs.YtfhgnnlhacjnkaaDoor

/-
  The pattern's reader: rows that grow: how they lie.
-/
namespace Go.Proofs.YtfhgnnlhacjnkaaDoor
set_option linter.unusedVariables false
set_option linter.unusedSimpArgs false
open Go.RowKit PT

/-- rows behind a bar -/
def tailF (kk : Nat) (r : List Nat) : Option (List (List Pce) × List Nat) := match r with
  | [] => some ([], [])
  | c :: r2 => if c = 124 then rowsF (atomK kk) r2 else some ([], c :: r2)
theorem rowsF_tail (kk : Nat) (X : List Nat) : rowsF (atomK kk) X = (match rowF (atomK kk) X with
    | none => none
    | some (ps, r) => (tailF kk r).map (fun q => (ps :: q.1, q.2))) := by
  rw [rowsF_eq (atomK_len kk)]
  cases rowF (atomK kk) X with
  | none => rfl
  | some q =>
    obtain ⟨ps, r⟩ := q
    cases r with
    | nil => rfl
    | cons c r2 =>
      simp only
      unfold tailF
      by_cases h : c = 124
      · rw [if_pos h]
        simp only
        rw [if_pos h]
        cases rowsF (atomK kk) r2 with
        | none => rfl
        | some q => rfl
      · rw [if_neg h]
        simp only
        rw [if_neg h]
        rfl
theorem tailF_end {kk : Nat} {X : List Nat} (h : hdI X ≠ 124) : tailF kk X = some ([], X) := by
  cases X with
  | nil => rfl
  | cons c R => exact if_neg (fun e => h (by rw [e]; rfl))
theorem tailF_bar (kk : Nat) (R : List Nat) : tailF kk (124 :: R) = rowsF (atomK kk) R := by
  show (if (124 : Nat) = 124 then rowsF (atomK kk) R else some ([], 124 :: R)) = _
  rw [if_pos rfl]
def DoneRows (kk B : Nat) (X X' : List Nat) (n : Nat) (xs : List Value) (vo : Value) (w : World) : Prop := ∃ (done : List (List Pce)), xs.length = done.length ∧ n = done.length ∧
  (∀ (j : Nat) (u : Value) (ps : List Pce), xs[j]? = some u → done[j]? = some ps → RowV (Sv B vo) (AtomV (Sv B vo) tcls tgrp kk) ps u w) ∧ rowsF (atomK kk) X = (tailF kk X').map (fun q => (done ++ q.1, q.2))
theorem rowv_kept {S : Nat → Prop} {kk : Nat} {ps : List Pce} {v : Value} {w w' : World} (h : RowV S (AtomV S tcls tgrp kk) ps v w) (hb : Hi S w w') : RowV S (AtomV S tcls tgrp kk) ps v w' := h.kept (AtomV.kept kk) hb
theorem rowv_mono {S S' : Nat → Prop} {kk : Nat} {ps : List Pce} {v : Value} {w : World} (h : RowV S (AtomV S tcls tgrp kk) ps v w) (hS : ∀ k, S k → k < w.heap.size → S' k) : RowV S' (AtomV S' tcls tgrp kk) ps v w := h.mono hS (fun d v h => h.mono kk d v w hS)
theorem DoneRows.kept {kk B : Nat} {X X' : List Nat} {n : Nat} {xs : List Value} {vo : Value} {w w' : World} (h : DoneRows kk B X X' n xs vo w) (hb : Hi (Sv B vo) w w') : DoneRows kk B X X' n xs vo w' := by
  obtain ⟨done, h1, h2, h4, h5⟩ := h
  exact ⟨done, h1, h2, fun j u ps hu hp => rowv_kept (h4 j u ps hu hp) hb, h5⟩
theorem DoneRows.first {kk B : Nat} {X X1 : List Nat} {b1 : Bool} {v1 vo : Value} {w1 : World} (h : OkRow kk X X1 b1 B v1 w1) (hb : b1 = false) (hvo : vo.ownBlock = some w1.heap.size) : DoneRows kk B X X1 1 [v1] vo w1 := by
  unfold OkRow at h
  cases hr : rowF (atomK kk) X with
  | none => rw [hr] at h; rw [show b1 = true from h] at hb; cases hb
  | some q =>
    obtain ⟨ps, r⟩ := q
    rw [hr] at h
    obtain ⟨_, rfl, h3⟩ := h
    refine ⟨[ps], rfl, rfl, fun j u p hu hp => ?_, ?_⟩
    · match j, hu, hp with
      | 0, hu, hp =>
        cases hu; cases hp
        exact rowv_mono h3 (fun k hk hlt => ⟨hk, fun e => by rw [hvo] at e; cases e; omega⟩)
      | j + 1, hu, hp => simp at hu
    · rw [rowsF_tail, hr]; rfl
theorem DoneRows.finish {kk B : Nat} {X X' : List Nat} {n : Nat} {xs : List Value} {vo : Value} {w : World} (h : DoneRows kk B X X' n xs vo w) (hown : w.ownsRow B 55 1 vo n xs) (he : hdI X' ≠ 124) : OkRows kk X X' false B vo w := by
  obtain ⟨done, h1, rfl, h4, h5⟩ := h
  have e : rowsF (atomK kk) X = some (done, X') := by rw [h5, tailF_end he]; simp
  unfold OkRows
  rw [e]
  exact ⟨rfl, rfl, xs, h1, own_rowAt hown (by decide), fun j u ps hu hp => rowv_mono (h4 j u ps hu hp) (fun k hk _ => hk.1)⟩
theorem DoneRows.step {kk B : Nat} {X R X5 : List Nat} {n : Nat} {xs : List Value} {vo v' u : Value} {ps : List Pce} {w w' : World} (h : DoneRows kk B X (124 :: R) n xs vo w) (hu : RowV (Sv B vo) (AtomV (Sv B vo) tcls tgrp kk) ps u w)
    (hg : w.grownBy w' vo.ownBlock) (hv : v'.ownBlock = vo.ownBlock ∨ v'.ownBlock = some w.heap.size) (hX : rowF (atomK kk) R = some (ps, X5)) : DoneRows kk B X X5 (n + 1) (xs ++ [u]) v' w' := by
  obtain ⟨done, h1, rfl, h4, h5⟩ := h
  have hto : ∀ (p : List Pce) (y : Value), RowV (Sv B vo) (AtomV (Sv B vo) tcls tgrp kk) p y w → RowV (Sv B v') (AtomV (Sv B v') tcls tgrp kk) p y w' := fun p y hy => by
    have e1 := rowv_mono hy (S' := fun k => Sv B vo k ∧ Sv B v' k) (fun k hk hlt => ⟨hk, hk.1, fun e => by
      rcases hv with h | h
      · rw [h] at e; exact hk.2 e
      · rw [h] at e; cases e; omega⟩)
    have e2 := rowv_kept e1 (Hi.of_grown hg (fun k hk => hk.1.2))
    exact rowv_mono e2 (fun k hk _ => hk.2)
  refine ⟨done ++ [ps], by simp [h1], by simp, ?_, ?_⟩
  · intro j y p hy hp
    by_cases hj : j < done.length
    · rw [List.getElem?_append_left (by omega)] at hy
      rw [List.getElem?_append_left hj] at hp
      exact hto _ _ (h4 j y p hy hp)
    · rw [List.getElem?_append_right (by omega)] at hy
      rw [List.getElem?_append_right (by omega)] at hp
      have e : j - done.length = 0 := by
        rcases Nat.eq_zero_or_pos (j - done.length) with h | h
        · exact h
        · rw [List.getElem?_eq_none (by simp; omega)] at hp; cases hp
      rw [h1, e] at hy
      rw [e] at hp
      cases hy
      cases hp
      exact hto _ _ hu
  · rw [h5, tailF_bar, rowsF_tail, hX]
    simp only [Option.map_map]
    congr 1
    funext q
    simp [List.append_assoc]
theorem rows_none {kk B : Nat} {X R : List Nat} {n : Nat} {xs : List Value} {vo : Value} {w : World} (h : DoneRows kk B X (124 :: R) n xs vo w) (he : rowF (atomK kk) R = none) : rowsF (atomK kk) X = none := by
  obtain ⟨done, h1, h2, h4, h5⟩ := h
  rw [h5, tailF_bar, rowsF_tail, he]; rfl
end Go.Proofs.YtfhgnnlhacjnkaaDoor

/-
  The pattern's reader: rows: the walk.
-/
namespace Go.Proofs.YtfhgnnlhacjnkaaDoor
set_option linter.unusedVariables false
set_option linter.unusedSimpArgs false
open Go.RowKit PT

set_option maxHeartbeats 8000000 in
set_option maxRecDepth 100000 in
theorem rows_q (kk : Nat) (d : Int) (P : Bool → Prop) (hrow : RowQ kk d P) (hPt : P true) : RowsQ kk d P := by
  intro r X b w hP hR
  have hP2 := Lib.hid (show ∀ b', (b = true → b' = true) → P b' from fun b' h => by
    cases b with
    | true => rw [h rfl]; exact hPt
    | false => cases b' with
      | true => exact hPt
      | false => exact hP)
  have hPh := Lib.hid hP
  replace hrow := Lib.hid hrow
  clear hP hPt
  have hlt := hR.lt
  have hXl := hR.len
  have hRR := Lib.hid hR
  clear hR
  go_enter Tryd.func21, Tryd.ntmps21
  go_wp2_with fail
  refine (hrow.out r X b _ hPh.out hRR.out).mono ?_
  rintro e w1 ⟨va1, vn1, vc1, X1, b1, rfl, hR1, hd1, hl1, hm1, hs1⟩
  have hn0 := Go.heap_alloc_new w1 (.cells #[.slice va1 vn1 vc1] 55)
  have hba := (Below.refl _ w1).alloc (Nat.le_refl _) (.cells #[.slice va1 vn1 vc1] 55)
  have hsz1 := hd1.size
  have hlit : (w1.alloc (.cells #[.slice va1 vn1 vc1] 55)).ownsRow w.heap.size 55 1 (.slice (some ⟨w1.heap.size, 0, none⟩) 1 1) 1 [.slice va1 vn1 vc1] := World.ownsRow_lit w1 #[.slice va1 vn1 vc1] 1 (by omega) (by unfold maxLen; omega) rfl
  have hR2 := hR1.kept hba
  have hrd2 := hd1.trans (Rd.of_below (r := r) hba)
  replace hs1 := Lib.hid hs1
  replace hm1 := Lib.hid hm1
  have hspec := Lib.hid (show (b = false → b1 = false → DoneRows kk w.heap.size X X1 1 [.slice va1 vn1 vc1] (.slice (some ⟨w1.heap.size, 0, none⟩) 1 1) (w1.alloc (.cells #[.slice va1 vn1 vc1] 55))) ∧ (b = false → b1 = true → rowsF (atomK kk) X = none) by
    constructor
    · intro h1 h2
      exact (DoneRows.first (hs1.out h1) h2 rfl).kept (hi_rd (Rd.of_below (r := r) hba) hlt)
    · intro h1 h2
      have h3 := hs1.out h1
      unfold OkRow at h3
      rw [rowsF_tail]
      cases hr : rowF (atomK kk) X with
      | none => rfl
      | some q => rw [hr] at h3; rw [h3.1] at h2; cases h2)
  clear hn0 hba hR1 hd1 hs1
  go_upto_region 2 with fail
  generalize World.alloc _ _ = W2 at hlit hR2 hrd2 hspec ⊢
  go_wp2_with fail
  go_loopw [3] (fun vo wr => ∃ (X' : List Nat) (b' : Bool) (n : Nat) (xs : List Value), wr.ownsRow w.heap.size 55 1 vo n xs ∧ RD r X' d b' wr ∧ Rd r w wr ∧ n + X'.length ≤ X.length + 1 ∧ 1 ≤ n ∧ Hid (b = true → b' = true) ∧ Hid (b = false → b' = false → DoneRows kk w.heap.size X X' n xs vo wr) ∧ Hid (b = false → b' = true → rowsF (atomK kk) X = none)) (fun _ wr => measT r wr)
  case atStart => exact ⟨X1, b1, 1, _, hlit, hR2, hrd2, by omega, Nat.le_refl _, hm1, Lib.hid hspec.out.1, Lib.hid hspec.out.2⟩
  case round =>
    obtain ⟨X', b', n, xs, hown, hR', hrd', hn, hn1, hmono, hgood, hbad⟩ := hrel
    have hmeas := Lib.hid (measT_eq hR')
    obtain ⟨va, vcap, rfl, _⟩ := own_form hown
    go_wp2_with fail
    refine (next_any r _ d b' _ hR').mono ?_
    rintro e w3 ⟨rfl, hb3⟩
    have hR3 := hR'.kept hb3
    have hrd3 := hrd'.trans (Rd.of_below (r := r) hb3)
    have hown3 := own_keep hown hb3
    by_cases h124 : hdI X' = 124
    case neg =>
      have p1 : (hdI X' == 124) = false := intNe h124
      have hfin := Lib.hid (show b = false → OkRows kk X X' b' w.heap.size (.slice va n vcap) w3 from fun h => by
        cases hb : b' with
        | true => unfold OkRows; rw [hbad.out h hb]
        | false => exact ((hgood.out h hb).kept (hi_rd (Rd.of_below (r := r) hb3) hlt)).finish hown3 h124)
      clear h124
      go_wp2_with fail
      go_ret
      exact ⟨_, _, _, X', b', rfl, hR3, hrd3, by omega, hmono.out, hfin.out⟩
    have p1 : (hdI X' == 124) = true := by rw [h124]; rfl
    obtain ⟨R, hXe⟩ := hd_cons (c := 124) h124
    clear h124
    go_wp2_with fail
    refine (take_any r _ d b' _ hR3).mono ?_
    rintro e w4 ⟨rfl, hR4, hd4⟩
    rw [show (b' || decide (X' = [])) = b' by rw [hXe]; simp, show X'.drop 1 = R by rw [hXe]; rfl] at hR4
    have hrd4 := hrd3.trans hd4
    have hown4 := own_rd hown3 hd4 hlt
    have hlR : R.length + 1 = X'.length := by rw [hXe]; rfl
    go_wp2_with fail
    refine (hrow.out r R b' _ (hP2.out b' hmono.out) hR4).mono ?_
    rintro e w5 ⟨va5, vn5, vc5, X5, b5, rfl, hR5, hd5, hl5, hm5, hs5⟩
    have hrd5 := hrd4.trans hd5
    have hown5 := own_rd hown4 hd5 hlt
    have hsz5 := hrd5.size
    replace hs5 := Lib.hid hs5
    replace hm5 := Lib.hid hm5
    have hn0 := Go.heap_alloc_new w5 (.cells #[.slice va5 vn5 vc5] 55)
    have hba := (Below.refl _ w5).alloc (Nat.le_refl _) (.cells #[.slice va5 vn5 vc5] 55)
    have hownlt := Lib.hid (fun kb (h : (Value.slice va n vcap).ownBlock = some kb) => (hown4.lt kb h).2)
    have hsz4 := hrd4.size
    have hd35 := hd4.trans hd5
    have hspec5 := Lib.hid (show (b = false → b5 = false → ∃ ps, rowF (atomK kk) R = some (ps, X5) ∧ DoneRows kk w.heap.size X (124 :: R) n xs (.slice va n vcap) (w5.alloc (.cells #[.slice va5 vn5 vc5] 55)) ∧ RowV (Sv w.heap.size (.slice va n vcap)) (AtomV (Sv w.heap.size (.slice va n vcap)) tcls tgrp kk) ps (.slice va5 vn5 vc5) (w5.alloc (.cells #[.slice va5 vn5 vc5] 55))) ∧ (b = false → b5 = true → rowsF (atomK kk) X = none) by
      constructor
      · intro h1 h2
        have hbf : b' = false := by cases hb : b' with | false => rfl | true => rw [hm5.out hb] at h2; cases h2
        have h3 := hs5.out hbf
        unfold OkRow at h3
        have hd0 := hgood.out h1 hbf
        rw [hXe] at hd0
        cases hr : rowF (atomK kk) R with
        | none => rw [hr] at h3; rw [show b5 = true from h3] at h2; cases h2
        | some q =>
          obtain ⟨ps, Y⟩ := q
          rw [hr] at h3
          obtain ⟨_, rfl, h5⟩ := h3
          have e1 := rowv_mono h5 (S' := Sv w.heap.size (.slice va n vcap)) (fun kb hkb _ => ⟨by have : w4.heap.size ≤ kb := hkb; omega, fun e => by have h8 := hownlt.out kb e; have : w4.heap.size ≤ kb := hkb; omega⟩)
          exact ⟨ps, rfl, (((hd0.kept (hi_rd (Rd.of_below (r := r) hb3) hlt)).kept (hi_rd hd35 hlt)).kept (hi_rd (Rd.of_below (r := r) hba) hlt)), rowv_kept e1 (hi_rd (Rd.of_below (r := r) hba) hlt)⟩
      · intro h1 h2
        cases hb : b' with
        | true => exact hbad.out h1 hb
        | false =>
          have h3 := hs5.out hb
          unfold OkRow at h3
          have hd0 := hgood.out h1 hb
          rw [hXe] at hd0
          cases hr : rowF (atomK kk) R with
          | none => exact rows_none hd0 hr
          | some q => rw [hr] at h3; rw [h3.1] at h2; cases h2)
    have hown6 := own_keep hown5 hba
    have hR7 := hR5.kept hba
    have hrd7 := hrd5.trans (Rd.of_below (r := r) hba)
    have hsz7 := hrd7.size
    have hsrc := Lib.hid (show ∀ j u, ([.slice va5 vn5 vc5] : List Value)[j]? = some u → (w5.alloc (.cells #[.slice va5 vn5 vc5] 55)).cell? ⟨w5.heap.size, j, none⟩ = some u from fun j u hu => by
      simp only [World.cell?, hn0]
      rw [List.getElem?_toArray]
      exact hu)
    have hone := Lib.hid (show ∀ u ∈ ([.slice va5 vn5 vc5] : List Value), u.oneCell' = true from fun u hu => by
      rw [List.mem_singleton] at hu
      rw [hu]; rfl)
    have hmono5 := Lib.hid (fun (h : b = true) => hm5.out (hmono.out h))
    have hR8 := Lib.hid hR7
    clear hn0 hba hXe hgood hbad hs5 hR4 hd4 hd5 hd35 hown3 hown4 hown5 hown hR3 hR' hb3 hR5 hR7
    go_wp2_with (at_builtin; refine wpList_append_at9 (n := n) (m := 1) (news := [.slice va5 vn5 vc5]) rfl _ _ 31 55 rfl Tryd.underlying31 info_pieces rfl (by decide) rfl rfl rfl (fun j u hu => by rw [addr_add, Nat.zero_add]; exact hsrc.out j u hu) hone.out hown6 (by unfold maxLen; omega) (by omega) hsz7 ?_; intro v' wA hA1 hA2 hA3; have hstep := Lib.hid (fun (ps : List Pce) h0 h1 h2 => DoneRows.step (kk := kk) (B := w.heap.size) (X := X) (R := R) (X5 := X5) (n := n) (xs := xs) (u := .slice va5 vn5 vc5) (ps := ps) h0 h1 hA2 hA3 h2))
    have hbA := own_below hown6 hA2 hsz7
    have hRF := hR8.out.keptB hbA hlt
    have hrdF := hrd7.then_below hbA (Nat.le_refl _)
    have hmF := Lib.hid (measT_eq hRF)
    go_roundw
    case rel => exact ⟨X5, b5, n + 1, _, hA1, hRF, hrdF, by omega, by omega, hmono5, Lib.hid (fun h1 h2 => by obtain ⟨ps, e1, e2, e3⟩ := hspec5.out.1 h1 h2; exact hstep.out ps e2 e3 e1), Lib.hid hspec5.out.2⟩
    case measure => rw [hmeas.out]; refine Nat.lt_of_le_of_lt (Nat.le_of_eq hmF.out) ?_; omega
end Go.Proofs.YtfhgnnlhacjnkaaDoor

/-
  The pattern's reader: an atom: how it lies.
-/
namespace Go.Proofs.YtfhgnnlhacjnkaaDoor
set_option linter.unusedVariables false
set_option linter.unusedSimpArgs false
open Go.RowKit PT

theorem dec40b (c : Nat) (R : List Nat) : decide (hdI (c :: R) = 40) = decide (c = 40) := dec40 c R
theorem okA_cls {kk c : Nat} {R : List Nat} {q : Klass × List Nat} {B k : Nat} {w' : World} (hK : klassP (c :: R) = some q) (h40 : c ≠ 40) (hv : ClsV (Ge B) tcls (clsL q.1.fits) (.iface tcls (.pointer (some ⟨k, 0, none⟩))) w') : OkA kk (c :: R) q.2 false B (atomT (decide (hdI (c :: R) = 40)) k) w' := by
  unfold OkA
  rw [atomK_not h40, hK, dec40b, decide_eq_false h40]
  exact ⟨rfl, rfl, AtomV.cls hv⟩
theorem okA_none {kk c : Nat} {R X' : List Nat} {B : Nat} {v : Value} {w' : World} (hK : klassP (c :: R) = none) (h40 : c ≠ 40) : OkA kk (c :: R) X' true B v w' := by
  unfold OkA
  rw [atomK_not h40, hK]
  rfl
theorem klass_92 (R : List Nat) : klassP (92 :: R) = escP R := by rw [klassP_cons, if_neg (by decide), if_neg (by decide), if_pos rfl]
theorem klass_91 (R : List Nat) : klassP (91 :: R) = classP R := by rw [klassP_cons, if_pos rfl]
theorem klass_46 (R : List Nat) : klassP (46 :: R) = some (⟨[(10, 10), (13, 13)], true⟩, R) := by rw [klassP_cons, if_neg (by decide), if_neg (by decide), if_neg (by decide), if_pos rfl]
theorem klass_oth {c : Nat} (R : List Nat) (h1 : c ≠ 91) (h2 : c ≠ 40) (h3 : c ≠ 92) (h4 : c ≠ 46) : klassP (c :: R) = if c ∈ [94, 36, 42, 43, 63, 41, 93, 123, 125, 124] then none else some (⟨[(c, c)], false⟩, R) := by
  rw [klassP_cons, if_neg h1, if_neg h2, if_neg h3, if_neg h4]
/-- what escape or class give, as an atom -/
theorem okA_of {kk c : Nat} {R X' : List Nat} {b' : Bool} {B B1 k : Nat} {P : Option (Klass × List Nat)} {w' : World} (h : match P with
    | none => b' = true
    | some (c, X'') => b' = false ∧ X' = X'' ∧ ClsV (Ge B1) tcls (clsL c.fits) (.iface tcls (.pointer (some ⟨k, 0, none⟩))) w') (hK : klassP (c :: R) = P) (h40 : c ≠ 40) (hB : B ≤ B1) : OkA kk (c :: R) X' b' B (atomT (decide (hdI (c :: R) = 40)) k) w' := by
  cases P with
  | none => rw [show b' = true from h]; exact okA_none hK h40
  | some q =>
    obtain ⟨h1, h2, h3⟩ := h
    rw [h1, h2]
    exact okA_cls hK h40 (h3.mono (fun j hj _ => Nat.le_trans hB hj))
/-- a group -/
theorem okA_grp {m : Nat} {R R3 : List Nat} {B k : Nat} {rs : List (List Pce)} {v : Value} {w' : World} (hr : rowsF (atomK m) R = some (rs, 41 :: R3)) (hB : B ≤ k) (hk : k < w'.heap.size) (hc : w'.cell? ⟨k, 0, none⟩ = some v) (hv : RowsV (Ge B) (AtomV (Ge B) tcls tgrp m) rs v w') : OkA (m + 1) (40 :: R) R3 false B (atomT (decide (hdI (40 :: R) = 40)) k) w' := by
  have e : atomK (m + 1) (40 :: R) = some (grpL rs, R3) := by rw [atomK_grp, hr]; simp
  unfold OkA
  rw [e]
  exact ⟨rfl, rfl, .inr ⟨rs, k, v, rfl, rfl, hB, hk, hc, hv⟩⟩
theorem okA_grp_none {m : Nat} {R X' : List Nat} {B : Nat} {v : Value} {w' : World} (h : ∀ rs R3, rowsF (atomK m) R ≠ some (rs, 41 :: R3)) : OkA (m + 1) (40 :: R) X' true B v w' := by
  have e : atomK (m + 1) (40 :: R) = none := by
    rw [atomK_grp]
    cases hr : rowsF (atomK m) R with
    | none => rfl
    | some q =>
      obtain ⟨rs, r2⟩ := q
      cases r2 with
      | nil => rfl
      | cons x r3 =>
        have hx : x ≠ 41 := fun e => h rs r3 (by rw [hr, e])
        exact if_neg hx
  unfold OkA
  rw [e]
theorem okA_zero {R X' : List Nat} {B : Nat} {v : Value} {w' : World} : OkA 0 (40 :: R) X' true B v w' := by
  unfold OkA atomK
  rw [if_neg (by decide), if_pos rfl]
theorem rowsv_kept {S : Nat → Prop} {kk : Nat} {rs : List (List Pce)} {v : Value} {w w' : World} (h : RowsV S (AtomV S tcls tgrp kk) rs v w) (hb : Hi S w w') : RowsV S (AtomV S tcls tgrp kk) rs v w' := h.kept (AtomV.kept kk) hb
theorem rowsv_mono {S S' : Nat → Prop} {kk : Nat} {rs : List (List Pce)} {v : Value} {w : World} (h : RowsV S (AtomV S tcls tgrp kk) rs v w) (hS : ∀ k, S k → k < w.heap.size → S' k) : RowsV S' (AtomV S' tcls tgrp kk) rs v w := h.mono hS (fun d v h => h.mono kk d v w hS)
end Go.Proofs.YtfhgnnlhacjnkaaDoor

/-
  The pattern's reader: atom, and all depths: the walks.
-/
namespace Go.Proofs.YtfhgnnlhacjnkaaDoor
set_option linter.unusedVariables false
set_option linter.unusedSimpArgs false
open Go.RowKit PT

theorem asc_4 : ∀ b ∈ (ByteArray.mk #[94, 36, 42, 43, 63, 41, 93, 123, 125, 124]).data.toList, b.toNat < 128 := by decide
theorem in_9 (c : Nat) : inN c (ByteArray.mk #[94, 36, 42, 43, 63, 41, 93, 123, 125, 124]).data.toList = decide (c ∈ [94, 36, 42, 43, 63, 41, 93, 123, 125, 124]) := inN_of rfl
theorem atR_class (kk : Nat) (R : List Nat) : atR kk (91 :: R) = (classP R).map (·.2) := atR_cls kk R
theorem atR_escape (kk : Nat) (R : List Nat) : atR kk (92 :: R) = (escP R).map (·.2) := by
  unfold atR
  rw [atomK_not (by decide), klassP_cons, if_neg (by decide), if_neg (by decide), if_pos rfl]
  cases escP R <;> rfl
set_option maxHeartbeats 8000000 in
set_option maxRecDepth 100000 in
theorem atom_q (kk : Nat) (d : Int) (hkk : kk ≤ 8) (hd : d = 8 - kk) (hrows : RowsQ (kk - 1) (d + 1) (fun b => kk = 0 → b = true)) : AtomQ kk d := by
  intro r X w hne hR
  have hmx := hR.max
  have hXl := hR.len
  have hRR := Lib.hid hR
  replace hrows := Lib.hid hrows
  have hdh := Lib.hid hd
  clear hR hd
  cases X with
  | nil => exact absurd rfl hne
  | cons c R =>
  have hcm := hmx c List.mem_cons_self
  have hdec := Lib.hid (dec40 c R)
  clear hne hmx
  go_enter Tryd.func37, Tryd.ntmps37
  go_wp2_with fail
  refine (take_any r _ d false _ hRR.out).mono ?_
  rintro e w1 ⟨rfl, hR1, hd1⟩
  rw [show hdI (c :: R) = (c : Int) from rfl]
  rw [show (false || decide (c :: R = [])) = false by simp, show (c :: R).drop 1 = R from rfl] at hR1
  by_cases h46 : c = 46
  · have q46 : ((c : Int) == 46) = true := natEq_yes h46
    have hsp := Lib.hid (show klassP (c :: R) = some (⟨[(10, 10), (13, 13)], true⟩, R) by rw [h46]; exact klass_46 R)
    have hc40 := Lib.hid (show c ≠ 40 by rw [h46]; decide)
    have hg := Lib.hid (show ∀ k, atomT (decide (hdI (c :: R) = 40)) k = .iface 57 (.pointer (some ⟨k, 0, none⟩)) from fun k => by rw [hdec.out, h46]; rfl)
    clear h46
    have hb0 := (Below.refl _ w1).alloc (Nat.le_refl _) (.cells #[.int .i32 10, .int .i32 10, .int .i32 13, .int .i32 13] 77)
    have hb1 := (Below.refl _ (w1.alloc (.cells #[.int .i32 10, .int .i32 10, .int .i32 13, .int .i32 13] 77))).alloc (Nat.le_refl _) (.cells #[.slice (some ⟨w1.heap.size, 0, none⟩) 2 2, .bool true] 75)
    have hfin := Lib.hid ((hR1.kept hb0).kept hb1)
    have hrd := Lib.hid ((hd1.trans (Rd.of_below (r := r) hb0)).trans (Rd.of_below (r := r) hb1))
    have hn0 := Go.heap_alloc_new w1 (.cells #[.int .i32 10, .int .i32 10, .int .i32 13, .int .i32 13] 77)
    have hn1 := Go.heap_alloc_new (w1.alloc (.cells #[.int .i32 10, .int .i32 10, .int .i32 13, .int .i32 13] 77)) (.cells #[.slice (some ⟨w1.heap.size, 0, none⟩) 2 2, .bool true] 75)
    rw [show (w1.alloc (.cells #[.int .i32 10, .int .i32 10, .int .i32 13, .int .i32 13] 77)).heap.size = w1.heap.size + 1 by simp] at hn1
    have hszx := hd1.size
    have hfull := Lib.hid (okA_cls (kk := kk) hsp.out hc40.out (cls_fresh (B := w.heap.size) (sp := [(10, 10), (13, 13)]) (neg := true) hn1 (by omega) (blk_kept hb1 hn0) (by omega) (by simp)))
    clear hb0 hb1 hn0 hn1
    go_wp2_with fail
    go_ret
    exact ⟨w1.heap.size + 1, R, false, by rw [hg.out]; rfl, hfin.out, hrd.out, by simp, hfull.out⟩
  have q46 : ((c : Int) == 46) = false := natEq_no h46
  by_cases h92 : c = 92
  · have q92 : ((c : Int) == 92) = true := natEq_yes h92
    have hsp := Lib.hid (show klassP (c :: R) = escP R by rw [h92]; exact klass_92 R)
    have hc40 := Lib.hid (show c ≠ 40 by rw [h92]; decide)
    have hg := Lib.hid (show ∀ k, atomT (decide (hdI (c :: R) = 40)) k = .iface 57 (.pointer (some ⟨k, 0, none⟩)) from fun k => by rw [hdec.out, h92]; rfl)
    clear h92 h46
    go_wp2_with fail
    refine (escape9_any r R d false _ hR1).mono ?_
    rintro e w2 ⟨k, X', b', rfl, hR2, hd2, hl2, _, hs2⟩
    replace hs2 := Lib.hid (hs2 rfl)
    have hrd := Lib.hid (hd1.trans hd2)
    have hfin := Lib.hid hR2
    clear hR2
    have hszx := hd1.size
    have hfull := Lib.hid (okA_of (kk := kk) hs2.out hsp.out hc40.out hszx)
    have hll := Lib.hid (show X'.length < (c :: R).length from Nat.lt_of_le_of_lt hl2 (by simp))
    go_wp2_with fail
    go_ret
    exact ⟨k, X', b', by rw [hg.out]; rfl, hfin.out, hrd.out, hll.out, hfull.out⟩
  have q92 : ((c : Int) == 92) = false := natEq_no h92
  by_cases h91 : c = 91
  · have q91 : ((c : Int) == 91) = true := natEq_yes h91
    have hsp := Lib.hid (show klassP (c :: R) = classP R by rw [h91]; exact klass_91 R)
    have hc40 := Lib.hid (show c ≠ 40 by rw [h91]; decide)
    have hg := Lib.hid (show ∀ k, atomT (decide (hdI (c :: R) = 40)) k = .iface 57 (.pointer (some ⟨k, 0, none⟩)) from fun k => by rw [hdec.out, h91]; rfl)
    clear h91 h92 h46
    go_wp2_with fail
    refine (class9_any r R d false _ hR1).mono ?_
    rintro e w2 ⟨k, X', b', rfl, hR2, hd2, hl2, _, hs2⟩
    replace hs2 := Lib.hid (hs2 rfl)
    have hrd := Lib.hid (hd1.trans hd2)
    have hfin := Lib.hid hR2
    clear hR2
    have hszx := hd1.size
    have hfull := Lib.hid (okA_of (kk := kk) hs2.out hsp.out hc40.out hszx)
    have hll := Lib.hid (show X'.length < (c :: R).length from Nat.lt_of_le_of_lt hl2 (by simp))
    go_wp2_with fail
    go_ret
    exact ⟨k, X', b', by rw [hg.out]; rfl, hfin.out, hrd.out, hll.out, hfull.out⟩
  have q91 : ((c : Int) == 91) = false := natEq_no h91
  by_cases h40 : c = 40
  case neg =>
    have q40 : ((c : Int) == 40) = false := natEq_no h40
    have hsp := Lib.hid (klass_oth R h91 h40 h92 h46)
    have hc40 := Lib.hid h40
    have hg := Lib.hid (show ∀ k, atomT (decide (hdI (c :: R) = 40)) k = .iface 57 (.pointer (some ⟨k, 0, none⟩)) from fun k => by rw [hdec.out, decide_eq_false h40]; rfl)
    have q0 : decide ((c : Int) < 0) = false := decide_eq_false (by omega)
    have q00 : (0 : Int) ≤ (c : Int) := by omega
    clear h91 h92 h46 h40
    go_wp2_with fail
    refine (containsRune_any _ (by decide) asc_4 c hcm _).mono ?_
    rintro e w2 ⟨rfl, hb2⟩
    rw [in_9]
    have hR2 := hR1.kept hb2
    have hd2 := hd1.trans (Rd.of_below (r := r) hb2)
    obtain ⟨s, c0, c1, c2, f0, f1, f2, hs, hv, hX⟩ := hR2.at
    by_cases hm : c ∈ [94, 36, 42, 43, 63, 41, 93, 123, 125, 124]
    · rw [decide_eq_true hm]
      have hsp2 := Lib.hid (hsp.out.trans (if_pos hm))
      clear hm
      have hRb := hR2.setBad true
      have hwb := hd2.trans (Rd.setCell r 2 (.bool true) w2)
      have hb0 := (Below.refl _ (w2.setCell ⟨r, 2, none⟩ (.bool true))).alloc (Nat.le_refl _) (.cells #[.int .i32 (c : Int), .int .i32 (c : Int)] 77)
      have hb1 := (Below.refl _ ((w2.setCell ⟨r, 2, none⟩ (.bool true)).alloc (.cells #[.int .i32 (c : Int), .int .i32 (c : Int)] 77))).alloc (Nat.le_refl _) (.cells #[.slice (some ⟨w2.heap.size, 0, none⟩) 1 1, .bool false] 75)
      have hfin := Lib.hid ((hRb.kept hb0).kept hb1)
      have hrd := Lib.hid ((hwb.trans (Rd.of_below (r := r) hb0)).trans (Rd.of_below (r := r) hb1))
      clear hb0 hb1 hRb hwb
      go_wp2_with fail
      go_ret
      exact ⟨w2.heap.size + 1, R, true, by rw [hg.out]; rfl, hfin.out, hrd.out, by simp, okA_none hsp2.out hc40.out⟩
    · rw [decide_eq_false hm]
      have hsp2 := Lib.hid (hsp.out.trans (if_neg hm))
      clear hm
      have hb0 := (Below.refl _ w2).alloc (Nat.le_refl _) (.cells #[.int .i32 (c : Int), .int .i32 (c : Int)] 77)
      have hb1 := (Below.refl _ (w2.alloc (.cells #[.int .i32 (c : Int), .int .i32 (c : Int)] 77))).alloc (Nat.le_refl _) (.cells #[.slice (some ⟨w2.heap.size, 0, none⟩) 1 1, .bool false] 75)
      have hfin := Lib.hid ((hR2.kept hb0).kept hb1)
      have hrd := Lib.hid ((hd2.trans (Rd.of_below (r := r) hb0)).trans (Rd.of_below (r := r) hb1))
      have hn0 := Go.heap_alloc_new w2 (.cells #[.int .i32 (c : Int), .int .i32 (c : Int)] 77)
      have hn1 := Go.heap_alloc_new (w2.alloc (.cells #[.int .i32 (c : Int), .int .i32 (c : Int)] 77)) (.cells #[.slice (some ⟨w2.heap.size, 0, none⟩) 1 1, .bool false] 75)
      rw [show (w2.alloc (.cells #[.int .i32 (c : Int), .int .i32 (c : Int)] 77)).heap.size = w2.heap.size + 1 by simp] at hn1
      have hszx := hd2.size
      have hfull := Lib.hid (okA_cls (kk := kk) hsp2.out hc40.out (cls_fresh (B := w.heap.size) (sp := [(c, c)]) (neg := false) hn1 (by omega) (blk_kept hb1 hn0) (by omega) (by simp)))
      clear hb0 hb1 hn0 hn1
      go_wp2_with fail
      go_ret
      exact ⟨w2.heap.size + 1, R, false, by rw [hg.out]; rfl, hfin.out, hrd.out, by simp, hfull.out⟩
  subst h40
  clear h46 h92 h91
  have hg := Lib.hid (show ∀ k, atomT (decide (hdI (40 :: R) = 40)) k = .iface 41 (.pointer (some ⟨k, 0, none⟩)) from fun k => by rw [hdec.out]; rfl)
  have hRd := hR1.setDepth (d + 1)
  have hdd := hd1.trans (Rd.setCell r 1 (.int .i64 (d + 1)) w1)
  obtain ⟨s1, c0, c1, c2, f0, f1, f2, hs1, hv1, hX1⟩ := hR1.at
  obtain ⟨s2, a0, a1, a2, b0, b1, b2, _, _, _⟩ := hRd.at
  have d0 : 0 ≤ d := by have := hdh.out; omega
  have d8 : d ≤ 8 := by have := hdh.out; omega
  by_cases hk0 : kk = 0
  · have p8 : (8 : Int) < d + 1 := by have := hdh.out; omega
    have hRz := hRd.setBad true
    have hdz := hdd.trans (Rd.setCell r 2 (.bool true) (w1.setCell ⟨r, 1, none⟩ (.int .i64 (d + 1))))
    clear hRd hR1 a0
    go_wp2_with fail
    refine (hrows.out r R true _ (fun _ => rfl) hRz).mono ?_
    rintro e w5 ⟨va5, vn5, vc5, X1, b1, rfl, hR5, hd5, hl5, hm5, hs5⟩
    clear hs5
    replace hm5 := Lib.hid (hm5 rfl)
    have hrd5 := hdz.trans hd5
    have hba := (Below.refl _ w5).alloc (Nat.le_refl _) (.cells #[.slice va5 vn5 vc5] 43)
    have hR6 := hR5.kept hba
    have hrd6 := hrd5.trans (Rd.of_below (r := r) hba)
    clear hR5 hd5 hba
    go_upto_region 14 with fail
    generalize hW6 : World.alloc _ _ = W6 at hR6 hrd6 ⊢
    clear hW6
    generalize w5.heap.size = kg
    go_wp2_with fail
    refine (take_any r X1 _ b1 _ hR6).mono ?_
    rintro e w7 ⟨rfl, hR7, hd7⟩
    have hrd7 := hrd6.trans hd7
    obtain ⟨s7, g0, g1, g2, h0, h1, h2, _, _, _⟩ := hR7.at
    have hR7h := Lib.hid hR7
    by_cases h41 : hdI X1 = 41
    · have p41 : (hdI X1 != 41) = false := by rw [h41]; rfl
      obtain ⟨R3, hX3⟩ := hd_cons (c := 41) h41
      have hRF := hR7.setDepth (d + 1 - 1)
      rw [show d + 1 - 1 = d by omega, show (b1 || decide (X1 = [])) = b1 by rw [hX3]; simp, show X1.drop 1 = R3 by rw [hX3]; rfl] at hRF
      have hfin := Lib.hid hRF
      have hrd := Lib.hid (hrd7.trans (Rd.setCell r 1 (.int .i64 d) w7))
      have hll := Lib.hid (show R3.length < (40 :: R).length by have h := congrArg List.length hX3; simp only [List.length_cons] at h ⊢; omega)
      have hfull := Lib.hid (show ∀ (v : Value) (w' : World), OkA kk (40 :: R) R3 b1 w.heap.size v w' from fun v w' => by rw [hk0, hm5.out]; exact okA_zero)
      have e9 : d + 1 - 1 = d := by omega
      clear h41 hX3 hRF hR7
      go_wp2_with fail
      go_ret
      exact ⟨kg, R3, b1, by rw [hg.out]; rfl, hfin.out, hrd.out, hll.out, hfull.out _ _⟩
    · have p41 : (hdI X1 != 41) = true := by rw [bne, intNe h41]; rfl
      have hRb := hR7.setBad true
      obtain ⟨s8, g08, g18, g28, h08, h18, h28, _, _, _⟩ := hRb.at
      have hRF := hRb.setDepth (d + 1 - 1)
      rw [show d + 1 - 1 = d by omega] at hRF
      have hfin := Lib.hid hRF
      have hrd := Lib.hid ((hrd7.trans (Rd.setCell r 2 (.bool true) w7)).trans (Rd.setCell r 1 (.int .i64 d) _))
      have hll := Lib.hid (show (X1.drop 1).length < (40 :: R).length by rw [List.length_drop, List.length_cons]; omega)
      have hfull := Lib.hid (show ∀ (v : Value) (w' : World), OkA kk (40 :: R) (X1.drop 1) true w.heap.size v w' from fun v w' => by rw [hk0]; exact okA_zero)
      have e9 : d + 1 - 1 = d := by omega
      clear h41 hRF hRb hR7 g08 g28
      go_wp2_with fail
      go_ret
      exact ⟨kg, X1.drop 1, true, by rw [hg.out]; rfl, hfin.out, hrd.out, hll.out, hfull.out _ _⟩
  have p8 : decide ((8 : Int) < d + 1) = false := decide_eq_false (by have := hdh.out; omega)
  have p88 : d + 1 ≤ 8 := by have := hdh.out; omega
  clear hR1 a0
  go_wp2_with fail
  refine (hrows.out r R false _ (fun h => by omega) hRd).mono ?_
  rintro e w5 ⟨va5, vn5, vc5, X1, b1, rfl, hR5, hd5, hl5, hm5, hs5⟩
  replace hs5 := Lib.hid (hs5 rfl)
  clear hm5
  have hrd5 := hdd.trans hd5
  have hba := (Below.refl _ w5).alloc (Nat.le_refl _) (.cells #[.slice va5 vn5 vc5] 43)
  have hR6 := hR5.kept hba
  have hrd6 := hrd5.trans (Rd.of_below (r := r) hba)
  have hn6 := Go.heap_alloc_new w5 (.cells #[.slice va5 vn5 vc5] 43)
  have hsz0 := hdd.size
  have hsz5 := hrd5.size
  have hgrp := Lib.hid (show ∀ rs R3, rowsF (atomK (kk - 1)) R = some (rs, R3) → b1 = false ∧ X1 = R3 ∧ RowsV (Ge w.heap.size) (AtomV (Ge w.heap.size) tcls tgrp (kk - 1)) rs (.slice va5 vn5 vc5) (w5.alloc (.cells #[.slice va5 vn5 vc5] 43)) from fun rs R3 hr => by
    have h3 := hs5.out
    unfold OkRows at h3
    rw [hr] at h3
    obtain ⟨h4, h5, h6⟩ := h3
    exact ⟨h4, h5, rowsv_kept (rowsv_mono h6 (fun j hj _ => Nat.le_trans hsz0 hj)) (Hi.of_below hba)⟩)
  have hnone := Lib.hid (show rowsF (atomK (kk - 1)) R = none → b1 = true from fun hr => by
    have h3 := hs5.out
    unfold OkRows at h3
    rw [hr] at h3
    exact h3)
  clear hR5 hd5 hba hs5
  go_upto_region 14 with fail
  generalize World.alloc _ _ = W6 at hR6 hrd6 hn6 hgrp ⊢
  obtain ⟨kg, hkg⟩ : ∃ kg, w5.heap.size = kg := ⟨_, rfl⟩
  have hBk : w.heap.size ≤ kg := by omega
  rw [hkg] at hn6 ⊢
  have hkr : kg ≠ r := by
    have h3 := hRR.out.lt
    omega
  clear hkg hsz5 hsz0
  go_wp2_with fail
  refine (take_any r X1 _ b1 _ hR6).mono ?_
  rintro e w7 ⟨rfl, hR7, hd7⟩
  have hrd7 := hrd6.trans hd7
  obtain ⟨s7, g0, g1, g2, h0, h1, h2, _, _, _⟩ := hR7.at
  have hR7h := Lib.hid hR7
  by_cases h41 : hdI X1 = 41
  · have p41 : (hdI X1 != 41) = false := by rw [h41]; rfl
    obtain ⟨R3, hX3⟩ := hd_cons (c := 41) h41
    have hRF := hR7.setDepth (d + 1 - 1)
    rw [show d + 1 - 1 = d by omega, show (b1 || decide (X1 = [])) = b1 by rw [hX3]; simp, show X1.drop 1 = R3 by rw [hX3]; rfl] at hRF
    have hfin := Lib.hid hRF
    have hrd := Lib.hid (hrd7.trans (Rd.setCell r 1 (.int .i64 d) w7))
    have hll := Lib.hid (show R3.length < (40 :: R).length by have h := congrArg List.length hX3; simp only [List.length_cons] at h ⊢; omega)
    have hn7 := rd_blk (hd7.trans (Rd.setCell r 1 (.int .i64 d) w7)) hn6 hkr
    have hfull := Lib.hid (show OkA kk (40 :: R) R3 b1 w.heap.size (atomT (decide (hdI (40 :: R) = 40)) kg) (w7.setCell ⟨r, 1, none⟩ (.int .i64 d)) by
      obtain ⟨m, hm⟩ : ∃ m, kk = m + 1 := ⟨kk - 1, by omega⟩
      cases hr : rowsF (atomK (kk - 1)) R with
      | none =>
        rw [hnone.out hr]
        rw [hm, Nat.add_sub_cancel] at hr
        rw [hm]
        exact okA_grp_none (fun rs R3' => by rw [hr]; simp)
      | some q =>
        obtain ⟨rs, Y⟩ := q
        obtain ⟨h4, h5, h6⟩ := hgrp.out rs Y hr
        have h7 := rowsv_kept h6 ((hd7.trans (Rd.setCell r 1 (.int .i64 d) w7)).hi (S := Ge w.heap.size) (by have := hRR.out.lt; show ¬ w.heap.size ≤ r; omega))
        rw [h4]
        rw [hm, Nat.add_sub_cancel] at hr h7
        rw [hm]
        rw [← h5, hX3] at hr
        refine okA_grp hr hBk (Array.getElem?_eq_some_iff.1 hn7).1 ?_ h7
        simp only [World.cell?, hn7]
        rfl)
    clear hn7
    have e9 : d + 1 - 1 = d := by omega
    clear h41 hX3 hRF hR7
    go_wp2_with fail
    go_ret
    exact ⟨kg, R3, b1, by rw [hg.out]; rfl, hfin.out, hrd.out, hll.out, hfull.out⟩
  · have p41 : (hdI X1 != 41) = true := by rw [bne, intNe h41]; rfl
    have hRb := hR7.setBad true
    obtain ⟨s8, g08, g18, g28, h08, h18, h28, _, _, _⟩ := hRb.at
    have hRF := hRb.setDepth (d + 1 - 1)
    rw [show d + 1 - 1 = d by omega] at hRF
    have hfin := Lib.hid hRF
    have hrd := Lib.hid ((hrd7.trans (Rd.setCell r 2 (.bool true) w7)).trans (Rd.setCell r 1 (.int .i64 d) _))
    have hll := Lib.hid (show (X1.drop 1).length < (40 :: R).length by rw [List.length_drop, List.length_cons]; omega)
    have hfull := Lib.hid (show ∀ (v : Value) (w' : World), OkA kk (40 :: R) (X1.drop 1) true w.heap.size v w' from fun v w' => by
      obtain ⟨m, hm⟩ : ∃ m, kk = m + 1 := ⟨kk - 1, by omega⟩
      rw [hm]
      refine okA_grp_none (fun rs R3 hr => h41 ?_)
      obtain ⟨_, h5, _⟩ := hgrp.out rs (41 :: R3) (by rw [hm, Nat.add_sub_cancel]; exact hr)
      rw [h5]
      rfl)
    have e9 : d + 1 - 1 = d := by omega
    clear h41 hRF hRb hR7 g08 g28
    go_wp2_with fail
    go_ret
    exact ⟨kg, X1.drop 1, true, by rw [hg.out]; rfl, hfin.out, hrd.out, hll.out, hfull.out _ _⟩
end Go.Proofs.YtfhgnnlhacjnkaaDoor

/-
  The pattern's reader: a row and rows at all depths: their contracts.
-/
namespace Go.Proofs.YtfhgnnlhacjnkaaDoor
set_option linter.unusedVariables false
set_option linter.unusedSimpArgs false
open Go.RowKit PT

theorem RowsQ.weaken {kk : Nat} {d : Int} {P Q : Bool → Prop} (h : RowsQ kk d P) (hQ : ∀ b, Q b → P b) : RowsQ kk d Q := fun r X b w hq hR => h r X b w (hQ b hq) hR
theorem rows_atom {kk : Nat} {d : Int} (h : AtomQ kk d) : RowsQ kk d (fun _ => True) := rows_q kk d _ (row_q kk d _ (fun _ _ _ => h)) trivial
theorem rows_bad : RowsQ 0 9 (fun b => (0 : Nat) = 0 → b = true) := rows_q 0 9 _ (row_q 0 9 _ (fun b h hb => by rw [h rfl] at hb; cases hb)) (fun _ => rfl)
theorem rows_all : ∀ (kk : Nat) (d : Int), kk ≤ 8 → d = 8 - kk → RowsQ kk d (fun _ => True)
  | 0, d, h, hd => rows_atom (atom_q 0 d h hd (by
      have h9 : d + 1 = 9 := by omega
      rw [h9]
      exact rows_bad))
  | kk + 1, d, h, hd => rows_atom (atom_q (kk + 1) d h hd ((rows_all kk (d + 1) (by omega) (by omega)).weaken (fun _ _ => trivial)))
/-- what the reader reads at its first call -/
theorem rows_top : RowsQ 8 0 (fun _ => True) := rows_all 8 0 (by omega) (by omega)
end Go.Proofs.YtfhgnnlhacjnkaaDoor
