import Derived.Test.YtenicjebccdekaaPart10
import Derived.Test.YtenicjebccdekaaRows
import Derived.Below
import Derived.ChangeSame
import Derived.WalkKit
import Derived.ProofKit
/-
  The law GroupKeeps: the plain law and the walk.
-/
namespace Go.Proofs.Ytenicjebccdekaa
set_option linter.unusedVariables false
set_option linter.unusedSimpArgs false
open Go.RowKit PT

theorem chB_chk {cs : List Ct} {p : Nat → Bool} {id : Nat} {on : Bool} {k : Nat} (hk : k < cs.length) : chB (chkP cs p id on) (k : Nat) = if k = id then on else (chB cs (k : Nat) && !p k) := by
  have hk' : k < (chkP cs p id on).length := by rw [chkP_len]; exact hk
  have h1 : (chkP cs p id on)[k]? = some (if k = id then { cs[k] with ch := on, dc := true } else if p k = true then { cs[k] with ch := false } else cs[k]) := by
    unfold chkP
    rw [List.getElem?_mapIdx, List.getElem?_eq_getElem hk]
    rfl
  rw [chB_at hk]
  unfold chB
  rw [Int.toNat_natCast, h1]
  by_cases e : k = id
  · rw [if_pos e, if_pos e]
  · rw [if_neg e, if_neg e]
    cases p k
    · simp
    · simp
theorem mem_nodup {l : List Nd} (h : RightP l) (id : Int) : (memF l id).Nodup := by
  cases hr : radB l id
  · rw [show memF l id = [] from if_neg (fun h => by rw [hr] at h; cases h.2)]
    exact List.nodup_nil
  · rw [mem_doc h hr]
    obtain ⟨i0, i1⟩ := rad_in hr
    obtain ⟨t0, t1⟩ := topF_range h i0 i1
    exact (nodup_ordF h _ _ t0 t1).filter _
theorem countP_imp {p q : Int → Bool} : ∀ {T : List Int}, (∀ x ∈ T, p x = true → q x = true) → T.countP p ≤ T.countP q
  | [], _ => Nat.le_refl _
  | x :: r, h => by
    have ih := countP_imp (T := r) (fun y hy => h y (List.mem_cons_of_mem _ hy))
    have h1 := h x (List.mem_cons_self ..)
    rw [List.countP_cons, List.countP_cons]
    cases hp : p x
    · simp; omega
    · rw [h1 hp]; omega
theorem keeps_one {l : List Nd} {cs : List Ct} {id : Int} {on : Bool} (hc : chkE l cs id = 0) (h1 : oneF l cs = true) : oneF l (chkF l cs id on) = true := by
  obtain ⟨hok, hO⟩ := oneF_iff.1 h1
  have hin : okD l cs = true ∧ 0 ≤ id ∧ id < l.length := by
    unfold chkE at hc
    split at hc
    · assumption
    · omega
  obtain ⟨_, i0, i1⟩ := hin
  have hk2 := hok
  unfold okD at hk2
  rw [Bool.and_eq_true, decide_eq_true_iff] at hk2
  obtain ⟨hrB, hll⟩ := hk2
  have hRP := (rightB_iff l).1 hrB
  obtain ⟨K, rfl⟩ := Int.eq_ofNat_of_zero_le i0
  rw [chkF_yes hc, Int.toNat_natCast]
  refine oneF_yes (by unfold okD; rw [hrB, chkP_len, decide_eq_true hll]; rfl) (fun j hj => ?_)
  have hkey : ∀ c ∈ memF l (j : Nat), chB (chkP cs (offP l (K : Nat) on) K on) c = if c = (K : Int) then on else (chB cs c && !(on && decide (c ∈ memF l (K : Nat)))) := by
    intro c hcm
    obtain ⟨_, _, c0, c1⟩ := mem_same hcm
    obtain ⟨q, rfl⟩ := Int.eq_ofNat_of_zero_le c0
    rw [chB_chk (by omega : q < cs.length), memF_iff hRP q (by omega)]
    by_cases e : q = K
    · subst e; rw [if_pos rfl, if_pos rfl]
    · rw [if_neg e, if_neg (by omega)]; rfl
  unfold cntM
  by_cases hKj : (K : Int) ∈ memF l (j : Nat)
  · obtain ⟨hs, _⟩ := mem_same hKj
    cases on
    · refine Nat.le_trans (countP_imp (q := chB cs) (fun c hcm h => ?_)) (hO j hj)
      rw [hkey c hcm] at h
      split at h
      · cases h
      · simpa using h
    · refine Nat.le_trans (countP_imp (q := fun c => c == (K : Int)) (fun c hcm h => ?_)) (List.nodup_iff_count.1 (mem_nodup hRP (j : Nat)) (K : Int))
      rw [hkey c hcm] at h
      split at h
      · rename_i e
        exact beq_iff_eq.2 e
      · rw [hs, decide_eq_true hcm] at h
        simp at h
  · refine Nat.le_trans (countP_imp (q := chB cs) (fun c hcm h => ?_)) (hO j hj)
    rw [hkey c hcm] at h
    split at h
    · rename_i e
      subst e
      exact absurd hcm hKj
    · rw [Bool.and_eq_true] at h
      exact h.1
set_option maxHeartbeats 4000000 in
set_option maxRecDepth 100000 in
theorem groupKeeps_walk (l : List Nd) (cs : List Ct) (vn vc : Value) (id : Int) (on : Bool) (w : World) (hD : DocAt l cs vn vc w) (hid : (Lit.int .i64 id).wf = true) :
    Calls Try.prog 10 #[.agg #[vn, vc], .int .i64 id, .bool on] w fun e w' => e = .returned (.bool true) ∧ Below w.heap.size w w' := by
  have hKO := Lib.hid (fun (h : chkE l cs id = 0) (h1 : oneF l cs = true) => keeps_one (on := on) h h1)
  obtain ⟨a1, cap1, rfl⟩ := hD.nodes.nodes.len
  obtain ⟨a2, cap2, rfl⟩ := hD.ctls.len
  obtain ⟨hD1, hb1, hs1, c0, c1⟩ := doc_box (T := 38) hD
  have hZ : SizedC (chkF l cs id on) := hD.sz.chk
  go_enter Try.func10, Try.ntmps10
  go_wp2_with fail
  generalize World.alloc _ _ = W1 at hD1 hb1 hs1 c0 c1 ⊢
  refine (wakes17_any _).mono ?_
  rintro e w2 ⟨rfl, hb2⟩
  have hD2 := hD1.kept hb2
  have d0 := cellK hb2 (by omega) c0
  have d1 := cellK hb2 (by omega) c1
  have hs2 := hb2.size
  go_wp2_with fail
  refine (lawCopied17_any l cs _ _ _ hD2).mono ?_
  rintro e w3 ⟨vn3, vc3, rfl, hO3, hb3⟩
  have hb03 := bs (bs hb1 hb2) hb3
  have hs3 := hb3.size
  have d03 := cellK hb3 (by omega) d0
  have d13 := cellK hb3 (by omega) d1
  go_wp2_with fail
  refine (check_any l cs _ _ id on _ hO3).mono ?_
  rintro e w5 ⟨v5, rfl, hC5, hb5⟩
  have hD5 := (hD2.kept hb3).kept hb5
  have d05 := cellK hb5 (by omega) d03
  have d15 := cellK hb5 (by omega) d13
  have hb05 := bs hb03 hb5
  have hs5 := hb5.size
  by_cases hE : chkE l cs id = 0
  case neg =>
    have q1 := intNe hE
    have q2 : (chkE l cs id != 0) = true := by rw [bne, q1]; rfl
    generalize chkE l cs id = z at q1 q2 ⊢
    clear hE hKO
    go_wp2_with fail
    go_ret
    exact ⟨rfl, hb05⟩
  have HE := Lib.hid hE
  rw [HE.out]
  go_wp2_with fail
  refine (refOne_any l cs _ _ _ hD5).mono ?_
  rintro e w6 ⟨rfl, hb6⟩
  have d06 := cellK hb6 (by omega) d05
  have d16 := cellK hb6 (by omega) d15
  have hs6 := hb6.size
  cases h1 : oneF l cs
  · clear hE h1 HE hKO
    go_wp2_with fail
    go_ret
    exact ⟨rfl, bs hb05 hb6⟩
  have hR := Lib.hid (hKO.out hE h1)
  have hD6 : DocAt l (chkF l cs id on) _ v5 w6 := ⟨(hD5.kept hb6).nodes, hC5.kept hb6, hZ⟩
  obtain ⟨a5, cap5, rfl⟩ := hC5.len
  clear hE h1 HE hKO
  go_wp2_with fail
  refine (grpOne_any l (chkF l cs id on) _ _ _ hD6).mono ?_
  rintro e w7 ⟨rfl, hb7⟩
  rw [hR.out]
  go_wp2_with fail
  go_ret
  exact ⟨rfl, bs (bs hb05 hb6) hb7⟩
end Go.Proofs.Ytenicjebccdekaa

/-
  STATES SETTLED: of each group the last that is checked stays checked: plain laws.
-/
namespace Go.Proofs.Ytenicjebccdekaa
set_option linter.unusedVariables false
set_option linter.unusedSimpArgs false
open Go.RowKit PT

/-- the states, checked as f says -/
def chW (cs : List Ct) (f : Nat → Bool) : List Ct := cs.mapIdx (fun j c => { c with ch := f j })
theorem chW_len (cs : List Ct) (f : Nat → Bool) : (chW cs f).length = cs.length := List.length_mapIdx
theorem chW_get {cs : List Ct} {f : Nat → Bool} {j : Nat} (hj : j < cs.length) : (chW cs f)[j]? = some { cs[j] with ch := f j } := by
  unfold chW
  rw [List.getElem?_mapIdx, List.getElem?_eq_getElem hj]
  rfl
theorem chW_ch {cs : List Ct} {f : Nat → Bool} {j : Nat} (hj : j < cs.length) : chB (chW cs f) (j : Nat) = f j := by
  unfold chB
  rw [Int.toNat_natCast, chW_get hj]
theorem chW_congr {cs : List Ct} {f g : Nat → Bool} (h : ∀ j, j < cs.length → f j = g j) : chW cs f = chW cs g := by
  apply List.ext_getElem?
  intro j
  by_cases hj : j < cs.length
  · rw [chW_get hj, chW_get hj, h j hj]
  · rw [List.getElem?_eq_none (by rw [chW_len]; omega), List.getElem?_eq_none (by rw [chW_len]; omega)]
theorem chW_same (cs : List Ct) : chW cs (fun j => chB cs (j : Nat)) = cs := by
  apply List.ext_getElem?
  intro j
  by_cases hj : j < cs.length
  · rw [chW_get hj, List.getElem?_eq_getElem hj, chB_at hj]
  · rw [List.getElem?_eq_none (by rw [chW_len]; omega), List.getElem?_eq_none (by omega)]
theorem chW_twice (cs : List Ct) (f g : Nat → Bool) : chW (chW cs f) g = chW cs g := by
  apply List.ext_getElem?
  intro j
  by_cases hj : j < cs.length
  · have hj' : j < (chW cs f).length := by rw [chW_len]; exact hj
    have h1 := chW_get (f := f) hj
    rw [List.getElem?_eq_getElem hj'] at h1
    rw [chW_get hj', chW_get hj, Option.some.inj h1]
  · rw [List.getElem?_eq_none (by rw [chW_len, chW_len]; omega), List.getElem?_eq_none (by rw [chW_len]; omega)]
theorem chW_at {cs : List Ct} {L : List CtT} {f : Nat → Bool} (hL : L.map (·.1) = chW cs f) {r : Nat} (hr : r < L.length) : L[r].1.ch = f r := by
  have hlen : L.length = cs.length := by have := congrArg List.length hL; rwa [List.length_map, chW_len] at this
  have h1 : (L.map (·.1))[r]? = some L[r].1 := by rw [List.getElem?_map, List.getElem?_eq_getElem hr]; rfl
  rw [hL, chW_get (by omega : r < cs.length)] at h1
  rw [← Option.some.inj h1]
theorem chW_set {cs : List Ct} {L : List CtT} {f g : Nat → Bool} (hL : L.map (·.1) = chW cs f) {r : Nat} (hr : r < L.length) {b : Bool} (hg : ∀ j, j < cs.length → g j = if j = r then b else f j) :
    (L.map (·.1)).set r { L[r].1 with ch := b } = chW cs g := by
  have hlen : L.length = cs.length := by have := congrArg List.length hL; rwa [List.length_map, chW_len] at this
  have hr' : r < cs.length := by omega
  have h1 : (L.map (·.1))[r]? = some L[r].1 := by rw [List.getElem?_map, List.getElem?_eq_getElem hr]; rfl
  rw [hL, chW_get hr'] at h1
  apply List.ext_getElem?
  intro j
  rw [List.getElem?_set, hL, chW_len]
  by_cases hj : r = j
  · subst hj
    rw [if_pos rfl, if_pos hr', chW_get hr', hg r hr', if_pos rfl, ← Option.some.inj h1]
  · rw [if_neg hj]
    by_cases hjl : j < cs.length
    · rw [chW_get hjl, chW_get hjl, hg j hjl, if_neg (fun e => hj e.symm)]
    · rw [List.getElem?_eq_none (by rw [chW_len]; omega), List.getElem?_eq_none (by rw [chW_len]; omega)]
/-- the last that is checked, -1: there is none -/
def lastF (cs : List Ct) (T : List Int) : Int := T.foldl (fun a k => if chB cs k = true then k else a) (-1)
theorem lastF_snoc (cs : List Ct) (T : List Int) (c : Int) : lastF cs (T ++ [c]) = if chB cs c = true then c else lastF cs T := by
  unfold lastF
  rw [List.foldl_append]
  rfl
theorem lastF_take (cs : List Ct) {T : List Int} {k : Nat} (hk : k < T.length) : lastF cs (T.take (k + 1)) = if chB cs T[k] = true then T[k] else lastF cs (T.take k) := by
  rw [List.take_succ_eq_append_getElem hk, lastF_snoc]
theorem foldl_last (p : Int → Bool) : ∀ (T : List Int) (a : Int), (T.foldl (fun a k => if p k = true then k else a) a = a ∧ ∀ c ∈ T, p c = false) ∨ (T.foldl (fun a k => if p k = true then k else a) a ∈ T ∧ p (T.foldl (fun a k => if p k = true then k else a) a) = true)
  | [], a => .inl ⟨rfl, by simp⟩
  | x :: r, a => by
    rw [List.foldl_cons]
    cases hp : p x
    · rcases foldl_last p r a with ⟨h1, h2⟩ | ⟨h1, h2⟩
      · refine .inl ⟨by simpa using h1, fun c hc => ?_⟩
        rcases List.mem_cons.1 hc with rfl | hc
        · exact hp
        · exact h2 c hc
      · exact .inr ⟨List.mem_cons_of_mem _ (by simpa using h1), by simpa using h2⟩
    · rcases foldl_last p r x with ⟨h1, h2⟩ | ⟨h1, h2⟩
      · simp only [if_true]
        rw [h1]
        exact .inr ⟨List.mem_cons_self .., hp⟩
      · exact .inr ⟨List.mem_cons_of_mem _ (by simpa using h1), by simpa using h2⟩
theorem lastF_spec (cs : List Ct) (T : List Int) : (lastF cs T = -1 ∧ ∀ c ∈ T, chB cs c = false) ∨ (lastF cs T ∈ T ∧ chB cs (lastF cs T) = true) := foldl_last (chB cs) T (-1)
noncomputable def lastM (l : List Nd) (cs : List Ct) (j : Int) : Int := lastF cs (memF l j)
noncomputable def stB (l : List Nd) (cs : List Ct) (j : Nat) : Bool := if radB l j = true then chB cs (j : Nat) && decide ((j : Int) = lastM l cs j) else chB cs (j : Nat)
noncomputable def setF (l : List Nd) (cs : List Ct) : List Ct := if okD l cs = true then chW cs (stB l cs) else []
theorem setF_yes {l : List Nd} {cs : List Ct} (h : okD l cs = true) : setF l cs = chW cs (stB l cs) := if_pos h
theorem setF_no {l : List Nd} {cs : List Ct} (h : okD l cs = false) : setF l cs = [] := if_neg (by rw [h]; decide)
theorem SizedC.set {l : List Nd} {cs : List Ct} (h : SizedC cs) : SizedC (setF l cs) := by
  unfold setF
  split
  · refine h.same (chW_len _ _) (fun j c hc => ?_)
    have hj : j < cs.length := by have := (List.getElem?_eq_some_iff.1 hc).1; rwa [chW_len] at this
    rw [chW_get hj] at hc
    exact ⟨cs[j], List.getElem?_eq_getElem hj, by rw [← Option.some.inj hc]⟩
  · exact ⟨by simp, by simp⟩
/-- a node that is none of a group's -/
theorem lastM_none {l : List Nd} {cs : List Ct} {j : Int} (hr : radB l j = false) : lastM l cs j = -1 := by
  unfold lastM
  rw [show memF l j = [] from if_neg (fun h => by rw [hr] at h; cases h.2)]
  rfl
theorem setF_ok {l : List Nd} {cs : List Ct} (h : okD l cs = true) : okD l (setF l cs) = true := by
  have h2 := h
  unfold okD at h2 ⊢
  rw [Bool.and_eq_true, decide_eq_true_iff] at h2
  rw [setF_yes h, h2.1, chW_len, decide_eq_true h2.2]
  rfl
theorem st_mem {l : List Nd} {cs : List Ct} (hl : l.length = cs.length) {j : Int} {c : Int} (hc : c ∈ memF l j) (h : okD l cs = true) : chB (setF l cs) c = (chB cs c && decide (c = lastM l cs j)) := by
  obtain ⟨hm, hr, c0, c1⟩ := mem_same hc
  obtain ⟨q, rfl⟩ := Int.eq_ofNat_of_zero_le c0
  rw [setF_yes h, chW_ch (by omega)]
  unfold stB
  rw [if_pos hr]
  unfold lastM
  rw [hm]
theorem set_one {l : List Nd} {cs : List Ct} (h : okD l cs = true) : oneF l (setF l cs) = true := by
  have hk2 := h
  unfold okD at hk2
  rw [Bool.and_eq_true, decide_eq_true_iff] at hk2
  obtain ⟨hrB, hll⟩ := hk2
  have hRP := (rightB_iff l).1 hrB
  refine oneF_yes (setF_ok h) (fun j hj => ?_)
  unfold cntM
  refine Nat.le_trans (countP_imp (q := fun c => c == lastM l cs (j : Nat)) (fun c hcm hp => ?_)) (List.nodup_iff_count.1 (mem_nodup hRP (j : Nat)) (lastM l cs (j : Nat)))
  rw [st_mem hll hcm h, Bool.and_eq_true, decide_eq_true_iff] at hp
  exact beq_iff_eq.2 hp.2
theorem set_again {l : List Nd} {cs : List Ct} (h : okD l cs = true) : setF l (setF l cs) = setF l cs := by
  have hk2 := h
  unfold okD at hk2
  rw [Bool.and_eq_true, decide_eq_true_iff] at hk2
  obtain ⟨hrB, hll⟩ := hk2
  have hRP := (rightB_iff l).1 hrB
  rw [setF_yes (setF_ok h)]
  have hs := setF_yes h
  conv => lhs; arg 1; rw [hs]
  rw [chW_twice, hs]
  refine chW_congr (fun j hj => ?_)
  rw [← hs]
  have hcj : chB (setF l cs) (j : Nat) = stB l cs j := by rw [hs, chW_ch hj]
  show stB l (setF l cs) j = stB l cs j
  rw [← hcj]
  cases hr : radB l (j : Nat)
  · unfold stB; rw [if_neg (by rw [hr]; decide)]
  · have he : stB l (setF l cs) j = (chB (setF l cs) (j : Nat) && decide ((j : Int) = lastM l (setF l cs) j)) := by
      conv => lhs; unfold stB
      rw [if_pos hr]
    rw [he]
    cases hc : chB (setF l cs) (j : Nat)
    · rfl
    · rw [Bool.true_and, decide_eq_true_iff]
      have hself := mem_self hRP hr
      have h1 := hc
      rw [st_mem hll hself h, Bool.and_eq_true, decide_eq_true_iff] at h1
      rcases lastF_spec (setF l cs) (memF l (j : Nat)) with ⟨_, h2⟩ | ⟨h2, h3⟩
      · rw [h2 _ hself] at hc; cases hc
      · rw [st_mem hll h2 h, Bool.and_eq_true, decide_eq_true_iff] at h3
        exact h1.2.trans h3.2.symm
end Go.Proofs.Ytenicjebccdekaa

/-
  STATES SETTLED: group.Settle: the walk.
-/
namespace Go.Proofs.Ytenicjebccdekaa
set_option linter.unusedVariables false
set_option linter.unusedSimpArgs false
open Go.RowKit PT

theorem Fil.grown {base r : Nat} {es : List Ent} {v : Value} {w w' : World} (h : Fil base es v w) (hg : w.grownBy w' (some r)) (hr : base ≤ r) (hit : ∀ cur, w.heap[r]? ≠ some (.cells cur 93 (0, 0))) : Fil base es v w' := by
  have hk : ∀ b o s n c, v = .slice (some ⟨b, o, s⟩) n c → es ≠ [] → w'.heap[b]? = w.heap[b]? := fun b o s n c hv hn => by
    refine hg.block b (by have h1 := h.1; rw [hv] at h1; exact h1.blk hn) (fun e => ?_)
    have e' : b = r := by injection e
    rcases h.2 b o s n c hv hn with h2 | ⟨cur, h2⟩
    · omega
    · rw [e'] at h2
      exact hit cur h2
  refine ⟨?_, fun b o s n c hv hn => ?_⟩
  · rcases h.1 with h1 | ⟨b, o, cap, hv, h1, h4⟩
    · exact .inl h1
    · by_cases hn : es = []
      · subst hn; subst hv
        exact .inl ⟨rfl, _, cap, rfl, fun e => by cases e⟩
      · refine .inr ⟨b, o, cap, hv, Nat.lt_of_lt_of_le h1 hg.size, fun j e he i' u' hu => ?_⟩
        rw [← h4 j e he i' u' hu]
        simp only [World.cell?, hk b o none _ _ hv hn]
  · rw [hk b o s n c hv hn]
    exact h.2 b o s n c hv hn
theorem OC.grown {base r : Nat} {L : List CtT} {v : Value} {w w' : World} (h : OC base L v w) (hg : w.grownBy w' (some r)) (hr : base ≤ r) (hne : v.ownBlock = none ∨ v.ownBlock ≠ some r) (hit : ∀ cur, w.heap[r]? ≠ some (.cells cur 93 (0, 0))) : OC base L v w' :=
  ⟨World.ownsRow.kept h.row hg hne, fun t ht => (h.fil t ht).grown hg hr hit⟩
theorem iter_no {P : Program} {w : World} {k : TypeId} {R : Value → Option (DataW Unit × List MemPlace)} {b r n cnt : Nat} {D : Du} {left : Lit → Bool} (h : w.ranges P k R b r n D left cnt) (cur : Array Value) (T : TypeId) : w.heap[r]? ≠ some (.cells cur T (0, 0)) := by
  obtain ⟨es, clock, since, seen, c0, _, _, _, _, hr, _⟩ := h
  rw [hr]
  intro e
  cases e
/-- what a state reads while the groups are gone through -/
noncomputable def midB (l : List Nd) (cs : List Ct) (left : Lit → Bool) (j : Nat) : Bool := if radB l j = true ∧ left (klF l j) = false then stB l cs j else chB cs (j : Nat)
noncomputable def inB (l : List Nd) (cs : List Ct) (left : Lit → Bool) (T : List Int) (j : Nat) : Bool := if (j : Int) ∈ T then false else midB l cs left j
theorem midB_start {l : List Nd} {cs : List Ct} (hRP : RightP l) {D : Du} (hD : GInv l (treesF l l.length) D) (j : Nat) : midB l cs (Go.Maps.has D) j = chB cs (j : Nat) := by
  unfold midB
  refine if_neg (fun h => ?_)
  rw [(hD.has _).2 ⟨_, tree_self hRP h.1, rfl⟩] at h
  cases h.2
theorem midB_end {l : List Nd} {cs : List Ct} {left : Lit → Bool} (h : ∀ kl, left kl = false) (j : Nat) : midB l cs left j = stB l cs j := by
  unfold midB
  by_cases hr : radB l j = true
  · rw [if_pos ⟨hr, h _⟩]
  · rw [if_neg (fun e => hr e.1)]
    unfold stB
    rw [if_neg hr]
theorem inB_at {l : List Nd} {cs : List Ct} {left : Lit → Bool} {T : List Int} {q : Nat} (hq : (q : Int) ∉ T) (hl : left (klF l q) = true) : inB l cs left T q = chB cs (q : Nat) := by
  unfold inB midB
  rw [if_neg hq, if_neg (fun e => by rw [hl] at e; cases e.2)]
theorem inB_next {l : List Nd} {cs : List Ct} {left : Lit → Bool} {T : List Int} {q : Nat} (j : Nat) : inB l cs left (T ++ [(q : Int)]) j = if j = q then false else inB l cs left T j := by
  unfold inB
  by_cases e : j = q
  · subst e; rw [if_pos rfl, if_pos (by simp)]
  · rw [if_neg e]
    by_cases h : (j : Int) ∈ T
    · rw [if_pos h, if_pos (List.mem_append_left _ h)]
    · rw [if_neg h, if_neg (fun hm => by
        rcases List.mem_append.1 hm with hm | hm
        · exact h hm
        · have := List.mem_singleton.1 hm
          omega)]
theorem atK_nodup {l : List Nd} (h : RightP l) (kl : Lit) : (atK l (treesF l l.length) kl).Nodup := by
  cases he : atK l (treesF l l.length) kl with
  | nil => exact List.nodup_nil
  | cons c r =>
    obtain ⟨_, _, hr, hk⟩ := atK_mem h (kl := kl) (c := c) (by rw [he]; exact List.mem_cons_self ..)
    have := mem_nodup h c
    unfold memF at this
    rw [if_pos ⟨rightB_yes h, hr⟩, hk, he] at this
    exact this
set_option maxRecDepth 100000 in
/-- behind a group: its last that was checked is checked -/
theorem mid_step {l : List Nd} {cs : List Ct} (h : RightP l) {left : Lit → Bool} {kl : Lit} (j : Nat) (hj : j < l.length) :
    (if (j : Int) = lastF cs (atK l (treesF l l.length) kl) then true else inB l cs left (atK l (treesF l l.length) kl) j) = midB l cs (fun z => left z && !z.sameKey kl) j := by
  have hmem : (j : Int) ∈ atK l (treesF l l.length) kl ↔ radB l j = true ∧ klF l j = kl := by
    constructor
    · intro hm
      obtain ⟨_, _, a, b⟩ := atK_mem h hm
      exact ⟨a, b⟩
    · rintro ⟨a, b⟩
      exact List.mem_filter.2 ⟨tree_self h a, (isK_iff l kl j).2 b⟩
  by_cases hm : (j : Int) ∈ atK l (treesF l l.length) kl
  · obtain ⟨hr, hk⟩ := hmem.1 hm
    have hM : lastM l cs j = lastF cs (atK l (treesF l l.length) kl) := by
      unfold lastM memF
      rw [if_pos ⟨rightB_yes h, hr⟩, hk]
    have hR : midB l cs (fun z => left z && !z.sameKey kl) j = stB l cs j := by
      unfold midB
      refine if_pos ⟨hr, ?_⟩
      rw [hk]
      have : kl.sameKey kl = true := by
        have hI := keyLaw.key (klF_of h (k := (j : Int)) (by omega) (by omega))
        rw [hk] at hI
        exact WideAt.sameKey_self hI
      simp [this]
    rw [hR]
    unfold stB inB
    rw [if_pos hr, if_pos hm, hM]
    by_cases e : (j : Int) = lastF cs (atK l (treesF l l.length) kl)
    · rw [if_pos e, decide_eq_true e, Bool.and_true]
      rcases lastF_spec cs (atK l (treesF l l.length) kl) with ⟨h1, _⟩ | ⟨_, h2⟩
      · omega
      · rw [← e] at h2; exact h2.symm
    · rw [if_neg e, decide_eq_false e, Bool.and_false]
  · have hne : ¬ (j : Int) = lastF cs (atK l (treesF l l.length) kl) := by
      intro e
      rcases lastF_spec cs (atK l (treesF l l.length) kl) with ⟨h1, _⟩ | ⟨h2, _⟩
      · omega
      · rw [← e] at h2; exact hm h2
    rw [if_neg hne]
    unfold inB midB
    rw [if_neg hm]
    by_cases hr : radB l j = true
    · have hk : klF l j ≠ kl := fun e => hm (hmem.2 ⟨hr, e⟩)
      have e : (left (klF l (j : Nat)) && !(klF l (j : Nat)).sameKey kl) = left (klF l (j : Nat)) := by rw [Go.Maps.sameKey_ne hk]; simp
      simp only [e]
    · rw [if_neg (fun e => hr e.1), if_neg (fun e => hr e.1)]
set_option maxHeartbeats 8000000 in
set_option maxRecDepth 100000 in
theorem grpSettle_any (l : List Nd) (cs : List Ct) (vn vc : Value) (w : World) (hD : DocAt l cs vn vc w) :
    Calls Try.prog 47 #[.agg #[vn, vc]] w fun e w' => ∃ vo, e = .returned vo ∧ Ctls (setF l cs) vo w' ∧ Below w.heap.size w w' := by
  have hfit := hD.nodes.fits
  have hsz := hD.sz
  obtain ⟨a1, cap1, rfl⟩ := hD.nodes.nodes.len
  obtain ⟨a2, cap2, rfl⟩ := hD.ctls.len
  obtain ⟨hD1, hb1, hs1, c0, c1⟩ := doc_box (T := 38) hD
  cases hk : okD l cs
  · have hR := Lib.hid (setF_no hk)
    have HK := Lib.hid hk
    clear hk
    go_enter Try.func47, Try.ntmps47
    go_wp2_with fail
    refine (optRight_any l cs _ _ _ hD1).mono ?_
    rintro e w2 ⟨rfl, hb2⟩
    rw [HK.out]
    go_wp2_with fail
    go_ret
    exact ⟨_, rfl, by rw [hR.out]; exact (OC.nil 0 _).ctls, bs hb1 hb2⟩
  have hk2 := hk
  unfold okD at hk2
  rw [Bool.and_eq_true, decide_eq_true_iff] at hk2
  obtain ⟨hrB, hll⟩ := hk2
  have hRP := (rightB_iff l).1 hrB
  have HK := Lib.hid hk
  have Hll := Lib.hid hll
  have hpos := hRP.pos
  have hS := Lib.hid (setF_yes hk)
  have hTr := Lib.hid (fun (kl : Lit) c (hc : c ∈ atK l (treesF l l.length) kl) => atK_mem hRP hc)
  have hnd := Lib.hid (fun kl => atK_nodup hRP kl)
  have hst := Lib.hid (fun (left : Lit → Bool) (kl : Lit) (j : Nat) (hj : j < l.length) => mid_step (cs := cs) hRP (left := left) (kl := kl) j hj)
  have hm0 := Lib.hid (fun (D : Du) (hD : GInv l (treesF l l.length) D) (j : Nat) => midB_start (cs := cs) hRP hD j)
  have htl := trees_len hRP l.length (Nat.le_refl _)
  have hmax := hRP.max
  clear hk hll
  go_enter Try.func47, Try.ntmps47
  go_wp2_with fail
  generalize World.alloc _ _ = W1 at hD1 hb1 hs1 c0 c1 ⊢
  refine (optRight_any l cs _ _ _ hD1).mono ?_
  rintro e w2 ⟨rfl, hb2⟩
  rw [HK.out]
  have d0 := cellK hb2 (by omega) c0
  have d1 := cellK hb2 (by omega) c1
  have hs2 := hb2.size
  go_wp2_with fail
  refine (grpCopied_any cs _ _ hsz (hD1.ctls.kept hb2)).mono ?_
  rintro e wc ⟨L, vo, rfl, hL, hO, hbc⟩
  have hb1c := bs hb2 hbc
  have hsc := hb1c.size
  have hLl : L.length = cs.length := by rw [← hL.out, List.length_map]
  obtain ⟨g, gc, cur, hvo, hgb, hgc, _, _⟩ := hO.at (k := 0) (by have := Hll.out; omega)
  rw [hLl] at hvo
  subst hvo
  have hglt := (Array.getElem?_eq_some_iff.1 hgc).1
  have dc0 := cellK hbc (by omega) d0
  go_wp2_with fail
  refine (groupAll_any l hRP _ _ hfit (hD1.nodes.nodes.kept hb1c)).mono ?_
  rintro e w3 ⟨D, rfl, hG, hInv, hb3⟩
  have hb13 := bs hb1c hb3
  have hs3 := hb13.size
  have hsc3 := hb3.size
  have hO3 := hO.kept hb3
  have hown := groups_map hG
  obtain ⟨hbl, _⟩ := og_lt hG
  have hL0 := Lib.hid (hL.out.trans ((chW_same cs).symm.trans (chW_congr (g := midB l cs (Go.Maps.has D)) (fun j _ => (hm0.out D hInv j).symm))))
  generalize hT : (treesF l l.length).length = nT at *
  go_wp2_with (first
    | (at_range; refine wpList_range_own _ rfl _ 70 rfl 73 28 keyLaw Try.underlying70 _ wc.heap.size nT D rfl hown ?_; intro w4 hrg4 hg4 hs4))
  go_frame
  have hb4 := grown_below hg4
  have hgw4 : w3.grownBy w4 (some g) := hg4.but _
  have hO4 := hO3.kept hb4
  go_loopw [19] (fun _ wr => ∃ (left : Lit → Bool) (cnt : Nat) (L : List CtT), wr.ranges Try.prog 73 (rowElem w3 (wc.heap.size + 1) 3 .i64) wc.heap.size w3.heap.size nT D left cnt ∧ w3.grownBy wr (some g) ∧ OC w2.heap.size L (.slice (some ⟨g, 0, none⟩) cs.length gc) wr ∧ Hid (L.map (·.1) = chW cs (midB l cs left)))
    (fun _ wr => wr.rangeLeft wc.heap.size w3.heap.size)
  case atStart => exact ⟨_, _, L, hrg4, hgw4, hO4, hL0⟩
  case round =>
    obtain ⟨left, cnt, L', hrg, hgw, hO', hL'⟩ := hrel
    have hsr := hgw.size
    go_wp2_with (first
      | (at_next; refine wpList_next_groups _ rfl _ rfl 73 3 keyLaw w3 (wc.heap.size + 1) wc.heap.size w3.heap.size nT D left cnt rfl hrg ?_ ?_))
    · intro _ hl0
      have hfin := Lib.hid (hL'.out.trans (chW_congr (g := stB l cs) (fun j _ => midB_end hl0 j)))
      have hCt := hO'.ctls
      rw [hfin.out, ← hS.out] at hCt
      have hbf : Below w.heap.size w wr := (bs hb1 hb13).grown hgw (bs hb1 hb13).size (fun k hk => by cases hk; have := (bs hb1 hb2).size; omega)
      go_wp2_with fail
      go_ret
      exact ⟨_, rfl, hCt, hbf⟩
    · intro x ad cp zs kl w5 cnt5 hlk ho hat hrg5 hlt5 hg5 hs5 hen
      have hzs := hInv.zs ho hat
      have hgw5 : w3.grownBy w5 (some g) := hgw.andThen hg5 (fun j hj => by cases hj; exact .inl (Nat.le_refl _))
      have hO5 := hO'.grown hg5 (by omega) (.inr (fun e => by simp [Value.ownBlock] at e; omega)) (fun cur => iter_no hrg cur _)
      have hzr := Lib.hid (fun c (hc : c ∈ zs) => by rw [hzs] at hc; exact hTr.out kl c hc)
      have hzn := Lib.hid (show zs.Nodup by rw [hzs]; exact hnd.out kl)
      have hz1 := Lib.hid (fun (j : Nat) (hj : j < l.length) => by have := hst.out left kl j hj; rwa [← hzs] at this)
      have hzl : zs.length ≤ nT := by rw [hzs, ← hT]; exact List.length_filter_le _ _
      have hov : OV (wc.heap.size + 1) 3 (ints zs) (.slice ad zs.length cp) w5 := World.ownsRow.kept (ints_ov ho) hgw5 (by
        have := own_ne (ints_ov ho) hO3.row (by decide)
        exact this)
      have hL5 := Lib.hid (hL'.out.trans (chW_congr (g := inB l cs left (zs.take 0)) (fun j _ => by unfold inB; simp)))
      clear hzs hat ho
      go_wp2_with fail
      go_loopw [6, 25] (fun la i wx => ∃ (k : Nat) (L : List CtT), k ≤ zs.length ∧ i = .int .i64 k ∧ la = .int .i64 (lastF cs (zs.take k)) ∧ Hid (L.map (·.1) = chW cs (inB l cs left (zs.take k))) ∧ OC w2.heap.size L (.slice (some ⟨g, 0, none⟩) cs.length gc) wx ∧ OV (wc.heap.size + 1) 3 (ints zs) (.slice ad zs.length cp) wx ∧ w5.grownBy wx (some g)) (fun _ i _ => zs.length - (intOf i).toNat)
      case atStart => exact ⟨0, L', Nat.zero_le _, rfl, rfl, hL5, hO5, hov, grown_refl _ _⟩
      case round =>
        obtain ⟨k, L6, hkz, rfl, rfl, hL6, hO6, hov6, hgx⟩ := hrel
        have hLl6 : L6.length = cs.length := by have := congrArg List.length hL6.out; rwa [List.length_map, chW_len] at this
        by_cases hlt : k < zs.length
        · obtain ⟨q0, q1, _, hkq⟩ := hzr.out zs[k] (List.getElem_mem hlt)
          obtain ⟨tg, tgc, hv, _, hcell⟩ := hov6.at (by intro e; have := congrArg List.length e; rw [ints_len, List.length_nil] at this; omega)
          rw [ints_len] at hv
          cases hv
          have hcc := hcell k (.int .i64 zs[k]) (by rw [ints, List.getElem?_map, List.getElem?_eq_getElem hlt]; rfl)
          have hnx := Lib.hid (lastF_take cs hlt)
          have htk := Lib.hid (List.take_succ_eq_append_getElem hlt)
          have hnot : zs[k] ∉ zs.take k := by
            intro hm
            obtain ⟨j, hj, hje⟩ := List.getElem_of_mem hm
            rw [List.length_take] at hj
            rw [List.getElem_take] at hje
            have := (List.getElem_inj hzn.out).1 hje
            omega
          have hk0 : (0 : Int) ≤ (k : Int) := by omega
          have hk1 : (k : Int) < (zs.length : Int) := by omega
          generalize zs[k] = c at *
          obtain ⟨q, rfl⟩ := Int.eq_ofNat_of_zero_le q0
          have hqc : q < cs.length := by have := Hll.out; omega
          have hq0 : (0 : Int) ≤ (q : Int) := by omega
          have hq1 : (q : Int) < (cs.length : Int) := by omega
          have hqL : q < L6.length := by omega
          have hval := inB_at (cs := cs) (left := left) hnot (by rw [hkq]; exact hlk)
          obtain ⟨g', gc', cur', hv, hgb', hg6, ⟨_, _, _, t3, _⟩, _⟩ := hO6.at hqL
          rw [hLl6] at hv
          cases hv
          rw [chW_at hL6.out hqL, hval] at t3
          cases hy : chB cs (q : Nat)
          · rw [hy] at t3
            have HN := Lib.hid (hnx.out.trans (if_neg (by rw [hy]; decide)))
            have hm := Lib.hid (hL6.out.trans (chW_congr (g := inB l cs left (zs.take (k + 1))) (fun j _ => by
              rw [htk.out, inB_next]
              by_cases e : j = q
              · subst e; rw [if_pos rfl, hval, hy]
              · rw [if_neg e])))
            clear hy hnx hval
            go_wp2_with fail
            go_roundw
            case rel => exact ⟨k + 1, L6, by omega, by go_num, by rw [HN.out], hm, hO6, hov6, hgx⟩
            case measure => simp [intOf]; omega
          · rw [hy] at t3
            have HN := Lib.hid (hnx.out.trans (if_pos hy))
            obtain ⟨L7, m7, hO7, hb7⟩ := hO6.setCh hqL false
            have hm := Lib.hid (m7.trans (chW_set hL6.out hqL (g := inB l cs left (zs.take (k + 1))) (fun j _ => by rw [htk.out, inB_next])))
            have hz0 : wr.frozen? ⟨g, q * 10 + 3, none⟩ = false := cells_not_frozen hg6
            have hov7 := ov_setT (i := q * 10 + 3) (u := .bool false) hov6 hg6 (by decide)
            have hgx7 := hgx.trans (grown_set (w := wr) (g := g) (i := q * 10 + 3) (.bool false))
            clear hy hnx hval m7
            go_wp2_with fail
            go_roundw
            case rel => exact ⟨k + 1, L7, by omega, by go_num, by rw [HN.out], hm, hO7, hov7, hgx7⟩
            case measure => simp [intOf]; omega
        · obtain rfl : k = zs.length := by omega
          rw [List.take_of_length_le (Nat.le_refl _)] at *
          have hrg6 := hrg5.kept hgx (by intro e; cases e; omega) (by intro e; cases e; omega)
          have hgw6 := hgw5.trans hgx
          by_cases h1 : 0 ≤ lastF cs zs
          case neg =>
            have h1' : decide ((0 : Int) ≤ lastF cs zs) = false := decide_eq_false h1
            have hm := Lib.hid (hL6.out.trans (chW_congr (g := midB l cs (fun z => left z && !z.sameKey kl)) (fun j hj => by
              rw [← hz1.out j (by have := Hll.out; omega), if_neg (by omega)])))
            generalize lastF cs zs = la at h1 h1' ⊢
            clear h1
            go_wp2_with fail
            go_roundw
            case rel => exact ⟨_, cnt5, L6, hrg6, hgw6, hO6, hm⟩
            case measure => rw [hrg6.left_eq, hrg.left_eq]; exact hlt5
          have h1' : decide ((0 : Int) ≤ lastF cs zs) = true := decide_eq_true h1
          have hmz : lastF cs zs ∈ zs := by
            rcases lastF_spec cs zs with ⟨h2, _⟩ | ⟨h2, _⟩
            · omega
            · exact h2
          obtain ⟨_, q1, _, _⟩ := hzr.out _ hmz
          have hz1' := Lib.hid hz1.out
          generalize lastF cs zs = la at h1 h1' q1 hz1' ⊢
          obtain ⟨q, rfl⟩ := Int.eq_ofNat_of_zero_le h1
          have hqc : q < cs.length := by have := Hll.out; omega
          have hq1 : (q : Int) < (cs.length : Int) := by omega
          have hqL : q < L6.length := by omega
          obtain ⟨g', gc', cur', hv, hgb', hg6, ⟨_, _, _, t3, _⟩, _⟩ := hO6.at hqL
          rw [hLl6] at hv
          cases hv
          obtain ⟨L7, m7, hO7, hb7⟩ := hO6.setCh hqL true
          have hm := Lib.hid (m7.trans (chW_set hL6.out hqL (g := midB l cs (fun z => left z && !z.sameKey kl)) (fun j hj => by
            rw [← hz1'.out j (by have := Hll.out; omega)]
            by_cases e : j = q
            · subst e; rw [if_pos rfl, if_pos rfl]
            · rw [if_neg e, if_neg (by omega)])))
          have hz0 : wr.frozen? ⟨g, q * 10 + 3, none⟩ = false := cells_not_frozen hg6
          have hgs := grown_set (w := wr) (g := g) (i := q * 10 + 3) (.bool true)
          have hrg7 := hrg6.kept hgs (by intro e; cases e; omega) (by intro e; cases e; omega)
          clear m7 h1
          go_wp2_with fail
          go_roundw
          case rel => exact ⟨_, cnt5, L7, hrg7, hgw6.trans hgs, hO7, hm⟩
          case measure => rw [hrg7.left_eq, hrg.left_eq]; exact hlt5
end Go.Proofs.Ytenicjebccdekaa

/-
  STATES SETTLED, by the document: ref17.Settle: the walk.
-/
namespace Go.Proofs.Ytenicjebccdekaa
set_option linter.unusedVariables false
set_option linter.unusedSimpArgs false
open Go.RowKit PT

theorem stB_none {l : List Nd} {cs : List Ct} (hRP : RightP l) {i : Nat} (h : lastM l cs i < 0) : stB l cs i = chB cs i := by
  unfold stB
  split
  · rename_i hr
    rcases lastF_spec cs (memF l (i : Nat)) with ⟨_, h2⟩ | ⟨h2, _⟩
    · rw [h2 _ (mem_self hRP hr)]; rfl
    · have := (mem_same h2).2.2.1
      unfold lastM at h
      omega
  · rfl
theorem stB_off {l : List Nd} {cs : List Ct} {i : Nat} (h : chB cs i = false) : stB l cs i = chB cs i := by
  unfold stB
  split
  · rw [h]; rfl
  · rfl
theorem stB_on {l : List Nd} {cs : List Ct} {i : Nat} (h : 0 ≤ lastM l cs i) (hc : chB cs i = true) : stB l cs i = decide ((i : Int) = lastM l cs i) := by
  unfold stB
  split
  · rw [hc, Bool.true_and]
  · rename_i hr
    rw [lastM_none (by simpa using hr)] at h
    omega
set_option maxHeartbeats 8000000 in
set_option maxRecDepth 100000 in
theorem refSettle_any (l : List Nd) (cs : List Ct) (vn vc : Value) (w : World) (hD : DocAt l cs vn vc w) :
    Calls Try.prog 48 #[.agg #[vn, vc]] w fun e w' => ∃ vo, e = .returned vo ∧ Ctls (setF l cs) vo w' ∧ Below w.heap.size w w' := by
  have hfit := hD.nodes.fits
  have hlen := hD.nodes.len
  have hsz := hD.sz
  obtain ⟨a1, cap1, rfl⟩ := hD.nodes.nodes.len
  obtain ⟨a2, cap2, rfl⟩ := hD.ctls.len
  obtain ⟨hD1, hb1, hs1, c0, c1⟩ := doc_box (T := 38) hD
  cases hk : okD l cs
  · have hR := Lib.hid (setF_no hk)
    have HK := Lib.hid hk
    clear hk
    go_enter Try.func48, Try.ntmps48
    go_wp2_with fail
    refine (refRight15_any l cs _ _ _ hD1).mono ?_
    rintro e w2 ⟨rfl, hb2⟩
    rw [HK.out]
    go_wp2_with fail
    go_ret
    exact ⟨_, rfl, by rw [hR.out]; exact (OC.nil 0 _).ctls, bs hb1 hb2⟩
  have hk2 := hk
  unfold okD at hk2
  rw [Bool.and_eq_true, decide_eq_true_iff] at hk2
  obtain ⟨hrB, hll⟩ := hk2
  have hRP := (rightB_iff l).1 hrB
  have HK := Lib.hid hk
  have Hll := Lib.hid hll
  have hS := Lib.hid (setF_yes hk)
  have hms := Lib.hid (fun (id k : Int) (h : k ∈ memF l id) => mem_same h)
  have hlm := Lib.hid (fun j : Nat => show lastM l cs j = lastF cs (memF l j) from rfl)
  clear hk hll
  go_enter Try.func48, Try.ntmps48
  go_wp2_with fail
  generalize World.alloc _ _ = W1 at hD1 hb1 hs1 c0 c1 ⊢
  refine (refRight15_any l cs _ _ _ hD1).mono ?_
  rintro e w2 ⟨rfl, hb2⟩
  rw [HK.out]
  have d1 := cellK hb2 (by omega) c1
  have hs2 := hb2.size
  go_wp2_with fail
  refine (refCopied15_any cs _ _ hsz (hD1.ctls.kept hb2)).mono ?_
  rintro e w3 ⟨L, vo, rfl, hL, hO, hb3⟩
  have hb13 := bs hb2 hb3
  have hLl : L.length = cs.length := by rw [← hL.out, List.length_map]
  obtain ⟨ao, gc, rfl, _⟩ := hO.len
  rw [hLl] at hO ⊢
  have hL0 := Lib.hid (hL.out.trans ((chW_same cs).symm.trans (chW_congr (g := fun j => if j < 0 then stB l cs j else chB cs (j : Nat)) (fun j _ => by simp))))
  go_wp2_with fail
  go_loopw [4] (fun i wr => ∃ (k : Nat) (L : List CtT), k ≤ l.length ∧ i = .int .i64 k ∧ Hid (L.map (·.1) = chW cs (fun j => if j < k then stB l cs j else chB cs (j : Nat))) ∧ OC w2.heap.size L (.slice ao cs.length gc) wr ∧ Below W1.heap.size W1 wr) (fun i _ => l.length - (intOf i).toNat)
  case atStart => exact ⟨0, L, Nat.zero_le _, rfl, hL0, hO, hb13⟩
  case round =>
    obtain ⟨i, L', hi, rfl, hL', hO', hbel⟩ := hrel
    have hLl' : L'.length = cs.length := by have := congrArg List.length hL'.out; rwa [List.length_map, chW_len] at this
    have d0 := cellK hbel (by omega) c0
    have d1 := cellK hbel (by omega) c1
    have hNr := hD1.nodes.nodes.kept hbel
    have hsr := hbel.size
    by_cases hlt : i < l.length
    case neg =>
      obtain rfl : i = l.length := by omega
      have hfin := Lib.hid (hL'.out.trans (chW_congr (g := stB l cs) (fun j hj => if_pos (by have := Hll.out; omega))))
      have hCt := hO'.ctls
      rw [hfin.out, ← hS.out] at hCt
      go_wp2_with fail
      go_ret
      exact ⟨_, rfl, hCt, bs hb1 hbel⟩
    have hi0 : (0 : Int) ≤ (i : Int) := by omega
    have hi1 : (i : Int) < (l.length : Int) := by omega
    have hic : i < cs.length := by have := Hll.out; omega
    have hi2 : (i : Int) < (cs.length : Int) := by omega
    have hmz := Lib.hid (hms.out (i : Nat))
    have hml := mem_len (l := l) (i : Nat)
    have hlz := Lib.hid (hlm.out i)
    have skip : stB l cs i = chB cs (i : Nat) → Hid (L'.map (·.1) = chW cs (fun j => if j < i + 1 then stB l cs j else chB cs (j : Nat))) := fun h => Lib.hid (hL'.out.trans (chW_congr (fun j _ => by
      by_cases e : j = i
      · subst e; rw [if_neg (Nat.lt_irrefl _), if_pos (Nat.lt_succ_self _), h]
      · by_cases h2 : j < i
        · rw [if_pos h2, if_pos (by omega)]
        · rw [if_neg h2, if_neg (by omega)])))
    have Skip := Lib.hid skip
    clear skip
    go_wp2_with fail
    refine (refMembers_any l _ (i : Nat) hlen hfit _ hNr).mono ?_
    generalize memF l (i : Nat) = zs at hmz hml hlz ⊢
    rintro e w5 ⟨tv, rfl, hT, hb5⟩
    obtain ⟨ta, tc, rfl, _⟩ := hT.form
    rw [ints_len] at hT ⊢
    have hb15 := bs hbel hb5
    have hO5 := hO'.kept hb5
    go_wp2_with fail
    go_loopw [6, 7] (fun n i wx => ∃ k : Nat, k ≤ zs.length ∧ i = .int .i64 k ∧ n = .int .i64 (lastF cs (zs.take k)) ∧ Below w5.heap.size w5 wx) (fun _ i _ => zs.length - (intOf i).toNat)
    case atStart => exact ⟨0, Nat.zero_le _, rfl, rfl, Below.refl _ _⟩
    case round =>
      obtain ⟨k, hkz, rfl, rfl, hbx⟩ := hrel
      have hb1x := bs hb15 hbx
      have f1 := cellK hb1x (by omega) c1
      have hCx := hD1.ctls.kept hb1x
      by_cases hltk : k < zs.length
      · obtain ⟨_, _, q0, q1⟩ := hmz.out zs[k] (List.getElem_mem hltk)
        obtain ⟨tg, tgc, hv, _, hcell⟩ := (hT.kept hbx).at (by intro e; have := congrArg List.length e; rw [ints_len, List.length_nil] at this; omega)
        rw [ints_len] at hv
        cases hv
        have hcc := hcell k (.int .i64 zs[k]) (by rw [ints, List.getElem?_map, List.getElem?_eq_getElem hltk]; rfl)
        have hnx := Lib.hid (lastF_take cs hltk)
        have hk0 : (0 : Int) ≤ (k : Int) := by omega
        have hk1 : (k : Int) < (zs.length : Int) := by omega
        generalize zs[k] = c at *
        obtain ⟨q, rfl⟩ := Int.eq_ofNat_of_zero_le q0
        have hqc : q < cs.length := by have := Hll.out; omega
        have hq0 : (0 : Int) ≤ (q : Int) := by omega
        have hq1 : (q : Int) < (cs.length : Int) := by omega
        obtain ⟨b, o, cap', vf, hv, hb, ⟨_, _, _, t3, _⟩, _⟩ := hCx.at hqc
        cases hv
        rw [← chB_at hqc] at t3
        cases hy : chB cs (q : Nat)
        · rw [hy] at t3
          have HN := Lib.hid (hnx.out.trans (if_neg (by rw [hy]; decide)))
          clear hy hnx
          go_wp2_with fail
          go_quiet (fail)
          go_wp2_with fail
          go_roundw
          case rel => exact ⟨k + 1, by omega, by go_num, by rw [HN.out], hbx.trans ((below_draws wr _).mono hbx.size)⟩
          case measure => simp [intOf]; omega
        · rw [hy] at t3
          have HN := Lib.hid (hnx.out.trans (if_pos hy))
          clear hy hnx
          go_wp2_with fail
          go_quiet (fail)
          have hcd : (wr.drewN nq).cell? ⟨tg, k, none⟩ = some (.int .i64 (q : Nat)) := hcc
          go_wp2_with fail
          go_roundw
          case rel => exact ⟨k + 1, by omega, by go_num, by rw [HN.out], hbx.trans ((below_draws wr _).mono hbx.size)⟩
          case measure => simp [intOf]; omega
      · obtain rfl : k = zs.length := by omega
        rw [List.take_of_length_le (Nat.le_refl _)] at *
        rw [← hlz.out] at *
        have hOx := hO5.kept hbx
        by_cases h1 : 0 ≤ lastM l cs (i : Nat)
        case neg =>
          have h1' : decide ((0 : Int) ≤ lastM l cs (i : Nat)) = false := decide_eq_false h1
          have hN := Skip.out (stB_none hRP (by omega))
          generalize lastM l cs (i : Nat) = la at *
          clear h1
          go_wp2_with fail
          go_roundw
          case rel => exact ⟨i + 1, L', by omega, by go_num, hN, hOx, hb1x⟩
          case measure => simp [intOf]; omega
        have h1' : decide ((0 : Int) ≤ lastM l cs (i : Nat)) = true := decide_eq_true h1
        obtain ⟨b, o, cap', vf, hv, hb, ⟨_, _, _, t3, _⟩, _⟩ := hCx.at hic
        cases hv
        rw [← chB_at hic] at t3
        cases hy : chB cs (i : Nat)
        · rw [hy] at t3
          have hN := Skip.out (stB_off hy)
          generalize lastM l cs (i : Nat) = la at *
          clear hy
          go_wp2_with fail
          go_roundw
          case rel => exact ⟨i + 1, L', by omega, by go_num, hN, hOx, hb1x⟩
          case measure => simp [intOf]; omega
        · rw [hy] at t3
          have hst := stB_on h1 hy
          have hiL : i < L'.length := by omega
          obtain ⟨g, gc', cur, hv, hgb, hg, ⟨_, _, _, t3', _⟩, _⟩ := hOx.at hiL
          rw [hLl'] at hv
          cases hv
          obtain ⟨L1, m1, hO1, hb8⟩ := hOx.setCh hiL (stB l cs i)
          have hz0 : wr.frozen? ⟨g, i * 10 + 3, none⟩ = false := cells_not_frozen hg
          have hm := Lib.hid (m1.trans (chW_set hL'.out hiL (g := fun j => if j < i + 1 then stB l cs j else chB cs (j : Nat)) (fun j _ => by
            by_cases e : j = i
            · subst e; rw [if_pos (Nat.lt_succ_self _), if_pos rfl]
            · rw [if_neg e]
              by_cases h2 : j < i
              · rw [if_pos h2, if_pos (by omega)]
              · rw [if_neg h2, if_neg (by omega)])))
          clear m1 hy
          rw [hst] at hO1 hb8
          have heq : decide ((i : Int) = lastM l cs (i : Nat)) = ((i : Int) == lastM l cs (i : Nat)) := rfl
          rw [heq] at hO1 hb8
          clear hst heq
          generalize lastM l cs (i : Nat) = la at *
          go_wp2_with fail
          go_roundw
          case rel => exact ⟨i + 1, L1, by omega, by go_num, hm, hO1, hb1x.trans (hb8.mono (by omega))⟩
          case measure => simp [intOf]; omega
end Go.Proofs.Ytenicjebccdekaa

/-
  The law GroupSettles: the walk.
-/
namespace Go.Proofs.Ytenicjebccdekaa
set_option linter.unusedVariables false
set_option linter.unusedSimpArgs false
open Go.RowKit PT

set_option maxHeartbeats 8000000 in
set_option maxRecDepth 100000 in
theorem groupSettles_walk (l : List Nd) (cs : List Ct) (vn vc : Value) (w : World) (hD : DocAt l cs vn vc w) :
    Calls Try.prog 12 #[.agg #[vn, vc]] w fun e w' => e = .returned (.bool true) ∧ Below w.heap.size w w' := by
  have hS1 := Lib.hid (fun h : okD l cs = true => set_one h)
  have hS2 := Lib.hid (fun h : okD l cs = true => set_again h)
  have hZ : SizedC (setF l cs) := hD.sz.set
  obtain ⟨a1, cap1, rfl⟩ := hD.nodes.nodes.len
  obtain ⟨a2, cap2, rfl⟩ := hD.ctls.len
  obtain ⟨hD1, hb1, hs1, c0, c1⟩ := doc_box (T := 38) hD
  obtain ⟨ob, hob⟩ : ∃ ob, oneF l cs = ob := ⟨_, rfl⟩
  have HOb := Lib.hid hob
  clear hob
  go_enter Try.func12, Try.ntmps12
  go_wp2_with fail
  generalize World.alloc _ _ = W1 at hD1 hb1 hs1 c0 c1 ⊢
  refine (wakes17_any _).mono ?_
  rintro e w2 ⟨rfl, hb2⟩
  have hD2 := hD1.kept hb2
  have d0 := cellK hb2 (by omega) c0
  have d1 := cellK hb2 (by omega) c1
  have hs2 := hb2.size
  go_wp2_with fail
  refine (lawCopied17_any l cs _ _ _ hD2).mono ?_
  rintro e w3 ⟨vn3, vc3, rfl, hO3, hb3⟩
  have hs3 := hb3.size
  have d03 := cellK hb3 (by omega) d0
  have d13 := cellK hb3 (by omega) d1
  go_wp2_with fail
  refine (grpSettle_any l cs _ _ _ hO3).mono ?_
  rintro e w4 ⟨v4, rfl, hC4, hb4⟩
  have hb04 := bs (bs (bs hb1 hb2) hb3) hb4
  have hs4 := hb4.size
  have hD4 := (hD2.kept hb3).kept hb4
  have d04 := cellK hb4 (by omega) d03
  have d14 := cellK hb4 (by omega) d13
  have hbd : Below w4.heap.size w4 w4.drew := below_draws w4 1
  have hD5 := hD4.kept hbd
  have hC5 := hC4.kept hbd
  have d05 : w4.drew.cell? ⟨w.heap.size, 0, none⟩ = some (.slice a1 l.length cap1) := d04
  have d15 : w4.drew.cell? ⟨w.heap.size, 1, none⟩ = some (.slice a2 cs.length cap2) := d14
  have hs5 : w.heap.size + 1 ≤ w4.drew.heap.size := by show w.heap.size + 1 ≤ w4.heap.size; omega
  have hb05 := bs hb04 hbd
  obtain ⟨a4, cap4, rfl⟩ := hC4.len
  clear hb1 hb2 hb3 hb4 hbd c0 c1 d0 d1 d03 d13 d04 d14 hD1 hD2 hD4 hC4 hO3 hs1 hs2 hs3 hs4 hb04
  go_wp2_with fail
  go_region_with ((first
    | (go_at_call 48; (with_reducible refine (refSettle_any l cs _ _ _ hD5).mono ?_); rintro e w6 ⟨v6, rfl, hC6, hb6⟩; have d06 := cellK hb6 (by omega) d05; have d16 := cellK hb6 (by omega) d15; have hD6 := hD5.kept hb6; have hC56 := hC5.kept hb6; have hs6 := hb6.size)
    | (go_at_call 35; (with_reducible refine (refSame15_yes _ _ _ _ hC56 hC6 hZ).mono ?_); rintro e w7 ⟨rfl, hb7⟩; have d07 := cellK hb7 (by omega) d06; have d17 := cellK hb7 (by omega) d16; have hD7 := hD6.kept hb7; have hs7 := hb7.size; have hC57 := hC56.kept hb7)
    | (go_at_call 32; (with_reducible refine (lawCopied17_any l cs _ _ _ hD7).mono ?_); rintro e w8 ⟨vn8, vc8, rfl, hO8, hb8⟩; have d08 := cellK hb8 (by omega) d07; have d18 := cellK hb8 (by omega) d17; have hD8 := hD7.kept hb8; have hs8 := hb8.size; have hC58 := hC57.kept hb8)
    | (go_at_call 39; (with_reducible refine (grpOne_any l cs _ _ _ hO8).mono ?_); rw [HOb.out]; rintro e w9 ⟨rfl, hb9⟩; have d09 := cellK hb9 (by omega) d08; have d19 := cellK hb9 (by omega) d18; have hD9 := hD8.kept hb9; have hs9 := hb9.size; have hC59 := hC58.kept hb9)
    | (go_at_call 38; (with_reducible refine (refOne_any l cs _ _ _ hD9).mono ?_); rw [HOb.out]; rintro e wz ⟨rfl, hbz⟩; have d0z := cellK hbz (by omega) d09; have d1z := cellK hbz (by omega) d19; have hDz := hD9.kept hbz; have hsz := hbz.size; have hC5z := hC59.kept hbz)))
  all_goals
    have hb0z := bs (bs (bs (bs (bs hb05 hb6) hb7) hb8) hb9) hbz
    cases hk : okD l cs
    · have HK := Lib.hid hk
      clear hk hS1 hS2
      go_wp2_with fail
      refine (refRight15_any l cs _ _ _ hDz).mono ?_
      rintro e wt ⟨rfl, hbt⟩
      rw [HK.out]
      go_wp2_with fail
      go_ret
      exact ⟨rfl, bs hb0z hbt⟩
    · have HK := Lib.hid hk
      have E1 := Lib.hid (hS1.out hk)
      have E2 := Lib.hid (hS2.out hk)
      clear hk hS1 hS2
      go_wp2_with fail
      refine (refRight15_any l cs _ _ _ hDz).mono ?_
      rintro e wt ⟨rfl, hbt⟩
      rw [HK.out]
      have d0t := cellK hbt (by omega) d0z
      have hst := hbt.size
      have hX : DocAt l (setF l cs) (.slice a1 l.length cap1) (.slice a4 (setF l cs).length cap4) wt := ⟨(hDz.kept hbt).nodes, hC5z.kept hbt, hZ⟩
      obtain ⟨hX2, hbx, hsx, x0, x1⟩ := doc_box (T := 38) hX
      go_wp2_with fail
      generalize World.alloc _ _ = Wx at hX2 hbx hsx x0 x1 ⊢
      refine (grpOne_any l (setF l cs) _ _ _ hX2).mono ?_
      rw [E1.out]
      rintro e wu ⟨rfl, hbu⟩
      have hX3 := hX2.kept hbu
      have x03 := cellK hbu (by omega) x0
      have x13 := cellK hbu (by omega) x1
      go_wp2_with fail
      refine (grpSettle_any l (setF l cs) _ _ _ hX3).mono ?_
      rintro e wv ⟨vv, rfl, hCv, hbv⟩
      rw [E2.out] at hCv
      go_wp2_with fail
      refine (refSame15_yes _ _ _ _ hCv (hX3.ctls.kept hbv) hZ).mono ?_
      rintro e wy ⟨rfl, hby⟩
      go_wp2_with fail
      go_ret
      exact ⟨rfl, bs (bs (bs (bs (bs hb0z hbt) hbx) hbu) hbv) hby⟩
end Go.Proofs.Ytenicjebccdekaa

/-
  THE LAST STEP OF A LAW'S ROW where of the world behind the call 'Below' alone is known.
-/
namespace Go.Proofs.Ytenicjebccdekaa
set_option linter.unusedVariables false
set_option linter.unusedSimpArgs false
open Go.RowKit Go.WideShapes Go.ChangeShapes
section
variable {H : Type} {enc : TypeId × Value → H} {P : Program}
theorem post_of_below {f : Func} {s : ChangeSpec} {apart fresh handsOn again : Bool} {W W' : World} {args : Array Value} {v : Value} {ds gs : List (DataW H)} {before pa pv : List MemPlace}
    (hW : DataW.Whole enc P f.params.toList s.vars apart W args.toList ds gs before)
    (hres : ∀ (b : Nat) (sp : Nat → Bool) (hd : Bool), DataW.TrodAll enc P W' b sp hd f.resultTypes.toList (v.resultList f.resultTypes.size) (s.fn H (ds ++ gs)).results [])
    (hargs : ∀ sp : Nat → Bool, (∀ p ∈ before, sp p.block = true) → DataW.TrodAll enc P W' 0 sp true f.params.toList args.toList (s.fn H (ds ++ gs)).args pa)
    (hvars : ∀ sp : Nat → Bool, (∀ p ∈ before, sp p.block = true) → DataW.TrodVars enc P W' sp s.vars (s.fn H (ds ++ gs)).vars pv)
    (hps : before = pa ++ pv) (hb : Below W.heap.size W W')
    (hok : ∀ (j : Nat) (t : TypeId) (r : Value), f.resultTypes[j]? = some t → (v.resultList f.resultTypes.size)[j]? = some r → Value.okWide P W' .any 0 t r) :
    s.post enc P f apart fresh handsOn again W args v W' := by
  have hlt : ∀ p ∈ before, p.block < W.heap.size := fun p hp => hW.lt p hp
  have hold : ∀ p ∈ before, (fun b => decide (b < W.heap.size)) p.block = true := fun p hp => by simpa using hlt p hp
  refine ⟨ds, gs, before, [], pa, pv, hW, hres _ _ _, hargs _ hold, hvars _ hold, World.keptBut_mono (fun p hp => ⟨hp, ?_⟩) (hb.frame (· ∈ before)), fun _ => ?_⟩
  · rw [hps, List.mem_append] at hp
    exact Or.inr hp
  · obtain ⟨_, _, _, _, _, hz, hn⟩ := hW
    refine ⟨hok, _, _, ([] ++ pa) ++ pv, ⟨[] ++ pa, pv, trodAll_append (hargs _ (fun _ _ => rfl)) (hres _ _ _), hvars _ (fun _ _ => rfl), rfl, ?_, ?_⟩, ?_⟩
    · intro b off hp
      have hin : MemPlace.cell b off ∈ before := by rw [hps]; simpa using hp
      rw [hb.frozen (hlt _ hin)]
      exact hz b off hin
    · intro ha
      have := hn ha
      rw [hps] at this
      simpa using this
    · intro p hp _
      rw [hps]
      simpa using hp
end
end Go.Proofs.Ytenicjebccdekaa
