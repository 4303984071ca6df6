import Derived.Test.YtenicjebccdekaaPart10
import Derived.Test.YtenicjebccdekaaRows
import Derived.Below
import Derived.ChangeSame
import Derived.WalkKit
import Derived.ProofKit
import Derived.ReadAgain
import Derived.ChangeStays
import Derived.ChangeBears
import Derived.Test.YtenicjebccdekaaPart1
import Derived.Deep.Slices
import Derived.Deep.Fields
import Derived.SizedLaws
/-
  The law GroupKeeps: the plain law and the walk.
-/
namespace Go.Proofs.Ytenicjebccdekaa
set_option linter.unusedVariables false
set_option linter.unusedSimpArgs false
open Go.RowKit PT

theorem chB_chk {cs : List Ct} {p : Nat → Bool} {id : Nat} {on : Bool} {k : Nat} (hk : k < cs.length) : chB (chkP cs p id on) (k : Nat) = if k = id then on else (chB cs (k : Nat) && !p k) := by
  have hk' : k < (chkP cs p id on).length := by rw [chkP_len]; exact hk
  have h1 : (chkP cs p id on)[k]? = some (if k = id then { cs[k] with ch := on, dc := true } else if p k = true then { cs[k] with ch := false } else cs[k]) := by
    unfold chkP
    rw [List.getElem?_mapIdx, List.getElem?_eq_getElem hk]
    rfl
  rw [chB_at hk]
  unfold chB
  rw [Int.toNat_natCast, h1]
  by_cases e : k = id
  · rw [if_pos e, if_pos e]
  · rw [if_neg e, if_neg e]
    cases p k
    · simp
    · simp
theorem mem_nodup {l : List Nd} (h : RightP l) (id : Int) : (memF l id).Nodup := by
  cases hr : radB l id
  · rw [show memF l id = [] from if_neg (fun h => by rw [hr] at h; cases h.2)]
    exact List.nodup_nil
  · rw [mem_doc h hr]
    obtain ⟨i0, i1⟩ := rad_in hr
    obtain ⟨t0, t1⟩ := topF_range h i0 i1
    exact (nodup_ordF h _ _ t0 t1).filter _
theorem countP_imp {p q : Int → Bool} : ∀ {T : List Int}, (∀ x ∈ T, p x = true → q x = true) → T.countP p ≤ T.countP q
  | [], _ => Nat.le_refl _
  | x :: r, h => by
    have ih := countP_imp (T := r) (fun y hy => h y (List.mem_cons_of_mem _ hy))
    have h1 := h x (List.mem_cons_self ..)
    rw [List.countP_cons, List.countP_cons]
    cases hp : p x
    · simp; omega
    · rw [h1 hp]; omega
theorem keeps_one {l : List Nd} {cs : List Ct} {id : Int} {on : Bool} (hc : chkE l cs id = 0) (h1 : oneF l cs = true) : oneF l (chkF l cs id on) = true := by
  obtain ⟨hok, hO⟩ := oneF_iff.1 h1
  have hin : okD l cs = true ∧ 0 ≤ id ∧ id < l.length := by
    unfold chkE at hc
    split at hc
    · assumption
    · omega
  obtain ⟨_, i0, i1⟩ := hin
  have hk2 := hok
  unfold okD at hk2
  rw [Bool.and_eq_true, decide_eq_true_iff] at hk2
  obtain ⟨hrB, hll⟩ := hk2
  have hRP := (rightB_iff l).1 hrB
  obtain ⟨K, rfl⟩ := Int.eq_ofNat_of_zero_le i0
  rw [chkF_yes hc, Int.toNat_natCast]
  refine oneF_yes (by unfold okD; rw [hrB, chkP_len, decide_eq_true hll]; rfl) (fun j hj => ?_)
  have hkey : ∀ c ∈ memF l (j : Nat), chB (chkP cs (offP l (K : Nat) on) K on) c = if c = (K : Int) then on else (chB cs c && !(on && decide (c ∈ memF l (K : Nat)))) := by
    intro c hcm
    obtain ⟨_, _, c0, c1⟩ := mem_same hcm
    obtain ⟨q, rfl⟩ := Int.eq_ofNat_of_zero_le c0
    rw [chB_chk (by omega : q < cs.length), memF_iff hRP q (by omega)]
    by_cases e : q = K
    · subst e; rw [if_pos rfl, if_pos rfl]
    · rw [if_neg e, if_neg (by omega)]; rfl
  unfold cntM
  by_cases hKj : (K : Int) ∈ memF l (j : Nat)
  · obtain ⟨hs, _⟩ := mem_same hKj
    cases on
    · refine Nat.le_trans (countP_imp (q := chB cs) (fun c hcm h => ?_)) (hO j hj)
      rw [hkey c hcm] at h
      split at h
      · cases h
      · simpa using h
    · refine Nat.le_trans (countP_imp (q := fun c => c == (K : Int)) (fun c hcm h => ?_)) (List.nodup_iff_count.1 (mem_nodup hRP (j : Nat)) (K : Int))
      rw [hkey c hcm] at h
      split at h
      · rename_i e
        exact beq_iff_eq.2 e
      · rw [hs, decide_eq_true hcm] at h
        simp at h
  · refine Nat.le_trans (countP_imp (q := chB cs) (fun c hcm h => ?_)) (hO j hj)
    rw [hkey c hcm] at h
    split at h
    · rename_i e
      subst e
      exact absurd hcm hKj
    · rw [Bool.and_eq_true] at h
      exact h.1
set_option maxHeartbeats 4000000 in
set_option maxRecDepth 100000 in
theorem groupKeeps_walk (l : List Nd) (cs : List Ct) (vn vc : Value) (id : Int) (on : Bool) (w : World) (hD : DocAt l cs vn vc w) (hid : (Lit.int .i64 id).wf = true) :
    Calls Try.prog 10 #[.agg #[vn, vc], .int .i64 id, .bool on] w fun e w' => e = .returned (.bool true) ∧ Below w.heap.size w w' := by
  have hKO := Lib.hid (fun (h : chkE l cs id = 0) (h1 : oneF l cs = true) => keeps_one (on := on) h h1)
  obtain ⟨a1, cap1, rfl⟩ := hD.nodes.nodes.len
  obtain ⟨a2, cap2, rfl⟩ := hD.ctls.len
  obtain ⟨hD1, hb1, hs1, c0, c1⟩ := doc_box (T := 38) hD
  have hZ : SizedC (chkF l cs id on) := hD.sz.chk
  go_enter Try.func10, Try.ntmps10
  go_wp2_with fail
  generalize World.alloc _ _ = W1 at hD1 hb1 hs1 c0 c1 ⊢
  refine (wakes17_any _).mono ?_
  rintro e w2 ⟨rfl, hb2⟩
  have hD2 := hD1.kept hb2
  have d0 := cellK hb2 (by omega) c0
  have d1 := cellK hb2 (by omega) c1
  have hs2 := hb2.size
  go_wp2_with fail
  refine (lawCopied17_any l cs _ _ _ hD2).mono ?_
  rintro e w3 ⟨vn3, vc3, rfl, hO3, hb3⟩
  have hb03 := bs (bs hb1 hb2) hb3
  have hs3 := hb3.size
  have d03 := cellK hb3 (by omega) d0
  have d13 := cellK hb3 (by omega) d1
  go_wp2_with fail
  refine (check_any l cs _ _ id on _ hO3).mono ?_
  rintro e w5 ⟨v5, rfl, hC5, hb5⟩
  have hD5 := (hD2.kept hb3).kept hb5
  have d05 := cellK hb5 (by omega) d03
  have d15 := cellK hb5 (by omega) d13
  have hb05 := bs hb03 hb5
  have hs5 := hb5.size
  by_cases hE : chkE l cs id = 0
  case neg =>
    have q1 := intNe hE
    have q2 : (chkE l cs id != 0) = true := by rw [bne, q1]; rfl
    generalize chkE l cs id = z at q1 q2 ⊢
    clear hE hKO
    go_wp2_with fail
    go_ret
    exact ⟨rfl, hb05⟩
  have HE := Lib.hid hE
  rw [HE.out]
  go_wp2_with fail
  refine (refOne_any l cs _ _ _ hD5).mono ?_
  rintro e w6 ⟨rfl, hb6⟩
  have d06 := cellK hb6 (by omega) d05
  have d16 := cellK hb6 (by omega) d15
  have hs6 := hb6.size
  cases h1 : oneF l cs
  · clear hE h1 HE hKO
    go_wp2_with fail
    go_ret
    exact ⟨rfl, bs hb05 hb6⟩
  have hR := Lib.hid (hKO.out hE h1)
  have hD6 : DocAt l (chkF l cs id on) _ v5 w6 := ⟨(hD5.kept hb6).nodes, hC5.kept hb6, hZ⟩
  obtain ⟨a5, cap5, rfl⟩ := hC5.len
  clear hE h1 HE hKO
  go_wp2_with fail
  refine (grpOne_any l (chkF l cs id on) _ _ _ hD6).mono ?_
  rintro e w7 ⟨rfl, hb7⟩
  rw [hR.out]
  go_wp2_with fail
  go_ret
  exact ⟨rfl, bs (bs hb05 hb6) hb7⟩
end Go.Proofs.Ytenicjebccdekaa

/-
  THE LAST STEP OF A LAW'S ROW where of the world behind the call 'Below' alone is known.
-/
namespace Go.Proofs.Ytenicjebccdekaa
set_option linter.unusedVariables false
set_option linter.unusedSimpArgs false
open Go.RowKit Go.WideShapes Go.ChangeShapes
section
variable {H : Type} {enc : TypeId × Value → H} {P : Program}
theorem post_of_below {f : Func} {s : ChangeSpec} {apart fresh handsOn again : Bool} {W W' : World} {args : Array Value} {v : Value} {ds gs : List (DataW H)} {before pa pv : List MemPlace}
    (hW : DataW.Whole enc P f.params.toList s.vars apart W args.toList ds gs before)
    (hres : ∀ (b : Nat) (sp : Nat → Bool) (hd : Bool), DataW.TrodAll enc P W' b sp hd f.resultTypes.toList (v.resultList f.resultTypes.size) (s.fn H (ds ++ gs)).results [])
    (hargs : ∀ sp : Nat → Bool, (∀ p ∈ before, sp p.block = true) → DataW.TrodAll enc P W' 0 sp true f.params.toList args.toList (s.fn H (ds ++ gs)).args pa)
    (hvars : ∀ sp : Nat → Bool, (∀ p ∈ before, sp p.block = true) → DataW.TrodVars enc P W' sp s.vars (s.fn H (ds ++ gs)).vars pv)
    (hps : before = pa ++ pv) (hb : Below W.heap.size W W')
    (hok : ∀ (j : Nat) (t : TypeId) (r : Value), f.resultTypes[j]? = some t → (v.resultList f.resultTypes.size)[j]? = some r → Value.okWide P W' .any 0 t r) :
    s.post enc P f apart fresh handsOn again W args v W' := by
  have hlt : ∀ p ∈ before, p.block < W.heap.size := fun p hp => hW.lt p hp
  have hold : ∀ p ∈ before, (fun b => decide (b < W.heap.size)) p.block = true := fun p hp => by simpa using hlt p hp
  refine ⟨ds, gs, before, [], pa, pv, hW, hres _ _ _, hargs _ hold, hvars _ hold, World.keptBut_mono (fun p hp => ⟨hp, ?_⟩) (hb.frame (· ∈ before)), fun _ => ?_⟩
  · rw [hps, List.mem_append] at hp
    exact Or.inr hp
  · obtain ⟨_, _, _, _, _, hz, hn⟩ := hW
    refine ⟨hok, _, _, ([] ++ pa) ++ pv, ⟨[] ++ pa, pv, trodAll_append (hargs _ (fun _ _ => rfl)) (hres _ _ _), hvars _ (fun _ _ => rfl), rfl, ?_, ?_⟩, ?_⟩
    · intro b off hp
      have hin : MemPlace.cell b off ∈ before := by rw [hps]; simpa using hp
      rw [hb.frozen (hlt _ hin)]
      exact hz b off hin
    · intro ha
      have := hn ha
      rw [hps] at this
      simpa using this
    · intro p hp _
      rw [hps]
      simpa using hp
end
end Go.Proofs.Ytenicjebccdekaa

/-
  WHAT THE ARGUMENTS READ BEHIND A CALL that has kept all older blocks: what they read before, whatever their types.
-/
namespace Go.Proofs.Ytenicjebccdekaa
set_option linter.unusedVariables false
set_option linter.unusedSimpArgs false
open Go.RowKit Go.WideShapes Go.ChangeShapes
section
variable {H : Type} {enc : TypeId × Value → H} {P : Program}
theorem same_below {W W' : World} (hb : Below W.heap.size W W') {p : MemPlace} (hp : p.block < W.heap.size) : W.sameAt W' p := by
  cases p with
  | cell b off =>
    show W'.cell? _ = W.cell? _
    have : W'.heap[b]? = W.heap[b]? := hb.block b hp
    simp only [World.cell?, this]
  | map b => exact hb.block b hp
theorem args_stay {T : TypeId → Prop} (K : Kids P T) (hz : ∀ {t e : TypeId}, T t → P.underlying t = some (.slice e) → 0 < P.cellsOf e) {W W' : World} {sp : Nat → Bool} (hb : Below W.heap.size W W') :
    ∀ {ts : List TypeId} {vs : List Value} {ds : List (DataW H)} {ps : List MemPlace}, (∀ t ∈ ts, T t) → DataW.TrodAll enc P W 0 (fun _ => true) true ts vs ds ps → (∀ p ∈ ps, p.block < W.heap.size) → (∀ p ∈ ps, sp p.block = true) → DataW.TrodAll enc P W' 0 sp true ts vs ds ps
  | [], [], [], _, _, h, _, _ => h
  | _ :: _, _ :: _, _ :: _, _, hT, ⟨p, q, ⟨n, h1⟩, h2, e⟩, hlt, hs =>
    ⟨p, q, ⟨n, DataW.trod_stays K hz (fun h => by cases h) (hT _ (List.mem_cons.2 (Or.inl rfl))) h1
        (fun x hx => same_below hb (hlt x (by rw [e]; exact List.mem_append_left _ hx))) (fun x hx => hs x (by rw [e]; exact List.mem_append_left _ hx))⟩,
      args_stay K hz hb (fun t ht => hT t (List.mem_cons.2 (Or.inr ht))) h2 (fun x hx => hlt x (by rw [e]; exact List.mem_append_right _ hx)) (fun x hx => hs x (by rw [e]; exact List.mem_append_right _ hx)), e⟩
end
end Go.Proofs.Ytenicjebccdekaa

/-
  OPENING ARGUMENTS: helpers; what arguments of any type read behind the call.
-/
namespace Go.Proofs.Ytenicjebccdekaa
set_option linter.unusedVariables false
set_option linter.unusedSimpArgs false
open Go.RowKit Go.ChangeShapes Go.WideShapes Go.Deep

theorem list_of {α : Type} {P : Nat → α → Prop} : ∀ n, (∀ i, i < n → ∃ x, P i x) → ∃ l : List α, l.length = n ∧ ∀ i x, l[i]? = some x → P i x
  | 0, _ => ⟨[], rfl, fun i x h => by simp at h⟩
  | n + 1, h => by
    obtain ⟨l, hl, hp⟩ := list_of n (fun i hi => h i (by omega))
    obtain ⟨x, hx⟩ := h n (by omega)
    refine ⟨l ++ [x], by simp [hl], fun i y hy => ?_⟩
    by_cases e : i < l.length
    · rw [List.getElem?_append_left e] at hy; exact hp i y hy
    · rw [List.getElem?_append_right (by omega)] at hy
      have : i - l.length = 0 := by
        have := (List.getElem?_eq_some_iff.1 hy).1
        simp at this; exact this
      rw [this] at hy
      simp at hy
      obtain rfl : i = n := by omega
      rw [← hy]; exact hx
theorem spot_none {w : World} {a : Addr} {k : Nat} {v : Value} (h : w.cell? (a.add k) = some v) (hk : k = 0) : a.spot = none ∧ a.block < w.heap.size := by
  subst hk
  have e : a.add 0 = a := by simp [Addr.add]
  rw [e] at h
  simp only [World.cell?] at h
  cases hb : w.heap[a.block]? with
  | none => rw [hb] at h; cases h
  | some o =>
    have hlt := (Array.getElem?_eq_some_iff.1 hb).1
    rw [hb] at h
    cases o with
    | cells c t f =>
      simp only at h
      cases hs : a.spot with
      | none => exact ⟨rfl, hlt⟩
      | some z => rw [hs] at h; simp at h
    | _ => simp at h

section
variable {H : Type} {enc : TypeId × Value → H} {w : World} {spare : Nat → Bool} {held : Bool}
theorem kids_all : Kids Try.prog (· < Try.prog.types.size) := kids_rows (by kernel_rfl) (by kernel_rfl)
theorem full_all : ∀ t e, t < Try.prog.types.size → Try.prog.underlying t = some (.slice e) → 0 < Try.prog.cellsOf e := slices_full_of Try.prog (by kernel_rfl)
/-- what the arguments read behind the call -/
theorem args_again {W W' : World} {ts : List TypeId} {vs : List Value} {ds : List (DataW H)} {ps : List MemPlace} (hts : (ts.all fun t => decide (t < Try.prog.types.size)) = true) (hb : Below W.heap.size W W')
    (h : DataW.TrodAll enc Try.prog W 0 (fun _ => true) true ts vs ds ps) (hlt : ∀ p ∈ ps, p.block < W.heap.size) (sp : Nat → Bool) (hs : ∀ p ∈ ps, sp p.block = true) : DataW.TrodAll enc Try.prog W' 0 sp true ts vs ds ps :=
  args_stay kids_all (fun ht hu => full_all _ _ ht hu) hb (fun t ht => of_decide_eq_true (List.all_eq_true.1 hts t ht)) h hlt hs
end
end Go.Proofs.Ytenicjebccdekaa
