/-
  WHAT IS DISABLED: the program's way up and the document's rule answer alike: plain laws.
-/
import Derived.Test.YtenicjebccdekaaPlainOwn
namespace Go.Proofs.Ytenicjebccdekaa
set_option linter.unusedVariables false
set_option linter.unusedSimpArgs false
open Go.RowKit PT

theorem kind_other8 {j : Nat} {s : ByteArray} (hj : j < 8) (hs : otL[j]? = some s) (hd : ∀ i, i < j → otL[i]? ≠ some s) (h4 : s ≠ ⟨#[105, 110, 112, 117, 116]⟩ ∧ s ≠ ⟨#[98, 117, 116, 116, 111, 110]⟩ ∧ s ≠ ⟨#[115, 101, 108, 101, 99, 116]⟩ ∧ s ≠ ⟨#[116, 101, 120, 116, 97, 114, 101, 97]⟩) (x : Nd) : kindOf x = 28 + (j : Int) ↔ x.nm = s := by
  have h1 := tyK_range (tyOf x)
  have hb : 25 ≤ btK (tyOf x) ∧ btK (tyOf x) ≤ 27 := by
    unfold btK; split
    · omega
    · split <;> omega
  constructor
  · intro h
    unfold kindOf at h
    split at h
    · omega
    · split at h
      · omega
      · split at h
        · omega
        · split at h
          · omega
          · unfold otK at h
            split at h
            · omega
            · rename_i i hi
              have h2 : i = j := by omega
              subst h2
              obtain ⟨hl, he, _⟩ := List.findIdx?_eq_some_iff_getElem.1 hi
              rw [List.getElem?_eq_getElem hl] at hs
              rw [← of_decide_eq_true he]
              exact Option.some.inj hs
  · intro h
    unfold kindOf
    rw [if_neg (by rw [h]; exact h4.1), if_neg (by rw [h]; exact h4.2.1), if_neg (by rw [h]; exact h4.2.2.1), if_neg (by rw [h]; exact h4.2.2.2), h]
    exact otK_hit hj hd hs
theorem kind_set (x : Nd) : kindOf x = 29 ↔ x.nm = ⟨#[102, 105, 101, 108, 100, 115, 101, 116]⟩ := kind_other8 (j := 1) (by decide) rfl (fun i hi => by
  match i, hi with
  | 0, _ => decide) (by decide) x
theorem kind_leg (x : Nd) : kindOf x = 34 ↔ x.nm = ⟨#[108, 101, 103, 101, 110, 100]⟩ := kind_other8 (j := 6) (by decide) rfl (fun i hi => by
  match i, hi with
  | 0, _ => decide
  | 1, _ => decide
  | 2, _ => decide
  | 3, _ => decide
  | 4, _ => decide
  | 5, _ => decide) (by decide) x
theorem kindF_set {l : List Nd} {f : Int} (h0 : 0 ≤ f) (h1 : f < l.length) : kindF l f = 29 ↔ nmOf l f = ⟨#[102, 105, 101, 108, 100, 115, 101, 116]⟩ := by
  obtain ⟨q, rfl⟩ := Int.eq_ofNat_of_zero_le h0
  have hq : q < l.length := by omega
  rw [kindF_in h0 h1, kOf_at hq, nmOf_at hq]
  exact kind_set _
theorem kindF_leg {l : List Nd} {f : Int} (h0 : 0 ≤ f) (h1 : f < l.length) : kindF l f = 34 ↔ nmOf l f = ⟨#[108, 101, 103, 101, 110, 100]⟩ := by
  obtain ⟨q, rfl⟩ := Int.eq_ofNat_of_zero_le h0
  have hq : q < l.length := by omega
  rw [kindF_in h0 h1, kOf_at hq, nmOf_at hq]
  exact kind_leg _
/-- the first legend among a node's children, by its name -/
def legQ (l : List Nd) (f : Int) : Option Int := (ksOf l f).find? (fun k => decide (nmOf l k = ⟨#[108, 101, 103, 101, 110, 100]⟩))
def spB (l : List Nd) (id f : Int) : Bool := match legQ l f with
  | some k => decide (k = id) || withinF l k (paOf l id)
  | none => false
def setQ (l : List Nd) (id f : Int) : Bool := decide (nmOf l f = ⟨#[102, 105, 101, 108, 100, 115, 101, 116]⟩) && (disA l f && (withinF l f (paOf l id) && !spB l id f))
theorem find_eq {p q : Int → Bool} : ∀ {t : List Int}, (∀ x ∈ t, p x = q x) → t.find? p = t.find? q
  | [], _ => rfl
  | x :: t, h => by
    rw [List.find?_cons, List.find?_cons, h x (List.mem_cons_self ..), find_eq (fun y hy => h y (List.mem_cons_of_mem _ hy))]
theorem legF_Q {l : List Nd} (h : RightP l) {f : Int} (h0 : 0 ≤ f) (h1 : f < l.length) : legF l f = (legQ l f).getD (-1) := by
  unfold legF firstF legQ
  rw [find_eq (q := fun k => decide (nmOf l k = ⟨#[108, 101, 103, 101, 110, 100]⟩)) (fun k hk => by
    obtain ⟨k0, k1, _⟩ := h.kid h0 h1 hk
    have := kindF_leg k0 k1
    by_cases e : kindF l k = 34
    · rw [decide_eq_true e, decide_eq_true (this.1 e)]
    · rw [decide_eq_false e, decide_eq_false (fun e' => e (this.2 e'))])]
theorem legQ_kid {l : List Nd} (h : RightP l) {f k : Int} (h0 : 0 ≤ f) (h1 : f < l.length) (hk : legQ l f = some k) : 0 ≤ k ∧ k < l.length ∧ paOf l k = f := h.kid h0 h1 (List.mem_of_find?_eq_some hk)
theorem cl_any {l : List Nd} (h : RightP l) (P : Int → Bool) : ∀ (n : Nat) (k : Int), dep l k ≤ n → k < l.length → (cl l (fun c => if P c = true then some true else none) false k = true ↔ ∃ c : Int, 0 ≤ c ∧ c < l.length ∧ Anc l k c ∧ P c = true)
  | 0, k, hn, h1 => by
    have hk : k < 0 := by
      by_cases h0 : 0 ≤ k
      · have := dep_eq h h0 h1; omega
      · omega
    rw [cl_neg l _ _ hk]
    constructor
    · intro e; cases e
    · rintro ⟨c, _, _, ha, _⟩
      have := ha.nonneg; omega
  | n + 1, k, hn, h1 => by
    by_cases h0 : 0 ≤ k
    · have hd := dep_eq h h0 h1
      have ih := cl_any h P n (paOf l k) (by omega) (h.pa_lt h0 h1)
      cases hP : P k
      · rw [cl_go h _ _ h0 h1 (by rw [hP]; rfl), ih]
        constructor
        · rintro ⟨c, c0, c1, ha, hc⟩
          refine ⟨c, c0, c1, ?_, hc⟩
          by_cases e : k = c
          · rw [e]; exact Anc.self h c0 c1
          · exact (Anc.step h h0 h1 e).2 ha
        · rintro ⟨c, c0, c1, ha, hc⟩
          have e : k ≠ c := fun e => by rw [e, hc] at hP; cases hP
          exact ⟨c, c0, c1, (Anc.step h h0 h1 e).1 ha, hc⟩
      · rw [cl_hit h _ _ h0 h1 (b := true) (by rw [hP]; rfl)]
        exact ⟨fun _ => ⟨k, h0, h1, Anc.self h h0 h1, hP⟩, fun _ => rfl⟩
    · rw [cl_neg l _ _ (by omega)]
      constructor
      · intro e; cases e
      · rintro ⟨c, _, _, ha, _⟩
        have := ha.nonneg; omega
theorem path_child {l : List Nd} (h : RightP l) {f : Int} : ∀ (n : Nat) (k : Int), dep l k ≤ n → 0 ≤ k → k < l.length → Anc l (paOf l k) f → ∃ c : Int, 0 ≤ c ∧ c < l.length ∧ Anc l k c ∧ paOf l c = f
  | 0, k, hn, h0, h1, _ => by have := dep_eq h h0 h1; omega
  | n + 1, k, hn, h0, h1, ha => by
    by_cases e : paOf l k = f
    · exact ⟨k, h0, h1, Anc.self h h0 h1, e⟩
    · have hd := dep_eq h h0 h1
      have p0 := ha.nonneg
      have p1 := h.pa_lt h0 h1
      obtain ⟨c, c0, c1, hc, hp⟩ := path_child h n (paOf l k) (by omega) p0 p1 ((Anc.step h p0 p1 e).1 ha)
      refine ⟨c, c0, c1, ?_, hp⟩
      by_cases e2 : k = c
      · rw [e2]; exact Anc.self h c0 c1
      · exact (Anc.step h h0 h1 e2).2 hc
theorem anc_par {l : List Nd} (h : RightP l) {k c : Int} (h0 : 0 ≤ k) (h1 : k < l.length) (c0 : 0 ≤ c) (c1 : c < l.length) (hp : 0 ≤ paOf l c) (ha : Anc l k c) : Anc l (paOf l k) (paOf l c) := by
  have hp1 := h.pa_lt c0 c1
  by_cases e : k = c
  · rw [e]; exact Anc.self h hp hp1
  · have ha' := (Anc.step h h0 h1 e).1 ha
    exact Anc.up h hp hp1 rfl _ (paOf l k) rfl (h.pa_lt h0 h1) ha'
theorem upDis_iff {l : List Nd} (h : RightP l) {id : Int} (h0 : 0 ≤ id) (h1 : id < l.length) : upDis l id = true ↔ ∃ f : Int, 0 ≤ f ∧ f < l.length ∧ setQ l id f = true := by
  unfold upDis
  rw [cl_any h (setP l) _ id (Nat.le_refl _) h1]
  constructor
  · rintro ⟨c, c0, c1, ha, hs⟩
    unfold setP at hs
    simp only [Bool.and_eq_true, decide_eq_true_iff] at hs
    obtain ⟨p0, hk, hd, hl⟩ := hs
    have p1 := h.pa_lt c0 c1
    refine ⟨paOf l c, p0, p1, ?_⟩
    unfold setQ
    simp only [Bool.and_eq_true, decide_eq_true_iff, Bool.not_eq_true']
    refine ⟨(kindF_set p0 p1).1 hk, hd, anc_par h h0 h1 c0 c1 p0 ha, ?_⟩
    unfold spB
    cases hq : legQ l (paOf l c) with
    | none => rfl
    | some k =>
      obtain ⟨k0, k1, kp⟩ := legQ_kid h p0 p1 hq
      rw [legF_Q h p0 p1, hq] at hl
      have hl' : k ≠ c := hl
      have hdk : Go.Proofs.Ytenicjebccdekaa.dep l k = Go.Proofs.Ytenicjebccdekaa.dep l c := by rw [dep_eq h k0 k1, dep_eq h c0 c1, kp]
      show (decide (k = id) || withinF l k (paOf l id)) = false
      rw [Bool.or_eq_false_iff]
      have hno : ¬ Anc l id k := fun hk' => hl' (Anc.uniq h hdk _ id rfl h1 hk' ha)
      constructor
      · refine decide_eq_false (fun e => hno ?_)
        rw [e]; exact Anc.self h h0 h1
      · cases hw : withinF l k (paOf l id)
        · rfl
        · refine absurd ?_ hno
          by_cases e : id = k
          · rw [← e]; exact Anc.self h h0 h1
          · exact (Anc.step h h0 h1 e).2 hw
  · rintro ⟨f, f0, f1, hs⟩
    unfold setQ at hs
    simp only [Bool.and_eq_true, decide_eq_true_iff, Bool.not_eq_true'] at hs
    obtain ⟨hn, hd, hw, hsp⟩ := hs
    obtain ⟨c, c0, c1, ha, hp⟩ := path_child h _ id (Nat.le_refl _) h0 h1 hw
    refine ⟨c, c0, c1, ha, ?_⟩
    unfold setP
    simp only [Bool.and_eq_true, decide_eq_true_iff]
    rw [hp]
    refine ⟨f0, (kindF_set f0 f1).2 hn, hd, fun e => ?_⟩
    rw [legF_Q h f0 f1] at e
    unfold spB at hsp
    cases hq : legQ l f with
    | none => rw [hq] at e; simp at e; omega
    | some k =>
      rw [hq] at e hsp
      have e' : k = c := e
      subst e'
      have hsp' : (decide (k = id) || withinF l k (paOf l id)) = false := hsp
      rw [Bool.or_eq_false_iff] at hsp'
      have hne : id ≠ k := fun e => of_decide_eq_false hsp'.1 e.symm
      have := (Anc.step h h0 h1 hne).1 ha
      rw [Anc, hsp'.2] at this
      cases this
theorem disF_in {l : List Nd} (h : RightP l) {id : Int} (h0 : 0 ≤ id) (h1 : id < l.length) : disF l id = ((submB (kOf l id) || decide (kOf l id = 29)) && (disA l id || upDis l id)) := by
  unfold disF
  rw [rightB_yes h, kindF_in h0 h1, Bool.true_and]
theorem disF_out {l : List Nd} {id : Int} (h : hasB l id = false) : disF l id = false := by
  unfold disF
  cases hr : rightB l
  · rfl
  · have hk : kindF l id = 0 := by
      refine if_neg (fun hh => ?_)
      rw [(hasB_iff l id).2 ⟨hh.1, hh.2, (rightB_iff l).1 hr⟩] at h
      cases h
    rw [hk]
    rfl
end Go.Proofs.Ytenicjebccdekaa
