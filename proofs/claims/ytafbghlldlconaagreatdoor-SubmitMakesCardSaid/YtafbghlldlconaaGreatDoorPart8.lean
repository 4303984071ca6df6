import Derived.Test.YtafbghlldlconaaGreatDoorPart7
import Derived.Lib.SlTrimSet
import Derived.Test.YtafbghlldlconaaGreatDoorPart1
import Derived.Test.YtafbghlldlconaaGreatDoorPart4
import Derived.Test.YtafbghlldlconaaGreatDoorPart5
import Derived.Deep.RegionHeld3
import Derived.Deep.RegionWith
import Derived.StillTail
import Derived.StillTailTactics
/-
  WHAT IS DISABLED: the program's way up and the document's rule answer alike: plain laws.
-/
namespace Go.Proofs.YtafbghlldlconaaGreatDoor
set_option linter.unusedVariables false
set_option linter.unusedSimpArgs false
open Go.RowKit PT

theorem kind_other8 {j : Nat} {s : ByteArray} (hj : j < 8) (hs : otL[j]? = some s) (hd : ∀ i, i < j → otL[i]? ≠ some s) (h4 : s ≠ ⟨#[105, 110, 112, 117, 116]⟩ ∧ s ≠ ⟨#[98, 117, 116, 116, 111, 110]⟩ ∧ s ≠ ⟨#[115, 101, 108, 101, 99, 116]⟩ ∧ s ≠ ⟨#[116, 101, 120, 116, 97, 114, 101, 97]⟩) (x : Nd) : kindOf x = 28 + (j : Int) ↔ x.nm = s := by
  have h1 := tyK_range (tyOf x)
  have hb : 25 ≤ btK (tyOf x) ∧ btK (tyOf x) ≤ 27 := by
    unfold btK; split
    · omega
    · split <;> omega
  constructor
  · intro h
    unfold kindOf at h
    split at h
    · omega
    · split at h
      · omega
      · split at h
        · omega
        · split at h
          · omega
          · unfold otK at h
            split at h
            · omega
            · rename_i i hi
              have h2 : i = j := by omega
              subst h2
              obtain ⟨hl, he, _⟩ := List.findIdx?_eq_some_iff_getElem.1 hi
              rw [List.getElem?_eq_getElem hl] at hs
              rw [← of_decide_eq_true he]
              exact Option.some.inj hs
  · intro h
    unfold kindOf
    rw [if_neg (by rw [h]; exact h4.1), if_neg (by rw [h]; exact h4.2.1), if_neg (by rw [h]; exact h4.2.2.1), if_neg (by rw [h]; exact h4.2.2.2), h]
    exact otK_hit hj hd hs
theorem kind_set (x : Nd) : kindOf x = 29 ↔ x.nm = ⟨#[102, 105, 101, 108, 100, 115, 101, 116]⟩ := kind_other8 (j := 1) (by decide) rfl (fun i hi => by
  match i, hi with
  | 0, _ => decide) (by decide) x
theorem kind_leg (x : Nd) : kindOf x = 34 ↔ x.nm = ⟨#[108, 101, 103, 101, 110, 100]⟩ := kind_other8 (j := 6) (by decide) rfl (fun i hi => by
  match i, hi with
  | 0, _ => decide
  | 1, _ => decide
  | 2, _ => decide
  | 3, _ => decide
  | 4, _ => decide
  | 5, _ => decide) (by decide) x
theorem kindF_set {l : List Nd} {f : Int} (h0 : 0 ≤ f) (h1 : f < l.length) : kindF l f = 29 ↔ nmOf l f = ⟨#[102, 105, 101, 108, 100, 115, 101, 116]⟩ := by
  obtain ⟨q, rfl⟩ := Int.eq_ofNat_of_zero_le h0
  have hq : q < l.length := by omega
  rw [kindF_in h0 h1, kOf_at hq, nmOf_at hq]
  exact kind_set _
theorem kindF_leg {l : List Nd} {f : Int} (h0 : 0 ≤ f) (h1 : f < l.length) : kindF l f = 34 ↔ nmOf l f = ⟨#[108, 101, 103, 101, 110, 100]⟩ := by
  obtain ⟨q, rfl⟩ := Int.eq_ofNat_of_zero_le h0
  have hq : q < l.length := by omega
  rw [kindF_in h0 h1, kOf_at hq, nmOf_at hq]
  exact kind_leg _
/-- the first legend among a node's children, by its name -/
def legQ (l : List Nd) (f : Int) : Option Int := (ksOf l f).find? (fun k => decide (nmOf l k = ⟨#[108, 101, 103, 101, 110, 100]⟩))
def spB (l : List Nd) (id f : Int) : Bool := match legQ l f with
  | some k => decide (k = id) || withinF l k (paOf l id)
  | none => false
def setQ (l : List Nd) (id f : Int) : Bool := decide (nmOf l f = ⟨#[102, 105, 101, 108, 100, 115, 101, 116]⟩) && (disA l f && (withinF l f (paOf l id) && !spB l id f))
theorem find_eq {p q : Int → Bool} : ∀ {t : List Int}, (∀ x ∈ t, p x = q x) → t.find? p = t.find? q
  | [], _ => rfl
  | x :: t, h => by
    rw [List.find?_cons, List.find?_cons, h x (List.mem_cons_self ..), find_eq (fun y hy => h y (List.mem_cons_of_mem _ hy))]
theorem legF_Q {l : List Nd} (h : RightP l) {f : Int} (h0 : 0 ≤ f) (h1 : f < l.length) : legF l f = (legQ l f).getD (-1) := by
  unfold legF firstF legQ
  rw [find_eq (q := fun k => decide (nmOf l k = ⟨#[108, 101, 103, 101, 110, 100]⟩)) (fun k hk => by
    obtain ⟨k0, k1, _⟩ := h.kid h0 h1 hk
    have := kindF_leg k0 k1
    by_cases e : kindF l k = 34
    · rw [decide_eq_true e, decide_eq_true (this.1 e)]
    · rw [decide_eq_false e, decide_eq_false (fun e' => e (this.2 e'))])]
theorem legQ_kid {l : List Nd} (h : RightP l) {f k : Int} (h0 : 0 ≤ f) (h1 : f < l.length) (hk : legQ l f = some k) : 0 ≤ k ∧ k < l.length ∧ paOf l k = f := h.kid h0 h1 (List.mem_of_find?_eq_some hk)
theorem cl_any {l : List Nd} (h : RightP l) (P : Int → Bool) : ∀ (n : Nat) (k : Int), dep l k ≤ n → k < l.length → (cl l (fun c => if P c = true then some true else none) false k = true ↔ ∃ c : Int, 0 ≤ c ∧ c < l.length ∧ Anc l k c ∧ P c = true)
  | 0, k, hn, h1 => by
    have hk : k < 0 := by
      by_cases h0 : 0 ≤ k
      · have := dep_eq h h0 h1; omega
      · omega
    rw [cl_neg l _ _ hk]
    constructor
    · intro e; cases e
    · rintro ⟨c, _, _, ha, _⟩
      have := ha.nonneg; omega
  | n + 1, k, hn, h1 => by
    by_cases h0 : 0 ≤ k
    · have hd := dep_eq h h0 h1
      have ih := cl_any h P n (paOf l k) (by omega) (h.pa_lt h0 h1)
      cases hP : P k
      · rw [cl_go h _ _ h0 h1 (by rw [hP]; rfl), ih]
        constructor
        · rintro ⟨c, c0, c1, ha, hc⟩
          refine ⟨c, c0, c1, ?_, hc⟩
          by_cases e : k = c
          · rw [e]; exact Anc.self h c0 c1
          · exact (Anc.step h h0 h1 e).2 ha
        · rintro ⟨c, c0, c1, ha, hc⟩
          have e : k ≠ c := fun e => by rw [e, hc] at hP; cases hP
          exact ⟨c, c0, c1, (Anc.step h h0 h1 e).1 ha, hc⟩
      · rw [cl_hit h _ _ h0 h1 (b := true) (by rw [hP]; rfl)]
        exact ⟨fun _ => ⟨k, h0, h1, Anc.self h h0 h1, hP⟩, fun _ => rfl⟩
    · rw [cl_neg l _ _ (by omega)]
      constructor
      · intro e; cases e
      · rintro ⟨c, _, _, ha, _⟩
        have := ha.nonneg; omega
theorem path_child {l : List Nd} (h : RightP l) {f : Int} : ∀ (n : Nat) (k : Int), dep l k ≤ n → 0 ≤ k → k < l.length → Anc l (paOf l k) f → ∃ c : Int, 0 ≤ c ∧ c < l.length ∧ Anc l k c ∧ paOf l c = f
  | 0, k, hn, h0, h1, _ => by have := dep_eq h h0 h1; omega
  | n + 1, k, hn, h0, h1, ha => by
    by_cases e : paOf l k = f
    · exact ⟨k, h0, h1, Anc.self h h0 h1, e⟩
    · have hd := dep_eq h h0 h1
      have p0 := ha.nonneg
      have p1 := h.pa_lt h0 h1
      obtain ⟨c, c0, c1, hc, hp⟩ := path_child h n (paOf l k) (by omega) p0 p1 ((Anc.step h p0 p1 e).1 ha)
      refine ⟨c, c0, c1, ?_, hp⟩
      by_cases e2 : k = c
      · rw [e2]; exact Anc.self h c0 c1
      · exact (Anc.step h h0 h1 e2).2 hc
theorem anc_par {l : List Nd} (h : RightP l) {k c : Int} (h0 : 0 ≤ k) (h1 : k < l.length) (c0 : 0 ≤ c) (c1 : c < l.length) (hp : 0 ≤ paOf l c) (ha : Anc l k c) : Anc l (paOf l k) (paOf l c) := by
  have hp1 := h.pa_lt c0 c1
  by_cases e : k = c
  · rw [e]; exact Anc.self h hp hp1
  · have ha' := (Anc.step h h0 h1 e).1 ha
    exact Anc.up h hp hp1 rfl _ (paOf l k) rfl (h.pa_lt h0 h1) ha'
theorem upDis_iff {l : List Nd} (h : RightP l) {id : Int} (h0 : 0 ≤ id) (h1 : id < l.length) : upDis l id = true ↔ ∃ f : Int, 0 ≤ f ∧ f < l.length ∧ setQ l id f = true := by
  unfold upDis
  rw [cl_any h (setP l) _ id (Nat.le_refl _) h1]
  constructor
  · rintro ⟨c, c0, c1, ha, hs⟩
    unfold setP at hs
    simp only [Bool.and_eq_true, decide_eq_true_iff] at hs
    obtain ⟨p0, hk, hd, hl⟩ := hs
    have p1 := h.pa_lt c0 c1
    refine ⟨paOf l c, p0, p1, ?_⟩
    unfold setQ
    simp only [Bool.and_eq_true, decide_eq_true_iff, Bool.not_eq_true']
    refine ⟨(kindF_set p0 p1).1 hk, hd, anc_par h h0 h1 c0 c1 p0 ha, ?_⟩
    unfold spB
    cases hq : legQ l (paOf l c) with
    | none => rfl
    | some k =>
      obtain ⟨k0, k1, kp⟩ := legQ_kid h p0 p1 hq
      rw [legF_Q h p0 p1, hq] at hl
      have hl' : k ≠ c := hl
      have hdk : Go.Proofs.YtafbghlldlconaaGreatDoor.dep l k = Go.Proofs.YtafbghlldlconaaGreatDoor.dep l c := by rw [dep_eq h k0 k1, dep_eq h c0 c1, kp]
      show (decide (k = id) || withinF l k (paOf l id)) = false
      rw [Bool.or_eq_false_iff]
      have hno : ¬ Anc l id k := fun hk' => hl' (Anc.uniq h hdk _ id rfl h1 hk' ha)
      constructor
      · refine decide_eq_false (fun e => hno ?_)
        rw [e]; exact Anc.self h h0 h1
      · cases hw : withinF l k (paOf l id)
        · rfl
        · refine absurd ?_ hno
          by_cases e : id = k
          · rw [← e]; exact Anc.self h h0 h1
          · exact (Anc.step h h0 h1 e).2 hw
  · rintro ⟨f, f0, f1, hs⟩
    unfold setQ at hs
    simp only [Bool.and_eq_true, decide_eq_true_iff, Bool.not_eq_true'] at hs
    obtain ⟨hn, hd, hw, hsp⟩ := hs
    obtain ⟨c, c0, c1, ha, hp⟩ := path_child h _ id (Nat.le_refl _) h0 h1 hw
    refine ⟨c, c0, c1, ha, ?_⟩
    unfold setP
    simp only [Bool.and_eq_true, decide_eq_true_iff]
    rw [hp]
    refine ⟨f0, (kindF_set f0 f1).2 hn, hd, fun e => ?_⟩
    rw [legF_Q h f0 f1] at e
    unfold spB at hsp
    cases hq : legQ l f with
    | none => rw [hq] at e; simp at e; omega
    | some k =>
      rw [hq] at e hsp
      have e' : k = c := e
      subst e'
      have hsp' : (decide (k = id) || withinF l k (paOf l id)) = false := hsp
      rw [Bool.or_eq_false_iff] at hsp'
      have hne : id ≠ k := fun e => of_decide_eq_false hsp'.1 e.symm
      have := (Anc.step h h0 h1 hne).1 ha
      rw [Anc, hsp'.2] at this
      cases this
theorem disF_in {l : List Nd} (h : RightP l) {id : Int} (h0 : 0 ≤ id) (h1 : id < l.length) : disF l id = ((submB (kOf l id) || decide (kOf l id = 29)) && (disA l id || upDis l id)) := by
  unfold disF
  rw [rightB_yes h, kindF_in h0 h1, Bool.true_and]
theorem disF_out {l : List Nd} {id : Int} (h : hasB l id = false) : disF l id = false := by
  unfold disF
  cases hr : rightB l
  · rfl
  · have hk : kindF l id = 0 := by
      refine if_neg (fun hh => ?_)
      rw [(hasB_iff l id).2 ⟨hh.1, hh.2, (rightB_iff l).1 hr⟩] at h
      cases h
    rw [hk]
    rfl
end Go.Proofs.YtafbghlldlconaaGreatDoor

/-
  A SELECT's OPTIONS: as the program hands them out (its children, and those of its groups) and as the document picks them among all nodes: one list: plain laws.
-/
namespace Go.Proofs.YtafbghlldlconaaGreatDoor
set_option linter.unusedVariables false
set_option linter.unusedSimpArgs false
open Go.RowKit PT

theorem kind_opt (x : Nd) : kindOf x = 32 ↔ x.nm = ⟨#[111, 112, 116, 105, 111, 110]⟩ := kind_other8 (j := 4) (by decide) rfl (fun i hi => by
  match i, hi with
  | 0, _ => decide
  | 1, _ => decide
  | 2, _ => decide
  | 3, _ => decide) (by decide) x
theorem kind_grp (x : Nd) : kindOf x = 33 ↔ x.nm = ⟨#[111, 112, 116, 103, 114, 111, 117, 112]⟩ := kind_other8 (j := 5) (by decide) rfl (fun i hi => by
  match i, hi with
  | 0, _ => decide
  | 1, _ => decide
  | 2, _ => decide
  | 3, _ => decide
  | 4, _ => decide) (by decide) x
theorem otK_ge (nm : ByteArray) : otK nm = 0 ∨ 28 ≤ otK nm := by
  unfold otK
  split
  · exact .inl rfl
  · exact .inr (by omega)
theorem kind_sel (x : Nd) : kindOf x = 23 ↔ x.nm = ⟨#[115, 101, 108, 101, 99, 116]⟩ := by
  have h1 := tyK_range (tyOf x)
  have hb : 25 ≤ btK (tyOf x) ∧ btK (tyOf x) ≤ 27 := by
    unfold btK; split
    · omega
    · split <;> omega
  have h2 := otK_ge x.nm
  have hne : ∀ {a : ByteArray}, x.nm = a → a ≠ ⟨#[115, 101, 108, 101, 99, 116]⟩ → ¬ x.nm = ⟨#[115, 101, 108, 101, 99, 116]⟩ := fun h h2 h3 => h2 (h.symm.trans h3)
  unfold kindOf
  split
  · rename_i h
    exact ⟨fun e => by omega, fun e => absurd e (hne h (by decide))⟩
  · split
    · rename_i h
      exact ⟨fun e => by omega, fun e => absurd e (hne h (by decide))⟩
    · split
      · rename_i h
        exact ⟨fun _ => h, fun _ => rfl⟩
      · rename_i h
        split
        · exact ⟨fun e => by omega, fun e => absurd e h⟩
        · exact ⟨fun e => by omega, fun e => absurd e h⟩
theorem kOf_opt {l : List Nd} {k : Int} (h0 : 0 ≤ k) (h1 : k < l.length) : kOf l k = 32 ↔ nmOf l k = ⟨#[111, 112, 116, 105, 111, 110]⟩ := by
  obtain ⟨q, rfl⟩ := Int.eq_ofNat_of_zero_le h0
  have hq : q < l.length := by omega
  rw [kOf_at hq, nmOf_at hq]
  exact kind_opt _
theorem kOf_grp {l : List Nd} {k : Int} (h0 : 0 ≤ k) (h1 : k < l.length) : kOf l k = 33 ↔ nmOf l k = ⟨#[111, 112, 116, 103, 114, 111, 117, 112]⟩ := by
  obtain ⟨q, rfl⟩ := Int.eq_ofNat_of_zero_le h0
  have hq : q < l.length := by omega
  rw [kOf_at hq, nmOf_at hq]
  exact kind_grp _
theorem kOf_sel {l : List Nd} {k : Int} (h0 : 0 ≤ k) (h1 : k < l.length) : kOf l k = 23 ↔ nmOf l k = ⟨#[115, 101, 108, 101, 99, 116]⟩ := by
  obtain ⟨q, rfl⟩ := Int.eq_ofNat_of_zero_le h0
  have hq : q < l.length := by omega
  rw [kOf_at hq, nmOf_at hq]
  exact kind_sel _
/-- what the program looks at for a select's child: a group's children, or it alone -/
def innF (l : List Nd) (k : Int) : List Int := if kOf l k = 33 then ksOf l k else [k]
def optP (l : List Nd) (k : Int) : Bool := decide (kOf l k = 32)
def optsOf (l : List Nd) (sel : Int) : List Int := (ksOf l sel).flatMap fun k => (innF l k).filter (optP l)
noncomputable def listF (l : List Nd) (sel : Int) : List Int := if isF l sel 23 = true then optsOf l sel else []
/-- an option's select; -1: none -/
def selUp (l : List Nd) (k : Int) : Int := if 0 ≤ paOf l k ∧ nmOf l (paOf l k) = ⟨#[111, 112, 116, 103, 114, 111, 117, 112]⟩ then paOf l (paOf l k) else paOf l k
def ownR (l : List Nd) (k : Int) : Int := if selUp l k < 0 ∨ nmOf l (selUp l k) ≠ ⟨#[115, 101, 108, 101, 99, 116]⟩ then -1 else selUp l k
def optR (l : List Nd) (sel : Int) (k : Int) : Bool := decide (nmOf l k = ⟨#[111, 112, 116, 105, 111, 110]⟩) && decide (ownR l k = sel)
theorem ownR_at {l : List Nd} {k sel : Int} (h0 : 0 ≤ sel) : ownR l k = sel ↔ selUp l k = sel ∧ nmOf l sel = ⟨#[115, 101, 108, 101, 99, 116]⟩ := by
  unfold ownR
  split
  · rename_i h
    refine ⟨fun e => by omega, fun ⟨a, b⟩ => ?_⟩
    rw [a] at h
    rcases h with h | h
    · omega
    · exact absurd b h
  · rename_i h
    refine ⟨fun a => ⟨a, ?_⟩, fun a => a.1⟩
    rw [a] at h
    by_cases e : nmOf l sel = ⟨#[115, 101, 108, 101, 99, 116]⟩
    · exact e
    · exact absurd (.inr e) h
theorem nm_ne {a b c : ByteArray} (h : a = b) (hbc : b ≠ c) : a ≠ c := fun e => hbc (h.symm.trans e)
/-- an option of a select stands one or two steps below it -/
theorem selUp_dep {l : List Nd} (h : RightP l) {k sel : Int} (s0 : 0 ≤ sel) (s1 : sel < l.length) (k0 : 0 ≤ k) (k1 : k < l.length) (hu : selUp l k = sel) :
    (paOf l k = sel ∧ dep l k = dep l sel + 1) ∨ (0 ≤ paOf l k ∧ nmOf l (paOf l k) = ⟨#[111, 112, 116, 103, 114, 111, 117, 112]⟩ ∧ paOf l (paOf l k) = sel ∧ dep l (paOf l k) = dep l sel + 1 ∧ dep l k = dep l sel + 2) := by
  have hd := dep_eq h k0 k1
  unfold selUp at hu
  split at hu
  · rename_i hc
    have hp1 := h.pa_lt k0 k1
    have hd2 := dep_eq h hc.1 hp1
    rw [hu] at hd2
    exact .inr ⟨hc.1, hc.2, hu, hd2, by omega⟩
  · rw [hu] at hd
    exact .inl ⟨hu, hd⟩
theorem filter_one {l : List Nd} (h : RightP l) {c : Int} (c0 : 0 ≤ c) (c1 : c < l.length) {p : Int → Bool} (hp : ∀ x : Int, 0 ≤ x → x < l.length → Anc l x c → x ≠ c → p x = false) : (ord l c).filter p = [c].filter p := by
  have hn := nodup_ordF h (l.length + 2) c c0 c1
  change (ord l c).Nodup at hn
  have hm := fun x (hx : x ∈ ord l c) => ord_mem h c0 c1 hx
  rw [ord_eq h c0 c1] at hn hm ⊢
  have ht : ((ksOf l c).flatMap (ord l)).filter p = [] := by
    rw [List.filter_eq_nil_iff]
    intro x hx
    have hne : x ≠ c := fun e => (List.nodup_cons.1 hn).1 (e ▸ hx)
    obtain ⟨a, b, d⟩ := hm x (List.mem_cons_of_mem _ hx)
    rw [hp x a b d hne]
    exact Bool.false_ne_true
  rw [List.filter_cons, List.filter_cons, ht]
  rfl
theorem filter_flat {α β : Type} (p : β → Bool) (f : α → List β) : ∀ t : List α, (t.flatMap f).filter p = t.flatMap fun k => (f k).filter p
  | [] => rfl
  | x :: t => by rw [List.flatMap_cons, List.flatMap_cons, List.filter_append, filter_flat p f t]
theorem filter_same {p q : Int → Bool} : ∀ {t : List Int}, (∀ x ∈ t, p x = q x) → t.filter p = t.filter q
  | [], _ => rfl
  | x :: t, h => by
    rw [List.filter_cons, List.filter_cons, h x List.mem_cons_self, filter_same (fun y hy => h y (List.mem_cons_of_mem _ hy))]
theorem opt_single {l : List Nd} {c sel : Int} (c0 : 0 ≤ c) (c1 : c < l.length) (s0 : 0 ≤ sel) (hS : nmOf l sel = ⟨#[115, 101, 108, 101, 99, 116]⟩) (hu : selUp l c = sel) : optR l sel c = optP l c := by
  unfold optR optP
  rw [decide_eq_true ((ownR_at s0).2 ⟨hu, hS⟩), Bool.and_true]
  exact decide_eq_decide.2 (kOf_opt c0 c1).symm
/-- ONE LIST -/
theorem opts_same {l : List Nd} (h : RightP l) {sel : Int} (s0 : 0 ≤ sel) (s1 : sel < l.length) (hS : nmOf l sel = ⟨#[115, 101, 108, 101, 99, 116]⟩) : (ord l sel).filter (optR l sel) = optsOf l sel := by
  have hno : optR l sel sel = false := by
    unfold optR
    rw [decide_eq_false (nm_ne hS (by decide)), Bool.false_and]
  have hR : ∀ x : Int, optR l sel x = true → selUp l x = sel := fun x hx => by
    unfold optR at hx
    rw [Bool.and_eq_true] at hx
    exact ((ownR_at s0).1 (of_decide_eq_true hx.2)).1
  rw [ord_eq h s0 s1, List.filter_cons, hno, if_neg Bool.false_ne_true, filter_flat]
  unfold optsOf
  refine flatMap_eq (fun k hk => ?_)
  obtain ⟨k0, k1, kp⟩ := h.kid s0 s1 hk
  have hdk := dep_kid h s0 s1 hk
  by_cases hg : kOf l k = 33
  · have hgn := (kOf_grp k0 k1).1 hg
    have hi : innF l k = ksOf l k := if_pos hg
    rw [hi, ord_eq h k0 k1, List.filter_cons]
    have hk' : optR l sel k = false := by
      unfold optR
      rw [decide_eq_false (nm_ne hgn (by decide)), Bool.false_and]
    rw [hk', if_neg Bool.false_ne_true, filter_flat]
    have hone : ∀ c ∈ ksOf l k, (ord l c).filter (optR l sel) = [c].filter (optP l) := fun c hc => by
      obtain ⟨c0, c1, cp⟩ := h.kid k0 k1 hc
      have hdc := dep_kid h k0 k1 hc
      have hu : selUp l c = sel := by
        unfold selUp
        rw [cp, if_pos ⟨k0, hgn⟩, kp]
      rw [filter_one h c0 c1 (fun x x0 x1 hx hne => ?_)]
      · exact filter_same (fun y hy => by
          rw [List.mem_singleton] at hy
          subst hy
          exact opt_single c0 c1 s0 hS hu)
      · cases hq : optR l sel x
        · rfl
        · exfalso
          have hdx : dep l c < dep l x := by
            rcases Anc.dep h _ x rfl x1 hx with e | e
            · exact absurd e hne
            · exact e
          rcases selUp_dep h s0 s1 x0 x1 (hR x hq) with ⟨_, e⟩ | ⟨_, _, _, _, e⟩ <;> omega
    rw [flatMap_eq hone]
    generalize ksOf l k = t
    induction t with
    | nil => rfl
    | cons y t ih =>
      rw [List.flatMap_cons, ih, List.filter_cons, List.filter_cons]
      split <;> rfl
  · have hgn : nmOf l k ≠ ⟨#[111, 112, 116, 103, 114, 111, 117, 112]⟩ := fun e => hg ((kOf_grp k0 k1).2 e)
    have hi : innF l k = [k] := if_neg hg
    rw [hi]
    have hu : selUp l k = sel := by
      unfold selUp
      rw [kp, if_neg (fun e => nm_ne hS (by decide) e.2)]
    rw [filter_one h k0 k1 (fun x x0 x1 hx hne => ?_)]
    · exact filter_same (fun y hy => by
        rw [List.mem_singleton] at hy
        subst hy
        exact opt_single k0 k1 s0 hS hu)
    · cases hq : optR l sel x
      · rfl
      · exfalso
        have hdx : dep l k < dep l x := by
          rcases Anc.dep h _ x rfl x1 hx with e | e
          · exact absurd e hne
          · exact e
        rcases selUp_dep h s0 s1 x0 x1 (hR x hq) with ⟨_, e⟩ | ⟨p0, pg, _, pd, _⟩
        · omega
        · have ha := (Anc.step h x0 x1 hne).1 hx
          rcases Anc.dep h _ (paOf l x) rfl (h.pa_lt x0 x1) ha with e | e
          · rw [e] at pg
            exact hgn pg
          · omega
theorem optsOf_mem {l : List Nd} (h : RightP l) {sel : Int} (s0 : 0 ≤ sel) (s1 : sel < l.length) {o : Int} (ho : o ∈ optsOf l sel) : 0 ≤ o ∧ o < l.length ∧ kOf l o = 32 := by
  obtain ⟨k, hk, hx⟩ := List.mem_flatMap.1 ho
  obtain ⟨k0, k1, _⟩ := h.kid s0 s1 hk
  rw [List.mem_filter] at hx
  refine ⟨?_, ?_, of_decide_eq_true hx.2⟩
  all_goals
    have hm := hx.1
    unfold innF at hm
    split at hm
    · have := h.kid k0 k1 hm
      omega
    · rw [List.mem_singleton] at hm
      omega
theorem optsOf_len {l : List Nd} (h : RightP l) {sel : Int} (s0 : 0 ≤ sel) (s1 : sel < l.length) (hS : nmOf l sel = ⟨#[115, 101, 108, 101, 99, 116]⟩) : (optsOf l sel).length ≤ l.length := by
  rw [← opts_same h s0 s1 hS]
  exact Nat.le_trans (List.length_filter_le _ _) (ord_len h s0 s1)
end Go.Proofs.YtafbghlldlconaaGreatDoor

/-
  PLAIN LAWS ON BLANKS: Strip and Collapse: no program in sight.
-/
namespace Go.Proofs.YtafbghlldlconaaGreatDoor.PT
set_option linter.unusedVariables false
set_option linter.unusedSimpArgs false

def blanks : List UInt8 := [9, 10, 12, 13, 32]
def blk (c : UInt8) : Bool := blanks.contains c
def strip (l : List UInt8) : List UInt8 := Lib.trimS l blanks

/-- m is what is left of l without the blanks at its ends -/
def IsStrip (l m : List UInt8) : Prop := ∃ a b, l = a ++ m ++ b ∧ (∀ c ∈ a, blk c = true) ∧ (∀ c ∈ b, blk c = true) ∧ (∀ c, m.head? = some c → blk c = false) ∧ (∀ c, m.getLast? = some c → blk c = false)

theorem last_app (x y : List UInt8) (h : y ≠ []) : (x ++ y).getLast? = y.getLast? := by
  rw [List.getLast?_append]
  cases hy : y.getLast? with
  | none => exact absurd (List.getLast?_eq_none_iff.1 hy) h
  | some c => rfl
theorem dropWhile_all {p : UInt8 → Bool} {a : List UInt8} (h : ∀ c ∈ a, p c = true) (x : List UInt8) : (a ++ x).dropWhile p = x.dropWhile p := by
  induction a with
  | nil => rfl
  | cons c a ih =>
    rw [List.cons_append, List.dropWhile_cons_of_pos (h c (List.mem_cons_self ..))]
    exact ih (fun d hd => h d (List.mem_cons_of_mem _ hd))
theorem dropWhile_head {p : UInt8 → Bool} {x : List UInt8} (h : ∀ c, x.head? = some c → p c = false) : x.dropWhile p = x := by
  cases x with
  | nil => rfl
  | cons c x => rw [List.dropWhile_cons_of_neg (by rw [h c rfl]; simp)]
theorem strip_of {l m : List UInt8} (h : IsStrip l m) : strip l = m := by
  obtain ⟨a, b, rfl, ha, hb, hh, hl⟩ := h
  have hR : ∀ x, (∀ c, x.getLast? = some c → blk c = false) → Lib.trimRightS (x ++ b) blanks = x := by
    intro x hx
    unfold Lib.trimRightS
    rw [List.reverse_append, dropWhile_all (p := fun c => blanks.contains c) (fun c hc => hb c (List.mem_reverse.1 hc)), dropWhile_head, List.reverse_reverse]
    intro c hc
    rw [List.head?_reverse] at hc
    exact hx c hc
  unfold strip Lib.trimS
  by_cases hm : m = []
  · subst hm
    have e : Lib.trimRightS (a ++ [] ++ b) blanks = [] := by
      unfold Lib.trimRightS
      rw [List.reverse_eq_nil_iff]
      have : ∀ c ∈ (a ++ [] ++ b).reverse, blk c = true := by
        intro c hc
        rw [List.mem_reverse, List.append_nil, List.mem_append] at hc
        exact hc.elim (ha c) (hb c)
      have h := dropWhile_all (p := fun c => blanks.contains c) this []
      rw [List.append_nil] at h
      exact h
    rw [e]; rfl
  · rw [hR (a ++ m) (fun c hc => hl c (by rwa [last_app _ _ hm] at hc))]
    unfold Lib.trimLeftS
    rw [dropWhile_all (p := fun c => blanks.contains c) ha, dropWhile_head (p := fun c => blanks.contains c) hh]
theorem isStrip_strip (l : List UInt8) : IsStrip l (strip l) := by
  have hd : ∀ (p : UInt8 → Bool) (x : List UInt8), (∀ c, (x.dropWhile p).head? = some c → p c = false) := by
    intro p x c hc
    have := List.head?_dropWhile_not p x
    rw [hc] at this
    simpa using this
  have hsplit : ∀ x : List UInt8, x = x.takeWhile blk ++ x.dropWhile blk := fun x => (List.takeWhile_append_dropWhile).symm
  have hall : ∀ x : List UInt8, ∀ c ∈ x.takeWhile blk, blk c = true := fun x c hc => by
    have := List.all_takeWhile (p := blk) (l := x)
    rw [List.all_eq_true] at this
    exact this c hc
  let r := Lib.trimRightS l blanks
  have hr : l = r ++ (l.reverse.takeWhile blk).reverse := by
    have := congrArg List.reverse (hsplit l.reverse)
    rw [List.reverse_reverse, List.reverse_append] at this
    exact this
  have hs : r = r.takeWhile blk ++ strip l := hsplit r
  refine ⟨r.takeWhile blk, (l.reverse.takeWhile blk).reverse, ?_, hall r, fun c hc => hall _ c (List.mem_reverse.1 hc), hd blk r, ?_⟩
  · rw [← hs]; exact hr
  · intro c hc
    have : r.getLast? = some c := by
      rw [hs, last_app]
      · exact hc
      · intro e; rw [e] at hc; cases hc
    have h2 := hd blk l.reverse c
    apply h2
    have e : r = (l.reverse.dropWhile blk).reverse := rfl
    rw [e, List.getLast?_reverse] at this
    exact this
theorem strip_strip (l : List UInt8) : strip (strip l) = strip l := by
  obtain ⟨_, _, _, _, _, h1, h2⟩ := isStrip_strip l
  exact strip_of ⟨[], [], by simp, by simp, by simp, h1, h2⟩
theorem strip_wide (a b l : List UInt8) (ha : ∀ c ∈ a, blk c = true) (hb : ∀ c ∈ b, blk c = true) : strip (a ++ l ++ b) = strip l := by
  obtain ⟨a', b', e, ha', hb', h1, h2⟩ := isStrip_strip l
  refine strip_of ⟨a ++ a', b' ++ b, ?_, ?_, ?_, h1, h2⟩
  · generalize strip l = m at e
    rw [e]; simp
  · intro c hc; exact (List.mem_append.1 hc).elim (ha c) (ha' c)
  · intro c hc; exact (List.mem_append.1 hc).elim (hb' c) (hb c)
theorem strip_len (l : List UInt8) : (strip l).length ≤ l.length := by
  obtain ⟨a, b, e, _⟩ := isStrip_strip l
  have := congrArg List.length e
  simp only [List.length_append] at this
  omega

/-- the runs of bytes that are no blanks, the one that has begun ahead -/
def wds (cur : List UInt8) : List UInt8 → List (List UInt8)
  | [] => if cur = [] then [] else [cur]
  | c :: r => if blk c then (if cur = [] then wds [] r else cur :: wds [] r) else wds (cur ++ [c]) r
def join : List (List UInt8) → List UInt8
  | [] => []
  | x :: l => x ++ l.flatMap (fun y => 32 :: y)
def Word (x : List UInt8) : Prop := x ≠ [] ∧ ∀ c ∈ x, blk c = false
def collapse (l : List UInt8) : List UInt8 := join (wds [] l)

theorem wds_words : ∀ (l cur : List UInt8), (∀ c ∈ cur, blk c = false) → ∀ x ∈ wds cur l, Word x
  | [], cur, hc => by
    unfold wds
    split
    · simp
    · rename_i h; intro x hx; simp at hx; subst hx; exact ⟨h, hc⟩
  | c :: r, cur, hc => by
    unfold wds
    split
    · split
      · exact wds_words r [] (by simp)
      · rename_i h
        intro x hx
        rcases List.mem_cons.1 hx with rfl | hx
        · exact ⟨h, hc⟩
        · exact wds_words r [] (by simp) x hx
    · rename_i h
      exact wds_words r (cur ++ [c]) (fun d hd => (List.mem_append.1 hd).elim (hc d) (fun e => by simp at e; subst e; simpa using h))
theorem wds_blank (b : List UInt8) (hb : ∀ c ∈ b, blk c = true) : ∀ cur x, wds cur (x ++ b) = wds cur x := by
  have h0 : ∀ cur, wds cur b = if cur = [] then [] else [cur] := by
    induction b with
    | nil => intro cur; rfl
    | cons c b ih =>
      intro cur
      have hb' := ih (fun d hd => hb d (List.mem_cons_of_mem _ hd))
      rw [wds, if_pos (hb c (List.mem_cons_self ..)), hb' []]
      simp
  intro cur x
  induction x generalizing cur with
  | nil => rw [List.nil_append, h0, wds]
  | cons c x ih => simp only [List.cons_append, wds, ih]
theorem wds_lead (a : List UInt8) (ha : ∀ c ∈ a, blk c = true) (x : List UInt8) : wds [] (a ++ x) = wds [] x := by
  induction a with
  | nil => rfl
  | cons c a ih =>
    rw [List.cons_append, wds, if_pos (ha c (List.mem_cons_self ..)), if_pos rfl]
    exact ih (fun d hd => ha d (List.mem_cons_of_mem _ hd))
theorem wds_strip (l : List UInt8) : wds [] (strip l) = wds [] l := by
  obtain ⟨a, b, e, ha, hb, _, _⟩ := isStrip_strip l
  generalize strip l = m at e
  rw [e, wds_blank b hb, wds_lead a ha]
theorem wds_word (x : List UInt8) (hx : ∀ c ∈ x, blk c = false) : ∀ cur r, wds cur (x ++ r) = wds (cur ++ x) r := by
  induction x with
  | nil => intro cur r; simp
  | cons c x ih =>
    intro cur r
    rw [List.cons_append, wds, if_neg (by rw [hx c (List.mem_cons_self ..)]; simp), ih (fun d hd => hx d (List.mem_cons_of_mem _ hd))]
    simp
theorem wds_tail : ∀ ws : List (List UInt8), (∀ x ∈ ws, Word x) → ∀ cur, cur ≠ [] → wds cur (ws.flatMap (fun y => 32 :: y)) = cur :: ws
  | [], _, cur, hc => by rw [List.flatMap_nil, wds, if_neg hc]
  | x :: ws, h, cur, hc => by
    rw [List.flatMap_cons, List.cons_append, wds, if_pos (show blk 32 = true from rfl), if_neg hc, wds_word x (h x (List.mem_cons_self ..)).2, List.nil_append, wds_tail ws (fun y hy => h y (List.mem_cons_of_mem _ hy)) x (h x (List.mem_cons_self ..)).1]
theorem wds_join (ws : List (List UInt8)) (h : ∀ x ∈ ws, Word x) : wds [] (join ws) = ws := by
  cases ws with
  | nil => rfl
  | cons x ws =>
    rw [join, wds_word x (h x (List.mem_cons_self ..)).2, List.nil_append, wds_tail ws (fun y hy => h y (List.mem_cons_of_mem _ hy)) x (h x (List.mem_cons_self ..)).1]
theorem words_of (l : List UInt8) : ∀ x ∈ wds [] l, Word x := wds_words l [] (by simp)
theorem collapse_twice (l : List UInt8) : collapse (collapse l) = collapse l := by
  unfold collapse
  rw [wds_join _ (words_of l)]
theorem collapse_strip (l : List UInt8) : collapse (strip l) = collapse l := by
  unfold collapse
  rw [wds_strip]
theorem join_head (ws : List (List UInt8)) (h : ∀ x ∈ ws, Word x) : ∀ c, (join ws).head? = some c → blk c = false := by
  intro c hc
  cases ws with
  | nil => cases hc
  | cons x ws =>
    obtain ⟨h1, h2⟩ := h x (List.mem_cons_self ..)
    cases x with
    | nil => exact absurd rfl h1
    | cons d x =>
      simp [join] at hc
      subst hc
      exact h2 _ (List.mem_cons_self ..)
theorem tail_last : ∀ (ws : List (List UInt8)), (∀ x ∈ ws, Word x) → ∀ x, Word x → ∀ c, (x ++ ws.flatMap (fun y => 32 :: y)).getLast? = some c → blk c = false
  | [], _, x, hx, c, hc => by
    rw [List.flatMap_nil, List.append_nil] at hc
    exact hx.2 c (List.mem_of_getLast? hc)
  | y :: ws, h, x, _, c, hc => by
    rw [List.flatMap_cons, List.cons_append] at hc
    have h1 := h y (List.mem_cons_self ..)
    have hne : y ++ ws.flatMap (fun y => 32 :: y) ≠ [] := by
      intro e
      exact h1.1 (List.append_eq_nil_iff.1 e).1
    rw [last_app _ _ (by simp), show (32 :: (y ++ ws.flatMap (fun y => 32 :: y))) = [32] ++ (y ++ ws.flatMap (fun y => 32 :: y)) from rfl, last_app _ _ hne] at hc
    exact tail_last ws (fun z hz => h z (List.mem_cons_of_mem _ hz)) y h1 c hc
theorem strip_collapse (l : List UInt8) : strip (collapse l) = collapse l := by
  unfold collapse
  have hw := words_of l
  refine strip_of ⟨[], [], by simp, by simp, by simp, join_head _ hw, ?_⟩
  intro c hc
  cases hws : wds [] l with
  | nil => rw [hws] at hc; cases hc
  | cons x ws =>
    rw [hws] at hc hw
    exact tail_last ws (fun y hy => hw y (List.mem_cons_of_mem _ hy)) x (hw x (List.mem_cons_self ..)) c hc
end Go.Proofs.YtafbghlldlconaaGreatDoor.PT

/-
  PLAIN LAWS: Collapse byte by byte is the runs with one blank between: no program in sight.
-/
namespace Go.Proofs.YtafbghlldlconaaGreatDoor.PT
set_option linter.unusedVariables false
set_option linter.unusedSimpArgs false

/-- what Collapse makes of what is still to come: 'out' so far, 'a': a blank was met ahead -/
def col (out : List UInt8) (a : Bool) : List UInt8 → List UInt8
  | [] => out
  | c :: r => if blk c then col out (decide (0 < out.length)) r else col ((if a then out ++ [32] else out) ++ [c]) false r
theorem col_in (l : List UInt8) : ∀ (pre cur : List UInt8), cur ≠ [] → col (pre ++ cur) false l = pre ++ join (wds cur l) ∧ (∀ out, out ≠ [] → col out true l = out ++ (wds [] l).flatMap (fun y => 32 :: y)) := by
  induction l with
  | nil =>
    intro pre cur hc
    refine ⟨?_, ?_⟩
    · rw [wds, if_neg hc]; simp [col, join]
    · intro out _; simp [col, wds]
  | cons c r ih =>
    intro pre cur hc
    by_cases hb : blk c = true
    · refine ⟨?_, ?_⟩
      · have hp : 0 < (pre ++ cur).length := by
          rw [List.length_append]
          have := List.length_pos_iff.2 hc
          omega
        have h2 := (ih [] [0] (by simp)).2 (pre ++ cur) (by intro e; exact hc (List.append_eq_nil_iff.1 e).2)
        rw [col, if_pos hb, decide_eq_true hp, h2, wds, if_pos hb, if_neg hc, join, List.append_assoc]
      · intro out ho
        have hp : 0 < out.length := List.length_pos_iff.2 ho
        rw [col, if_pos hb, decide_eq_true hp, (ih [] [0] (by simp)).2 out ho, wds, if_pos hb, if_pos rfl]
    · refine ⟨?_, ?_⟩
      · have h1 := (ih pre (cur ++ [c]) (by simp)).1
        rw [col, if_neg hb, if_neg (by simp), wds, if_neg hb, ← h1, List.append_assoc]
      · intro out ho
        have h1 := (ih (out ++ [32]) [c] (by simp)).1
        rw [col, if_neg hb, if_pos rfl, h1, wds, if_neg hb, List.nil_append]
        cases hw : wds [c] r with
        | nil =>
          exfalso
          have : ∀ (x : List UInt8) (y : List UInt8), y ≠ [] → wds y x ≠ [] := by
            intro x
            induction x with
            | nil => intro y hy; rw [wds, if_neg hy]; simp
            | cons d x ihx =>
              intro y hy
              rw [wds]
              split
              · first | simp | (rw [if_neg hy]; simp)
              · exact ihx _ (by simp)
          exact this r [c] (by simp) hw
        | cons x ws => simp [join]
theorem col_start : ∀ l : List UInt8, col [] false l = collapse l
  | [] => rfl
  | c :: r => by
    unfold collapse
    by_cases hb : blk c = true
    · rw [col, if_pos hb, wds, if_pos hb, if_pos rfl]
      exact col_start r
    · rw [col, if_neg hb, if_neg (by simp), wds, if_neg hb]
      have := (col_in r [] [c] (by simp)).1
      simpa using this
end Go.Proofs.YtafbghlldlconaaGreatDoor.PT

/-
  STATES (api.Ctl): slices.Clone, group.copied: the walks; a state's cells in an own row; stores of one field.
-/
namespace Go.Proofs.YtafbghlldlconaaGreatDoor
set_option linter.unusedVariables false
set_option linter.unusedSimpArgs false
open Go.RowKit

theorem set_same {α : Type} (l : List α) (k : Nat) (x : α) (h : l[k]? = some x) : l.set k x = l := by
  obtain ⟨h1, h2⟩ := List.getElem?_eq_some_iff.1 h
  subst h2
  exact List.set_getElem_self h1
theorem OC.len {base : Nat} {L : List CtT} {v : Value} {w : World} (h : OC base L v w) : ∃ a cap, v = .slice a L.length cap ∧ (a = none → cap = 0) := own_form h.row
theorem OC.at {base : Nat} {L : List CtT} {v : Value} {w : World} (h : OC base L v w) {k : Nat} (hk : k < L.length) : ∃ g cap cur, v = .slice (some ⟨g, 0, none⟩) L.length cap ∧ base ≤ g ∧ w.heap[g]? = some (.cells cur 104 (0, 0)) ∧ Ten g (k * 10) L[k].1 L[k].2 w ∧ Ents L[k].1.fi L[k].2 w := by
  obtain ⟨g, cap, cur, hv, hb, hg⟩ := h.blk (by rintro rfl; simp at hk)
  refine ⟨g, cap, cur, hv, hb, hg, ?_, (h.fil _ (List.getElem_mem hk)).1⟩
  obtain ⟨g', cap', hv', _, _, _, hc⟩ := own_cell h.row (by rw [ne_eq, ← List.length_eq_zero_iff, flat_size ctC_len]; omega)
  rw [hv] at hv'
  cases hv'
  have f := fun i u (hu : (ctC (L[k]'hk))[i]? = some u) => hc _ _ (flat_get ctC_len L k (L[k]'hk) (List.getElem?_eq_getElem hk) i u hu)
  exact ⟨f 0 _ rfl, f 1 _ rfl, f 2 _ rfl, f 3 _ rfl, f 4 _ rfl, f 5 _ rfl, f 6 _ rfl, f 7 _ rfl, f 8 _ rfl, f 9 _ rfl⟩
/-- 'out[k].Checked = b' -/
theorem OC.setCh {base : Nat} {L : List CtT} {g n cap : Nat} {w : World} (h : OC base L (.slice (some ⟨g, 0, none⟩) n cap) w) {k : Nat} (hk : k < L.length) (b : Bool) :
    ∃ L', L'.map (·.1) = (L.map (·.1)).set k { L[k].1 with ch := b } ∧ OC base L' (.slice (some ⟨g, 0, none⟩) n cap) (w.setCell ⟨g, k * 10 + 3, none⟩ (.bool b)) ∧ Below base w (w.setCell ⟨g, k * 10 + 3, none⟩ (.bool b)) := by
  have hf := h.fil L[k] (List.getElem_mem hk)
  obtain ⟨h1, h2⟩ := h.set (k := k) (i := 3) (t := L[k]) (t' := ({ L[k].1 with ch := b }, L[k].2)) (u := .bool b) (List.getElem?_eq_getElem hk) (by omega) rfl hf
  exact ⟨_, List.map_set, h1, h2⟩
/-- 'out[k].DirtyChecked = b' -/
theorem OC.setDc {base : Nat} {L : List CtT} {g n cap : Nat} {w : World} (h : OC base L (.slice (some ⟨g, 0, none⟩) n cap) w) {k : Nat} (hk : k < L.length) (b : Bool) :
    ∃ L', L'.map (·.1) = (L.map (·.1)).set k { L[k].1 with dc := b } ∧ OC base L' (.slice (some ⟨g, 0, none⟩) n cap) (w.setCell ⟨g, k * 10 + 4, none⟩ (.bool b)) ∧ Below base w (w.setCell ⟨g, k * 10 + 4, none⟩ (.bool b)) := by
  have hf := h.fil L[k] (List.getElem_mem hk)
  obtain ⟨h1, h2⟩ := h.set (k := k) (i := 4) (t := L[k]) (t' := ({ L[k].1 with dc := b }, L[k].2)) (u := .bool b) (List.getElem?_eq_getElem hk) (by omega) rfl hf
  exact ⟨_, List.map_set, h1, h2⟩
theorem cells_not_frozen {w : World} {g i : Nat} {cur : Array Value} {T : TypeId} (h : w.heap[g]? = some (.cells cur T (0, 0))) : w.frozen? ⟨g, i, none⟩ = false := by
  simp [World.frozen?, h]
theorem SizedC.ents {cs : List Ct} (h : SizedC cs) {L : List CtT} (hL : L.map (·.1) = cs) {t : CtT} (ht : t ∈ L) : t.1.fi.length * 72 ≤ 140737488351232 :=
  h.fi' _ (by rw [← hL]; exact List.mem_map_of_mem ht)

end Go.Proofs.YtafbghlldlconaaGreatDoor

/-
  A DOCUMENT WITH STATES (api.Doc) as a parameter: option.Right, ref15.Right, the law's copied; ref14.Same, ref15.Same on states that read the same: the walks.
-/
namespace Go.Proofs.YtafbghlldlconaaGreatDoor
set_option linter.unusedVariables false
set_option linter.unusedSimpArgs false
open Go.RowKit

/-- a document with states that came in -/
structure DocAt (l : List Nd) (cs : List Ct) (vn vc : Value) (w : World) : Prop where
  nodes : Came l vn w
  ctls : Ctls cs vc w
  sz : SizedC cs
theorem DocAt.kept {l : List Nd} {cs : List Ct} {vn vc : Value} {w w' : World} (h : DocAt l cs vn vc w) (hb : Below w.heap.size w w') : DocAt l cs vn vc w' := ⟨h.nodes.kept hb, h.ctls.kept hb, h.sz⟩
noncomputable def okD (l : List Nd) (cs : List Ct) : Bool := rightB l && decide (l.length = cs.length)
/-- the variable that the parameter is laid in -/
theorem doc_box {T : TypeId} {l : List Nd} {cs : List Ct} {vn vc : Value} {w : World} (h : DocAt l cs vn vc w) :
    DocAt l cs vn vc (w.alloc (.cells #[vn, vc] T)) ∧ Below w.heap.size w (w.alloc (.cells #[vn, vc] T)) ∧ (w.alloc (.cells #[vn, vc] T)).heap.size = w.heap.size + 1 ∧
      (w.alloc (.cells #[vn, vc] T)).cell? ⟨w.heap.size, 0, none⟩ = some vn ∧ (w.alloc (.cells #[vn, vc] T)).cell? ⟨w.heap.size, 1, none⟩ = some vc := by
  have hb := (Below.refl w.heap.size w).alloc (Nat.le_refl _) (.cells #[vn, vc] T)
  have hn := Go.heap_alloc_new w (.cells #[vn, vc] T)
  exact ⟨h.kept hb, hb, by simp, by simp only [World.cell?, hn]; rfl, by simp only [World.cell?, hn]; rfl⟩
set_option maxHeartbeats 1000000 in
set_option maxRecDepth 100000 in
theorem optRight_any (l : List Nd) (cs : List Ct) (vn vc : Value) (w : World) (hD : DocAt l cs vn vc w) :
    Calls Tryz.prog 17 #[.agg #[vn, vc]] w fun e w' => e = .returned (.bool (okD l cs)) ∧ Below w.heap.size w w' := by
  obtain ⟨a1, cap1, rfl⟩ := hD.nodes.nodes.len
  obtain ⟨a2, cap2, rfl⟩ := hD.ctls.len
  obtain ⟨hD1, hb1, hs1, _, _⟩ := doc_box (T := 25) hD
  by_cases hll : l.length = cs.length
  · have hr := Lib.hid (show okD l cs = rightB l by unfold okD; rw [decide_eq_true hll, Bool.and_true])
    have h1 : ((l.length : Int) == (cs.length : Int)) = true := by rw [hll]; exact beq_self_eq_true _
    clear hll
    go_enter Tryz.func17, Tryz.ntmps17
    go_wp2_with fail
    refine (right_any l _ hD1.nodes.len hD1.nodes.fits _ hD1.nodes.nodes).mono ?_
    rintro e w2 ⟨rfl, hb2⟩
    go_wp2_with fail
    go_ret
    exact ⟨ret_bool hr.out.symm, bs hb1 hb2⟩
  · have hr := Lib.hid (show okD l cs = false by unfold okD; rw [decide_eq_false hll, Bool.and_false])
    have h1 : ((l.length : Int) == (cs.length : Int)) = false := intNe (by omega)
    go_enter Tryz.func17, Tryz.ntmps17
    go_wp2_with fail
    go_ret
    exact ⟨ret_bool hr.out.symm, hb1⟩
set_option maxHeartbeats 1000000 in
set_option maxRecDepth 100000 in
theorem refRight15_any (l : List Nd) (cs : List Ct) (vn vc : Value) (w : World) (hD : DocAt l cs vn vc w) :
    Calls Tryz.prog 30 #[.agg #[vn, vc]] w fun e w' => e = .returned (.bool (okD l cs)) ∧ Below w.heap.size w w' := by
  obtain ⟨a1, cap1, rfl⟩ := hD.nodes.nodes.len
  obtain ⟨a2, cap2, rfl⟩ := hD.ctls.len
  obtain ⟨hD1, hb1, hs1, c0, c1⟩ := doc_box (T := 25) hD
  cases hR : rightB l
  · have hr := Lib.hid (show okD l cs = false by unfold okD; rw [hR]; rfl)
    have HR := Lib.hid hR
    clear hR
    go_enter Tryz.func30, Tryz.ntmps30
    go_wp2_with fail
    refine (refRight_any l _ hD1.nodes.len hD1.nodes.fits _ hD1.nodes.nodes).mono ?_
    rintro e w2 ⟨rfl, hb2⟩
    rw [HR.out]
    go_wp2_with fail
    go_ret
    exact ⟨ret_bool hr.out.symm, bs hb1 hb2⟩
  have HR := Lib.hid hR
  by_cases hll : l.length = cs.length
  · have hr := Lib.hid (show okD l cs = true by unfold okD; rw [hR, decide_eq_true hll]; rfl)
    have h1 : ((l.length : Int) == (cs.length : Int)) = true := by rw [hll]; exact beq_self_eq_true _
    clear hR hll
    go_enter Tryz.func30, Tryz.ntmps30
    go_wp2_with fail
    refine (refRight_any l _ hD1.nodes.len hD1.nodes.fits _ hD1.nodes.nodes).mono ?_
    rintro e w2 ⟨rfl, hb2⟩
    rw [HR.out]
    have d0 := cellK hb2 (by omega) c0
    have d1 := cellK hb2 (by omega) c1
    go_wp2_with fail
    go_ret
    exact ⟨ret_bool hr.out.symm, bs hb1 hb2⟩
  · have hr := Lib.hid (show okD l cs = false by unfold okD; rw [hR, decide_eq_false hll]; rfl)
    have h1 : ((l.length : Int) == (cs.length : Int)) = false := intNe (by omega)
    clear hR
    go_enter Tryz.func30, Tryz.ntmps30
    go_wp2_with fail
    refine (refRight_any l _ hD1.nodes.len hD1.nodes.fits _ hD1.nodes.nodes).mono ?_
    rintro e w2 ⟨rfl, hb2⟩
    rw [HR.out]
    have d0 := cellK hb2 (by omega) c0
    have d1 := cellK hb2 (by omega) c1
    go_wp2_with fail
    go_ret
    exact ⟨ret_bool hr.out.symm, bs hb1 hb2⟩
theorem doc2_of {W : World} {b : Nat} {T : TypeId} {u0 u1 : Value} (h : W.heap[b]? = some (.cells #[u0, u1] T (0, 0))) : W.cell? ⟨b, 0, none⟩ = some u0 ∧ W.cell? ⟨b, 1, none⟩ = some u1 ∧ W.frozen? ⟨b, 0, none⟩ = false ∧ W.frozen? ⟨b, 1, none⟩ = false := by
  refine ⟨?_, ?_, ?_, ?_⟩
  · simp only [World.cell?, h]; rfl
  · simp only [World.cell?, h]; rfl
  · simp [World.frozen?, h]
  · simp [World.frozen?, h]
theorem doc2_heap {W : World} {b : Nat} {T : TypeId} {u0 u1 : Value} (v0 v1 : Value) (h : W.heap[b]? = some (.cells #[u0, u1] T (0, 0))) : ((W.setCell ⟨b, 0, none⟩ v0).setCell ⟨b, 1, none⟩ v1).heap[b]? = some (.cells #[v0, v1] T (0, 0)) := by
  simp [World.setCell, Array.getElem?_modify, h]
theorem doc2_below (W : World) (b : Nat) (v0 v1 : Value) {base : Nat} (h : base ≤ b) : Below base W ((W.setCell ⟨b, 0, none⟩ v0).setCell ⟨b, 1, none⟩ v1) := ((Below.refl base W).setCell h _).setCell h _
theorem doc1_heap {W : World} {b : Nat} {T : TypeId} {u0 u1 : Value} (v0 : Value) (h : W.heap[b]? = some (.cells #[u0, u1] T (0, 0))) : (W.setCell ⟨b, 0, none⟩ v0).heap[b]? = some (.cells #[v0, u1] T (0, 0)) := by
  simp [World.setCell, Array.getElem?_modify, h]
theorem ON.set {base : Nat} {L : List NdT} {v : Value} {w : World} {g : Nat} {cur : Array Value} {T : TypeId} (h : ON base L v w) (hg : w.heap[g]? = some (.cells cur T (0, 0))) (h1 : 54 ≠ T) (h2 : 117 ≠ T) (h3 : 3 ≠ T) (i : Nat) (u : Value) : ON base L v (w.setCell ⟨g, i, none⟩ u) :=
  ⟨own_set h.row hg h1, fun t ht => own_set (h.at' t ht) hg h2, fun t ht => own_set (h.ki' t ht) hg h3⟩
theorem OC.setT {base : Nat} {L : List CtT} {v : Value} {w : World} {g : Nat} {cur : Array Value} {T : TypeId} (h : OC base L v w) (hg : w.heap[g]? = some (.cells cur T (0, 0))) (hb : base ≤ g) (h1 : 104 ≠ T) (h2 : 73 ≠ T) (i : Nat) (u : Value) : OC base L v (w.setCell ⟨g, i, none⟩ u) :=
  ⟨own_set h.row hg h1, fun t ht => (h.fil t ht).setT h2 hg hb⟩
end Go.Proofs.YtafbghlldlconaaGreatDoor
