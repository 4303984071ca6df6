/-
  FORMS' ELEMENTS, LABELS' CONTROLS, WHAT IS DISABLED: plain laws.
-/
import Derived.Test.YtenicjebccdekaaRefForm
namespace Go.Proofs.Ytenicjebccdekaa
set_option linter.unusedVariables false
set_option linter.unusedSimpArgs false
open Go.RowKit PT

theorem topF_all {l : List Nd} (h : RightP l) : ∀ (n : Nat) (k : Int), dep l k ≤ n → 0 ≤ k → k < l.length → 0 ≤ topF l k ∧ topF l k < l.length ∧ paOf l (topF l k) < 0 ∧ Anc l k (topF l k)
  | 0, k, hn, h0, h1 => by have := dep_eq h h0 h1; omega
  | n + 1, k, hn, h0, h1 => by
    by_cases hp : paOf l k < 0
    · rw [topF_end h h0 h1 hp]
      exact ⟨h0, h1, hp, Anc.self h h0 h1⟩
    · have hd := dep_eq h h0 h1
      rw [topF_go h h0 h1 (by omega)]
      obtain ⟨a, b, c, d⟩ := topF_all h n (paOf l k) (by omega) (by omega) (h.pa_lt h0 h1)
      refine ⟨a, b, c, ?_⟩
      by_cases e : k = topF l (paOf l k)
      · rw [← e] at c; omega
      · exact (Anc.step h h0 h1 e).2 d
theorem topF_range {l : List Nd} (h : RightP l) {k : Int} (h0 : 0 ≤ k) (h1 : k < l.length) : 0 ≤ topF l k ∧ topF l k < l.length := by
  obtain ⟨a, b, _⟩ := topF_all h _ k (Nat.le_refl _) h0 h1
  exact ⟨a, b⟩
theorem hasB_yes {l : List Nd} (h : RightP l) {k : Int} (h0 : 0 ≤ k) (h1 : k < l.length) : hasB l k = true := (hasB_iff l k).2 ⟨h0, h1, h⟩
theorem kindF_in {l : List Nd} {k : Int} (h0 : 0 ≤ k) (h1 : k < l.length) : kindF l k = kOf l k := if_pos ⟨h0, h1⟩
theorem kindF_pos {l : List Nd} {k : Int} (h : kindF l k ≠ 0) : 0 ≤ k ∧ k < l.length := by
  unfold kindF at h
  split at h
  · assumption
  · exact absurd rfl h
/-- all nodes in the order of a form's document -/
noncomputable def inF (l : List Nd) (id : Int) : List Int := if rightB l = true ∧ kindF l id = 30 then ord l (topF l id) else []
noncomputable def elP (l : List Nd) (id : Int) (k : Int) : Bool := listB (kindF l k) && decide (formF l k = id)
noncomputable def elemsF (l : List Nd) (id : Int) : List Int := (inF l id).filter (elP l id)
noncomputable def defP (l : List Nd) (id : Int) (k : Int) : Bool := firesB (kindF l k) && decide (formF l k = id)
noncomputable def defF (l : List Nd) (id : Int) : Int := firstF (defP l id) (inF l id)
noncomputable def ctlF (l : List Nd) (id : Int) : Int := if rightB l = true ∧ kindF l id = 31 then (match attF l id ⟨#[102, 111, 114]⟩ with
  | some s => if labelB (kindF l (namedF l s)) = true then namedF l s else -1
  | none => firstF (fun k => labelB (kindF l k)) (ord l id).tail) else -1
/-- a fieldset's first legend -/
def legF (l : List Nd) (id : Int) : Int := firstF (fun k => decide (kindF l k = 34)) (ksOf l id)
def disA (l : List Nd) (i : Int) : Bool := (atO (atsOf l i) ⟨#[100, 105, 115, 97, 98, 108, 101, 100]⟩).isSome
/-- is what lies above a node a fieldset that disables it? -/
def setP (l : List Nd) (c : Int) : Bool := decide (0 ≤ paOf l c) && (decide (kindF l (paOf l c) = 29) && (disA l (paOf l c) && decide (legF l (paOf l c) ≠ c)))
def upDis (l : List Nd) (k : Int) : Bool := cl l (fun c => if setP l c = true then some true else none) false k
noncomputable def disF (l : List Nd) (id : Int) : Bool := (rightB l && (submB (kindF l id) || decide (kindF l id = 29))) && (disA l id || upDis l id)
theorem inF_mem {l : List Nd} {id : Int} {k : Int} (h : k ∈ inF l id) : RightP l ∧ 0 ≤ id ∧ id < l.length ∧ 0 ≤ k ∧ k < l.length ∧ Anc l k (topF l id) := by
  unfold inF at h
  split at h
  · rename_i hc
    have hRP := (rightB_iff l).1 hc.1
    obtain ⟨i0, i1⟩ := kindF_pos (l := l) (k := id) (by omega)
    obtain ⟨t0, t1⟩ := topF_range hRP i0 i1
    obtain ⟨a, b, c⟩ := ord_mem hRP t0 t1 h
    exact ⟨hRP, i0, i1, a, b, c⟩
  · cases h
theorem inF_len {l : List Nd} (id : Int) : (inF l id).length ≤ l.length := by
  unfold inF
  split
  · rename_i hc
    have hRP := (rightB_iff l).1 hc.1
    obtain ⟨i0, i1⟩ := kindF_pos (l := l) (k := id) (by omega)
    obtain ⟨t0, t1⟩ := topF_range hRP i0 i1
    exact ord_len hRP t0 t1
  · simp
theorem filter_snoc {p : Int → Bool} {t : List Int} {k : Nat} (h : k < t.length) : (t.take (k + 1)).filter p = (t.take k).filter p ++ if p t[k] = true then [t[k]] else [] := by
  rw [List.take_succ_eq_append_getElem h, List.filter_append]
  congr 1
  by_cases hp : p t[k] = true
  · rw [if_pos hp]; simp [hp]
  · rw [if_neg hp]; simp [hp]
theorem formF_Form {l : List Nd} (h : rightB l = true) (k : Int) : FormF l k = formF l k := if_pos h
theorem isF_30 {l : List Nd} {id k : Int} (hk : k ≠ 0) : isF l id k = true ↔ rightB l = true ∧ kindF l id = k := by
  unfold isF
  rw [Bool.and_eq_true, decide_eq_true_iff, hasB_iff, rightB_iff]
  constructor
  · rintro ⟨⟨a, b, c⟩, d⟩
    exact ⟨c, by rw [kindF_in a b]; exact d⟩
  · rintro ⟨c, d⟩
    obtain ⟨a, b⟩ := kindF_pos (l := l) (k := id) (by omega)
    exact ⟨⟨a, b, c⟩, by rw [← kindF_in a b]; exact d⟩
theorem RightP.kid_of {l : List Nd} (h : RightP l) {c : Int} (h0 : 0 ≤ c) (h1 : c < l.length) (hp : 0 ≤ paOf l c) : c ∈ ksOf l (paOf l c) := by
  obtain ⟨q, rfl⟩ := Int.eq_ofNat_of_zero_le h0
  have hq : q < l.length := by omega
  rw [paOf_at hq] at hp ⊢
  have := h.once q _ (List.getElem?_eq_getElem hq) hp
  exact List.count_pos_iff.1 (by omega)
theorem ord_trans {l : List Nd} (h : RightP l) {m c : Int} (hc : c ∈ ksOf l m) : ∀ (n : Nat) (k : Int), l.length + 2 ≤ n + dep l k → 0 ≤ k → k < l.length → m ∈ ord l k → c ∈ ord l k := by
  intro n
  induction n with
  | zero => intro k hd; have := dep_le l k; omega
  | succ n ih =>
    intro k hd h0 h1 hm
    rw [ord_eq h h0 h1] at hm ⊢
    rcases List.mem_cons.1 hm with e | hm
    · subst e
      refine List.mem_cons_of_mem _ (List.mem_flatMap.2 ⟨c, hc, ?_⟩)
      obtain ⟨c0, c1, _⟩ := h.kid h0 h1 hc
      rw [ord_eq h c0 c1]
      exact List.mem_cons_self ..
    · obtain ⟨q, hq, hmq⟩ := List.mem_flatMap.1 hm
      obtain ⟨q0, q1, _⟩ := h.kid h0 h1 hq
      exact List.mem_cons_of_mem _ (List.mem_flatMap.2 ⟨q, hq, ih q (by rw [dep_kid h h0 h1 hq]; omega) q0 q1 hmq⟩)
/-- completeness of the order -/
theorem ord_full {l : List Nd} (h : RightP l) {k : Int} : ∀ (n : Nat) (c : Int), dep l c ≤ n → 0 ≤ c → c < l.length → Anc l c k → c ∈ ord l k ∧ 0 ≤ k ∧ k < l.length := by
  intro n
  induction n with
  | zero => intro c hd h0 h1 _; have := dep_eq h h0 h1; omega
  | succ n ih =>
    intro c hd h0 h1 ha
    by_cases e : c = k
    · subst e
      exact ⟨by rw [ord_eq h h0 h1]; exact List.mem_cons_self .., h0, h1⟩
    · have ha' := (Anc.step h h0 h1 e).1 ha
      have p0 := ha'.nonneg
      have hde := dep_eq h h0 h1
      obtain ⟨hm, k0, k1⟩ := ih (paOf l c) (by omega) p0 (h.pa_lt h0 h1) ha'
      refine ⟨?_, k0, k1⟩
      exact ord_trans h (h.kid_of h0 h1 p0) (l.length + 2) k (by omega) k0 k1 hm
end Go.Proofs.Ytenicjebccdekaa
