/-
  RIGHT DOCUMENTS: plain laws.
-/
import Derived.Test.YtenicjebccdekaaOne
namespace Go.Proofs.Ytenicjebccdekaa
set_option linter.unusedVariables false
set_option linter.unusedSimpArgs false
open Go.RowKit PT

/-- a node's parent -/
def paOf (l : List Nd) (i : Int) : Int := match l[i.toNat]? with
  | some x => x.pa
  | none => -1
/-- its children -/
def ksOf (l : List Nd) (i : Int) : List Int := match l[i.toNat]? with
  | some x => x.ks
  | none => []
/-- so many steps upward; below 0 one stays -/
def upN (l : List Nd) : Nat → Int → Int
  | 0, i => i
  | n + 1, i => if i < 0 then i else upN l n (paOf l i)
theorem upN_neg (l : List Nd) {i : Int} (h : i < 0) : ∀ n, upN l n i = i
  | 0 => rfl
  | n + 1 => if_pos h
theorem upN_step (l : List Nd) {i : Int} (h : 0 ≤ i) (n : Nat) : upN l (n + 1) i = upN l n (paOf l i) := if_neg (by omega)
theorem paOf_at {l : List Nd} {k : Nat} (hk : k < l.length) : paOf l k = l[k].pa := by
  unfold paOf; rw [Int.toNat_natCast, List.getElem?_eq_getElem hk]
theorem ksOf_at {l : List Nd} {k : Nat} (hk : k < l.length) : ksOf l k = l[k].ks := by
  unfold ksOf; rw [Int.toNat_natCast, List.getElem?_eq_getElem hk]
/-- a right document -/
structure RightP (l : List Nd) : Prop where
  pos : 0 < l.length
  max : l.length ≤ 400
  top : ∀ x, l[0]? = some x → x.nm.size ≠ 0 ∧ x.pa = -1
  node : ∀ (i : Nat) x, l[i]? = some x → oneB x = true ∧ -1 ≤ x.pa ∧ x.pa < l.length
  kids : ∀ (i : Nat) x, l[i]? = some x → ∀ c ∈ x.ks, 0 ≤ c ∧ c < l.length ∧ paOf l c = i
  once : ∀ (i : Nat) x, l[i]? = some x → 0 ≤ x.pa → (ksOf l x.pa).count (i : Int) = 1
  climb : ∀ i : Nat, i < l.length → upN l (l.length + 1) i < 0
noncomputable def rightB (l : List Nd) : Bool := @decide (RightP l) (Classical.propDecidable _)
theorem rightB_iff (l : List Nd) : rightB l = true ↔ RightP l := by
  unfold rightB
  exact @decide_eq_true_iff (RightP l) (Classical.propDecidable _)
theorem rightB_yes {l : List Nd} (h : RightP l) : rightB l = true := (rightB_iff l).2 h
theorem rightB_no {l : List Nd} (h : ¬ RightP l) : rightB l = false := by
  cases e : rightB l
  · rfl
  · exact absurd ((rightB_iff l).1 e) h

/-! sums -/
def S : Nat → (Nat → Nat) → Nat
  | 0, _ => 0
  | n + 1, f => S n f + f n
theorem S_congr {f g : Nat → Nat} : ∀ {n : Nat}, (∀ i, i < n → f i = g i) → S n f = S n g
  | 0, _ => rfl
  | n + 1, h => by
    show S n f + f n = S n g + g n
    rw [S_congr (fun i hi => h i (by omega)), h n (by omega)]
theorem S_add (f g : Nat → Nat) : ∀ n, S n (fun i => f i + g i) = S n f + S n g
  | 0 => rfl
  | n + 1 => by
    show S n (fun i => f i + g i) + (f n + g n) = (S n f + f n) + (S n g + g n)
    rw [S_add f g n]; omega
theorem S_zero : ∀ n, S n (fun _ => 0) = 0
  | 0 => rfl
  | n + 1 => S_zero n
theorem S_swap (f : Nat → Nat → Nat) : ∀ n m, S n (fun i => S m (f i)) = S m (fun j => S n (fun i => f i j))
  | 0, m => (S_zero m).symm
  | n + 1, m => by
    show S n (fun i => S m (f i)) + S m (f n) = S m (fun j => S n (fun i => f i j) + f n j)
    rw [S_swap f n m, S_add]
theorem S_le {f g : Nat → Nat} : ∀ {n : Nat}, (∀ i, i < n → f i ≤ g i) → S n f ≤ S n g
  | 0, _ => Nat.le_refl _
  | n + 1, h => by
    have := S_le (f := f) (g := g) (n := n) (fun i hi => h i (by omega))
    have := h n (by omega)
    show S n f + f n ≤ S n g + g n
    omega
theorem S_eq {f g : Nat → Nat} : ∀ {n : Nat}, (∀ i, i < n → f i ≤ g i) → S n f = S n g → ∀ i, i < n → f i = g i
  | 0, _, _, i, hi => by omega
  | n + 1, h, e, i, hi => by
    have h1 := S_le (f := f) (g := g) (n := n) (fun i hi => h i (by omega))
    have h2 := h n (by omega)
    have e' : S n f + f n = S n g + g n := e
    by_cases hn : i = n
    · subst hn; omega
    · exact S_eq (n := n) (fun i hi => h i (by omega)) (by omega) i (by omega)
theorem S_one (c : Int) : ∀ n : Nat, 0 ≤ c → S n (fun i => if (i : Int) = c then 1 else 0) = if c < (n : Int) then 1 else 0
  | 0, h => by rw [if_neg (by omega)]; rfl
  | n + 1, h => by
    show S n (fun i => if (i : Int) = c then 1 else 0) + (if (n : Int) = c then 1 else 0) = if c < ((n + 1 : Nat) : Int) then 1 else 0
    rw [S_one c n h]
    by_cases e : (n : Int) = c
    · rw [if_neg (by omega), if_pos e, if_pos (by omega)]
    · rw [if_neg e]
      by_cases e2 : c < (n : Int)
      · rw [if_pos e2, if_pos (by omega)]
      · rw [if_neg e2, if_neg (by omega)]
theorem len_S (n : Nat) : ∀ (ks : List Int), (∀ c ∈ ks, 0 ≤ c ∧ c < (n : Int)) → ks.length = S n (fun i => ks.count (i : Int))
  | [], _ => by
    show 0 = S n (fun _ => 0)
    rw [S_zero]
  | c :: t, h => by
    have hc := h c (List.mem_cons_self ..)
    rw [S_congr (g := fun i => t.count (i : Int) + (if (i : Int) = c then 1 else 0)) (fun i _ => by
      rw [List.count_cons]
      by_cases e : (i : Int) = c
      · simp [e]
      · rw [if_neg e, if_neg (by simpa using fun x => e x.symm)]), S_add, ← len_S n t (fun x hx => h x (List.mem_cons_of_mem _ hx)), S_one c n hc.1, if_pos hc.2]
    rfl
/-- so many nodes have a parent -/
def paS (l : List Nd) (n : Nat) : Nat := S n (fun i => if 0 ≤ paOf l i then 1 else 0)
/-- so many children do they have -/
def ksS (l : List Nd) (n : Nat) : Nat := S n (fun i => (ksOf l i).length)
/-- children of all nodes, told by their parents -/
theorem ksS_eq (l : List Nd) (hk : ∀ (i : Nat) x, l[i]? = some x → ∀ c ∈ x.ks, 0 ≤ c ∧ c < l.length ∧ paOf l c = i) (hp : ∀ (i : Nat) x, l[i]? = some x → x.pa < l.length) :
    ksS l l.length = S l.length (fun c => if 0 ≤ paOf l c then (ksOf l (paOf l c)).count (c : Int) else 0) := by
  unfold ksS
  rw [S_congr (g := fun i => S l.length (fun c => (ksOf l i).count (c : Int))) (fun i hi => by
    rw [ksOf_at hi]
    exact len_S _ _ (fun c hc => ⟨(hk i _ (List.getElem?_eq_getElem hi) c hc).1, (hk i _ (List.getElem?_eq_getElem hi) c hc).2.1⟩)), S_swap]
  refine S_congr fun c hc => ?_
  have hz : ∀ i, i < l.length → (i : Int) ≠ paOf l c → (ksOf l i).count (c : Int) = 0 := fun i hi hne => by
    rw [List.count_eq_zero, ksOf_at hi]
    exact fun hm => hne (hk i _ (List.getElem?_eq_getElem hi) c hm).2.2.symm
  by_cases h0 : 0 ≤ paOf l c
  · rw [if_pos h0]
    have hlt : paOf l c < l.length := by rw [paOf_at hc]; exact hp c _ (List.getElem?_eq_getElem hc)
    obtain ⟨p, hpp⟩ := Int.eq_ofNat_of_zero_le h0
    rw [S_congr (g := fun i => (if (i : Int) = paOf l c then 1 else 0) * (ksOf l (paOf l c)).count (c : Int)) (fun i hi => by
      by_cases e : (i : Int) = paOf l c
      · rw [if_pos e, e, Nat.one_mul]
      · rw [if_neg e, hz i hi e, Nat.zero_mul])]
    have hm : ∀ (k : Nat) (f : Nat → Nat) (n : Nat), S n (fun i => f i * k) = S n f * k := fun k f n => by
      induction n with
      | zero => show 0 = 0 * k; rw [Nat.zero_mul]
      | succ n ih =>
        show S n (fun i => f i * k) + f n * k = (S n f + f n) * k
        rw [ih, Nat.add_mul]
    rw [hm, S_one _ _ h0, if_pos hlt, Nat.one_mul]
  · rw [if_neg h0, S_congr (g := fun _ => 0) (fun i hi => hz i hi (by omega)), S_zero]
/-- the program's way: no child twice, and as many children as nodes with a parent -/
theorem once_iff (l : List Nd) (hk : ∀ (i : Nat) x, l[i]? = some x → ∀ c ∈ x.ks, 0 ≤ c ∧ c < l.length ∧ paOf l c = i) (hp : ∀ (i : Nat) x, l[i]? = some x → x.pa < l.length) :
    (∀ (i : Nat) x, l[i]? = some x → 0 ≤ x.pa → (ksOf l x.pa).count (i : Int) = 1) ↔ (∀ (i : Nat) x, l[i]? = some x → ∀ c : Nat, x.ks.count (c : Int) ≤ 1) ∧ paS l l.length = ksS l l.length := by
  rw [ksS_eq l hk hp]
  constructor
  · intro h
    constructor
    · intro i x hx c
      by_cases hm : (c : Int) ∈ x.ks
      · obtain ⟨h1, h2, h3⟩ := hk i x hx c hm
        have hc : c < l.length := by omega
        have hi : i < l.length := (List.getElem?_eq_some_iff.1 hx).1
        rw [paOf_at hc] at h3
        have := h c _ (List.getElem?_eq_getElem hc) (by omega)
        rw [h3] at this
        have hke : ksOf l i = x.ks := by unfold ksOf; rw [Int.toNat_natCast, hx]
        rw [hke] at this
        omega
      · rw [List.count_eq_zero.2 hm]; omega
    · refine S_congr fun c hc => ?_
      by_cases h0 : 0 ≤ paOf l c
      · rw [if_pos h0, if_pos h0, paOf_at hc]
        rw [paOf_at hc] at h0
        exact (h c _ (List.getElem?_eq_getElem hc) h0).symm
      · rw [if_neg h0, if_neg h0]
  · rintro ⟨h, he⟩ i x hx h0
    have hi : i < l.length := (List.getElem?_eq_some_iff.1 hx).1
    have hpa : paOf l i = x.pa := by unfold paOf; rw [Int.toNat_natCast, hx]
    have hle : ∀ c, c < l.length → (if 0 ≤ paOf l c then (ksOf l (paOf l c)).count (c : Int) else 0) ≤ if 0 ≤ paOf l c then 1 else 0 := fun c hc => by
      by_cases h1 : 0 ≤ paOf l c
      · rw [if_pos h1, if_pos h1]
        have hlt : paOf l c < l.length := by rw [paOf_at hc]; exact hp c _ (List.getElem?_eq_getElem hc)
        obtain ⟨p, hpp⟩ := Int.eq_ofNat_of_zero_le h1
        have hpl : p < l.length := by omega
        rw [hpp, ksOf_at hpl]
        exact h p _ (List.getElem?_eq_getElem hpl) c
      · rw [if_neg h1, if_neg h1]; omega
    have := S_eq hle he.symm i hi
    rw [if_pos (by omega), if_pos (by omega), hpa] at this
    exact this
end Go.Proofs.Ytenicjebccdekaa
