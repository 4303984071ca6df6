/-
  EACH CONTROL IS AN ELEMENT OF JUST ONE FORM: plain laws.
-/
import Derived.Test.YtenicjebccdekaaPlainOwn
namespace Go.Proofs.Ytenicjebccdekaa
set_option linter.unusedVariables false
set_option linter.unusedSimpArgs false
open Go.RowKit PT

theorem near_name {l : List Nd} (h : RightP l) (s : ByteArray) : ∀ (n : Nat) (k : Int), dep l k ≤ n → k < l.length → 0 ≤ nearF l s k → nmOf l (nearF l s k) = s ∧ nearF l s k < l.length
  | 0, k, hn, h1, hp => by
    have hk : k < 0 := by
      by_cases h0 : 0 ≤ k
      · have := dep_eq h h0 h1; omega
      · omega
    rw [nearF_neg l s hk] at hp
    omega
  | n + 1, k, hn, h1, hp => by
    by_cases h0 : 0 ≤ k
    · by_cases hm : nmOf l k = s
      · rw [nearF_hit h h0 h1 hm]
        exact ⟨hm, h1⟩
      · rw [nearF_go h h0 h1 hm] at hp ⊢
        have hd := dep_eq h h0 h1
        exact near_name h s n (paOf l k) (by omega) (h.pa_lt h0 h1) hp
    · rw [nearF_neg l s (by omega)] at hp
      omega
theorem up_kind {l : List Nd} (h : RightP l) {k : Int} (hp : 0 ≤ upB l k ⟨#[102, 111, 114, 109]⟩) : kindF l (upB l k ⟨#[102, 111, 114, 109]⟩) = 30 := by
  unfold upB at hp ⊢
  split
  · rename_i hh
    rw [if_pos hh] at hp
    obtain ⟨h0, h1, _⟩ := (hasB_iff l k).1 hh
    obtain ⟨hn, hl⟩ := near_name h ⟨#[102, 111, 114, 109]⟩ _ (paOf l k) (Nat.le_refl _) (h.pa_lt h0 h1) hp
    exact (kindF_form hp hl).2 hn
  · rename_i hh
    rw [if_neg hh] at hp
    omega
theorem form_kind {l : List Nd} (h : RightP l) {k : Int} (hp : 0 ≤ formF l k) : kindF l (formF l k) = 30 := by
  unfold formF at hp ⊢
  split
  · rename_i hc
    rw [if_pos hc] at hp
    omega
  · rename_i hc
    rw [if_neg hc] at hp
    cases ha : attF l k ⟨#[102, 111, 114, 109]⟩ with
    | none =>
      rw [ha] at hp
      exact up_kind h hp
    | some s =>
      rw [ha] at hp
      have hp' : 0 ≤ (if topB l k = 0 then (if kindF l (namedF l s) = 30 then namedF l s else -1) else upB l k ⟨#[102, 111, 114, 109]⟩) := hp
      show kindF l (if topB l k = 0 then (if kindF l (namedF l s) = 30 then namedF l s else -1) else upB l k ⟨#[102, 111, 114, 109]⟩) = 30
      by_cases ht : topB l k = 0
      · rw [if_pos ht] at hp' ⊢
        by_cases hk : kindF l (namedF l s) = 30
        · rw [if_pos hk]; exact hk
        · rw [if_neg hk] at hp'; omega
      · rw [if_neg ht] at hp' ⊢
        exact up_kind h hp'
theorem root_uniq {l : List Nd} (h : RightP l) {k t : Int} (k1 : k < l.length) (t1 : t < l.length) (ht : paOf l t < 0) (ha : Anc l k t) (h0 : 0 ≤ k) (t0 : 0 ≤ t) : topF l k = t := by
  obtain ⟨a, b, c, d⟩ := topF_all h _ k (Nat.le_refl _) h0 k1
  have e1 : dep l (topF l k) = 1 := by
    rw [dep_eq h a b]
    have : dep l (paOf l (topF l k)) = 0 := depF_neg l c _
    omega
  have e2 : dep l t = 1 := by
    rw [dep_eq h t0 t1]
    have : dep l (paOf l t) = 0 := depF_neg l ht _
    omega
  exact Anc.uniq h (by rw [e1, e2]) _ k rfl k1 d ha
theorem ord_top {l : List Nd} (h : RightP l) {k f : Int} (k0 : 0 ≤ k) (k1 : k < l.length) (f0 : 0 ≤ f) (f1 : f < l.length) : k ∈ ord l (topF l f) ↔ topF l k = topF l f := by
  obtain ⟨a, b, c, d⟩ := topF_all h _ f (Nat.le_refl _) f0 f1
  constructor
  · intro hm
    obtain ⟨_, _, ha⟩ := ord_mem h a b hm
    exact root_uniq h k1 b c ha k0 a
  · intro e
    obtain ⟨a', b', c', d'⟩ := topF_all h _ k (Nat.le_refl _) k0 k1
    rw [e] at d'
    exact (ord_full h _ k (Nat.le_refl _) k0 k1 d').1
theorem S_single (n f v : Nat) (hf : f < n) : S n (fun j => if j = f then v else 0) = v := by
  induction n with
  | zero => omega
  | succ n ih =>
    show S n (fun j => if j = f then v else 0) + (if n = f then v else 0) = v
    by_cases e : n = f
    · subst e
      rw [if_pos rfl, S_congr (g := fun _ => 0) (fun i hi => if_neg (by omega)), S_zero]
      omega
    · rw [ih (by omega), if_neg e]
      omega
theorem S_bound {f : Nat → Nat} {m : Nat} : ∀ n, (∀ j, j < n → f j ≤ m) → S n f ≤ n * m
  | 0, _ => by rw [Nat.zero_mul]; exact Nat.le_refl _
  | n + 1, h => by
    have := S_bound n (fun j hj => h j (by omega))
    have h2 := h n (by omega)
    show S n f + f n ≤ (n + 1) * m
    rw [Nat.add_mul]; omega
/-- how often a node stands among the elements of so many nodes -/
noncomputable def cnt (l : List Nd) (i k : Nat) : Nat := S i (fun j => (elemsF l (j : Nat)).count (k : Int))
noncomputable def wantP (l : List Nd) (k : Nat) : Bool := decide (0 ≤ formF l (k : Nat)) && (listB (kOf l (k : Nat)) && decide (topF l (k : Nat) = topF l (formF l (k : Nat))))
theorem elems_mem {l : List Nd} {j : Int} {k : Int} : k ∈ elemsF l j ↔ k ∈ inF l j ∧ listB (kindF l k) = true ∧ formF l k = j := by
  unfold elemsF elP
  rw [List.mem_filter, Bool.and_eq_true, decide_eq_true_iff]
theorem inF_nodup {l : List Nd} (h : RightP l) (j : Int) : (inF l j).Nodup := by
  unfold inF
  split
  · rename_i hc
    obtain ⟨i0, i1⟩ := kindF_pos (l := l) (k := j) (by omega)
    obtain ⟨t0, t1⟩ := topF_range h i0 i1
    exact nodup_ordF h _ _ t0 t1
  · exact List.nodup_nil
theorem elems_count {l : List Nd} (h : RightP l) (j k : Int) : (elemsF l j).count k = if k ∈ elemsF l j then 1 else 0 := by
  have hn : (elemsF l j).Nodup := (inF_nodup h j).filter _
  have h1 := List.nodup_iff_count.1 hn k
  split
  · rename_i hm
    have := List.count_pos_iff.2 hm
    omega
  · rename_i hm
    exact List.count_eq_zero.2 hm
theorem cnt_one {l : List Nd} (h : RightP l) {k : Nat} (hk : k < l.length) : cnt l l.length k = if wantP l k = true then 1 else 0 := by
  have k0 : (0 : Int) ≤ (k : Int) := by omega
  have k1 : (k : Int) < l.length := by omega
  unfold cnt
  by_cases hf : 0 ≤ formF l (k : Nat)
  · have hkf := form_kind h hf
    obtain ⟨_, f1⟩ := kindF_pos (l := l) (k := formF l (k : Nat)) (by omega)
    obtain ⟨f, hfe⟩ := Int.eq_ofNat_of_zero_le hf
    have hfl : f < l.length := by omega
    rw [S_congr (g := fun j => if j = f then (if wantP l k = true then 1 else 0) else 0) (fun j hj => ?_), S_single _ _ _ hfl]
    rw [elems_count h]
    by_cases e : j = f
    · subst e
      rw [if_pos rfl]
      have : (k : Int) ∈ elemsF l (j : Nat) ↔ wantP l k = true := by
        rw [elems_mem]
        unfold wantP inF
        rw [if_pos ⟨rightB_yes h, by rw [← hfe]; exact hkf⟩, ord_top h k0 k1 (by omega) (by omega)]
        simp only [Bool.and_eq_true, decide_eq_true_iff]
        rw [kindF_in k0 k1, hfe]
        constructor
        · rintro ⟨a, b, c⟩
          exact ⟨by omega, b, a⟩
        · rintro ⟨a, b, c⟩
          exact ⟨c, b, rfl⟩
      by_cases hw : wantP l k = true
      · rw [if_pos (this.2 hw), if_pos hw]
      · rw [if_neg (fun e => hw (this.1 e)), if_neg hw]
    · rw [if_neg e, if_neg]
      intro hm
      have := (elems_mem.1 hm).2.2
      rw [hfe] at this
      omega
  · have hw : wantP l k = false := by unfold wantP; rw [decide_eq_false hf]; rfl
    rw [hw, S_congr (g := fun _ => 0) (fun j hj => ?_), S_zero]
    · rfl
    · rw [elems_count h, if_neg]
      intro hm
      have := (elems_mem.1 hm).2.2
      omega
theorem elems_range {l : List Nd} {j k : Int} (hm : k ∈ elemsF l j) : 0 ≤ k ∧ k < l.length ∧ formF l k = j := by
  have h := elems_mem.1 hm
  obtain ⟨_, _, _, a, b, _⟩ := inF_mem h.1
  exact ⟨a, b, h.2.2⟩
theorem cnt_le {l : List Nd} (h : RightP l) {i : Nat} (hi : i ≤ l.length) (k : Nat) : cnt l i k ≤ 400 := by
  have h1 : cnt l i k ≤ i * 1 := S_bound i (fun j _ => by
    rw [elems_count h]
    split <;> omega)
  have := h.max
  omega
/-- a row of numbers -/
def rowN (n : Nat) (f : Nat → Nat) : Array Value := ((List.range n).map fun c => Value.int .i64 (f c : Nat)).toArray
theorem rowN_size (n : Nat) (f : Nat → Nat) : (rowN n f).size = n := by simp [rowN]
theorem rowN_get {n : Nat} (f : Nat → Nat) {q : Nat} (hq : q < n) : (rowN n f)[q]? = some (.int .i64 (f q : Nat)) := by simp [rowN, hq]
theorem rowN_made (n : Nat) : madeCells #[.int .i64 0] n = rowN n (fun _ => 0) := by
  apply Array.ext_getElem?
  intro j
  by_cases hj : j < n
  · simp [rowN, madeCells, hj, Nat.mod_one]
  · simp [rowN, madeCells, hj]
theorem rowN_set {n : Nat} (f : Nat → Nat) (q : Nat) (z : Nat) : (rowN n f).setIfInBounds q (.int .i64 (z : Nat)) = rowN n (fun c => if c = q then z else f c) := by
  apply Array.ext_getElem?
  intro j
  rw [Array.getElem?_setIfInBounds]
  by_cases hj : j < n
  · by_cases e : q = j
    · subst e; rw [if_pos rfl, rowN_size, if_pos hj, rowN_get _ hj, if_pos rfl]
    · rw [if_neg e, rowN_get _ hj, rowN_get _ hj, if_neg (fun h => e h.symm)]
  · rw [Array.getElem?_eq_none (by rw [rowN_size]; omega), Array.getElem?_eq_none (xs := rowN n _) (by rw [rowN_size]; omega)]
    rw [rowN_size]
    by_cases e : q = j
    · rw [if_pos e, if_neg (by omega)]
    · rw [if_neg e]
theorem rowN_congr {n : Nat} {f g : Nat → Nat} (h : ∀ c, c < n → f c = g c) : rowN n f = rowN n g := by
  unfold rowN
  congr 1
  exact List.map_congr_left fun c hc => by rw [h c (List.mem_range.1 hc)]
end Go.Proofs.Ytenicjebccdekaa
