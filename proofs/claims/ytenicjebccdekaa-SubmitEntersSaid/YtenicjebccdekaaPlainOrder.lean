/-
  THE ORDER OF A RIGHT DOCUMENT: plain laws.
-/
import Derived.Test.YtenicjebccdekaaPlainClimb
namespace Go.Proofs.Ytenicjebccdekaa
set_option linter.unusedVariables false
set_option linter.unusedSimpArgs false
open Go.RowKit PT

def ordF (l : List Nd) : Nat → Int → List Int
  | 0, _ => []
  | n + 1, i => i :: (ksOf l i).flatMap (ordF l n)
/-- a node, and what is within it, in order -/
def ord (l : List Nd) (i : Int) : List Int := ordF l (l.length + 2) i
theorem depF_le (l : List Nd) : ∀ (n : Nat) (k : Int), depF l n k ≤ n
  | 0, _ => Nat.le_refl _
  | n + 1, k => by
    show (if k < 0 then 0 else depF l n (paOf l k) + 1) ≤ n + 1
    have := depF_le l n (paOf l k)
    split <;> omega
theorem dep_le (l : List Nd) (k : Int) : dep l k ≤ l.length + 1 := depF_le l _ k
theorem dep_eq {l : List Nd} (h : RightP l) {k : Int} (h0 : 0 ≤ k) (h1 : k < l.length) : dep l k = dep l (paOf l k) + 1 := by
  have hs := depF_stab l l.length (paOf l k) (h.out h0 h1)
  show (if k < 0 then 0 else depF l l.length (paOf l k) + 1) = depF l (l.length + 1) (paOf l k) + 1
  rw [if_neg (by omega), hs]
theorem RightP.kid {l : List Nd} (h : RightP l) {k : Int} (h0 : 0 ≤ k) (h1 : k < l.length) {c : Int} (hc : c ∈ ksOf l k) : 0 ≤ c ∧ c < l.length ∧ paOf l c = k := by
  obtain ⟨q, rfl⟩ := Int.eq_ofNat_of_zero_le h0
  have hq : q < l.length := by omega
  rw [ksOf_at hq] at hc
  exact h.kids q _ (List.getElem?_eq_getElem hq) c hc
theorem RightP.nodup {l : List Nd} (h : RightP l) {k : Int} (h0 : 0 ≤ k) (h1 : k < l.length) : (ksOf l k).Nodup := by
  obtain ⟨q, rfl⟩ := Int.eq_ofNat_of_zero_le h0
  have hq : q < l.length := by omega
  rw [ksOf_at hq, List.nodup_iff_count]
  intro c
  by_cases hm : c ∈ l[q].ks
  · obtain ⟨p, rfl⟩ := Int.eq_ofNat_of_zero_le (h.kids q _ (List.getElem?_eq_getElem hq) c hm).1
    exact ((once_iff l h.kids (fun i x hx => (h.node i x hx).2.2)).1 h.once).1 q _ (List.getElem?_eq_getElem hq) p
  · rw [List.count_eq_zero.2 hm]; omega
theorem dep_kid {l : List Nd} (h : RightP l) {k : Int} (h0 : 0 ≤ k) (h1 : k < l.length) {c : Int} (hc : c ∈ ksOf l k) : dep l c = dep l k + 1 := by
  obtain ⟨c0, c1, c2⟩ := h.kid h0 h1 hc
  rw [dep_eq h c0 c1, c2]
theorem flatMap_eq {α β : Type} {f g : α → List β} : ∀ {t : List α}, (∀ x ∈ t, f x = g x) → t.flatMap f = t.flatMap g
  | [], _ => rfl
  | x :: t, h => by
    rw [List.flatMap_cons, List.flatMap_cons, h x (List.mem_cons_self ..), flatMap_eq (fun y hy => h y (List.mem_cons_of_mem _ hy))]
theorem ordF_stab {l : List Nd} (h : RightP l) : ∀ (n : Nat) (k : Int), 0 ≤ k → k < l.length → l.length + 2 ≤ n + dep l k → ordF l (n + 1) k = ordF l n k
  | 0, k, _, _, hd => by have := dep_le l k; omega
  | n + 1, k, h0, h1, hd => by
    show k :: (ksOf l k).flatMap (ordF l (n + 1)) = k :: (ksOf l k).flatMap (ordF l n)
    rw [flatMap_eq (f := ordF l (n + 1)) (g := ordF l n) (fun c hc => by
      obtain ⟨c0, c1, c2⟩ := h.kid h0 h1 hc
      exact ordF_stab h n c c0 c1 (by rw [dep_kid h h0 h1 hc]; omega))]
theorem ord_eq {l : List Nd} (h : RightP l) {k : Int} (h0 : 0 ≤ k) (h1 : k < l.length) : ord l k = k :: (ksOf l k).flatMap (ord l) := by
  show k :: (ksOf l k).flatMap (ordF l (l.length + 1)) = k :: (ksOf l k).flatMap (ordF l (l.length + 2))
  rw [flatMap_eq (f := ordF l (l.length + 2)) (g := ordF l (l.length + 1)) (fun c hc => by
    obtain ⟨c0, c1, c2⟩ := h.kid h0 h1 hc
    have := dep_eq h h0 h1
    exact ordF_stab h _ c c0 c1 (by rw [dep_kid h h0 h1 hc]; omega))]

/-- is c the node k, or within it? -/
def Anc (l : List Nd) (c k : Int) : Prop := withinF l k c = true
theorem Anc.self {l : List Nd} (h : RightP l) {k : Int} (h0 : 0 ≤ k) (h1 : k < l.length) : Anc l k k := withinF_hit h h0 h1 rfl
theorem Anc.nonneg {l : List Nd} {c k : Int} (ha : Anc l c k) : 0 ≤ c := by
  by_cases h : 0 ≤ c
  · exact h
  · have := withinF_neg l k (show c < 0 by omega)
    rw [Anc, this] at ha
    cases ha
theorem Anc.step {l : List Nd} (h : RightP l) {c k : Int} (h0 : 0 ≤ c) (h1 : c < l.length) (hne : c ≠ k) : Anc l c k ↔ Anc l (paOf l c) k := by
  unfold Anc; rw [withinF_go h h0 h1 hne]
theorem RightP.pa_lt {l : List Nd} (h : RightP l) {c : Int} (h0 : 0 ≤ c) (h1 : c < l.length) : paOf l c < l.length := by
  obtain ⟨q, rfl⟩ := Int.eq_ofNat_of_zero_le h0
  have hq : q < l.length := by omega
  rw [paOf_at hq]
  exact (h.node q _ (List.getElem?_eq_getElem hq)).2.2
theorem RightP.pa_ge {l : List Nd} (h : RightP l) {c : Int} (h0 : 0 ≤ c) (h1 : c < l.length) : -1 ≤ paOf l c := by
  obtain ⟨q, rfl⟩ := Int.eq_ofNat_of_zero_le h0
  have hq : q < l.length := by omega
  rw [paOf_at hq]
  exact (h.node q _ (List.getElem?_eq_getElem hq)).2.1
theorem Anc.dep {l : List Nd} (h : RightP l) {k : Int} : ∀ (n : Nat) (c : Int), dep l c = n → c < l.length → Anc l c k → c = k ∨ dep l k < dep l c := by
  intro n
  induction n with
  | zero => intro c hd h1 ha; have := dep_eq h ha.nonneg h1; omega
  | succ n ih =>
    intro c hd h1 ha
    by_cases e : c = k
    · exact .inl e
    · have h0 := ha.nonneg
      have ha' := (Anc.step h h0 h1 e).1 ha
      have hde := dep_eq h h0 h1
      rcases ih (paOf l c) (by omega) (h.pa_lt h0 h1) ha' with e2 | h2
      · right; rw [← e2]; omega
      · right; omega
theorem Anc.uniq {l : List Nd} (h : RightP l) {k1 k2 : Int} (hk : Go.Proofs.Ytenicjebccdekaa.dep l k1 = Go.Proofs.Ytenicjebccdekaa.dep l k2) : ∀ (n : Nat) (c : Int), Go.Proofs.Ytenicjebccdekaa.dep l c = n → c < l.length → Anc l c k1 → Anc l c k2 → k1 = k2 := by
  intro n
  induction n with
  | zero => intro c hd h1 ha _; have := dep_eq h ha.nonneg h1; omega
  | succ n ih =>
    intro c hd h1 a1 a2
    by_cases e1 : c = k1
    · rcases Anc.dep h _ c rfl h1 a2 with e | e
      · rw [← e1, e]
      · rw [e1] at e; omega
    by_cases e2 : c = k2
    · rcases Anc.dep h _ c rfl h1 a1 with e | e
      · exact absurd e e1
      · rw [e2] at e; omega
    have h0 := a1.nonneg
    have := dep_eq h h0 h1
    exact ih (paOf l c) (by omega) (h.pa_lt h0 h1) ((Anc.step h h0 h1 e1).1 a1) ((Anc.step h h0 h1 e2).1 a2)
theorem Anc.up {l : List Nd} (h : RightP l) {k m : Int} (h0 : 0 ≤ k) (h1 : k < l.length) (hm : paOf l m = k) : ∀ (n : Nat) (c : Int), Go.Proofs.Ytenicjebccdekaa.dep l c = n → c < l.length → Anc l c m → Anc l c k := by
  intro n
  induction n with
  | zero => intro c hd hc ha; have := dep_eq h ha.nonneg hc; omega
  | succ n ih =>
    intro c hd hc ha
    have c0 := ha.nonneg
    have hde := dep_eq h c0 hc
    by_cases ek : c = k
    · rw [ek]; exact Anc.self h h0 h1
    rw [Anc.step h c0 hc ek]
    by_cases em : c = m
    · rw [em, hm]; exact Anc.self h h0 h1
    · exact ih (paOf l c) (by omega) (h.pa_lt c0 hc) ((Anc.step h c0 hc em).1 ha)
/-- what is in the order -/
theorem mem_ordF {l : List Nd} (h : RightP l) : ∀ (n : Nat) (k : Int), 0 ≤ k → k < l.length → ∀ c ∈ ordF l n k, 0 ≤ c ∧ c < l.length ∧ Anc l c k
  | 0, _, _, _, c, hc => by cases hc
  | n + 1, k, h0, h1, c, hc => by
    rcases List.mem_cons.1 hc with rfl | hm
    · exact ⟨h0, h1, Anc.self h h0 h1⟩
    · obtain ⟨m, hmk, hcm⟩ := List.mem_flatMap.1 hm
      obtain ⟨m0, m1, m2⟩ := h.kid h0 h1 hmk
      obtain ⟨c0, c1, c2⟩ := mem_ordF h n m m0 m1 c hcm
      exact ⟨c0, c1, Anc.up h h0 h1 m2 _ c rfl c1 c2⟩
theorem nodup_flat {α β : Type} {f : α → List β} : ∀ {t : List α}, t.Nodup → (∀ x ∈ t, (f x).Nodup) → (∀ x ∈ t, ∀ y ∈ t, x ≠ y → ∀ b ∈ f x, b ∉ f y) → (t.flatMap f).Nodup
  | [], _, _, _ => List.nodup_nil
  | x :: t, hn, h1, h2 => by
    rw [List.flatMap_cons, List.nodup_append]
    obtain ⟨hx, ht⟩ := List.nodup_cons.1 hn
    refine ⟨h1 x (List.mem_cons_self ..), nodup_flat ht (fun y hy => h1 y (List.mem_cons_of_mem _ hy)) (fun y hy z hz => h2 y (List.mem_cons_of_mem _ hy) z (List.mem_cons_of_mem _ hz)), fun a ha b hb e => ?_⟩
    subst e
    obtain ⟨y, hy, hb⟩ := List.mem_flatMap.1 hb
    exact h2 x (List.mem_cons_self ..) y (List.mem_cons_of_mem _ hy) (fun e => hx (e ▸ hy)) a ha hb
theorem nodup_ordF {l : List Nd} (h : RightP l) : ∀ (n : Nat) (k : Int), 0 ≤ k → k < l.length → (ordF l n k).Nodup
  | 0, _, _, _ => List.nodup_nil
  | n + 1, k, h0, h1 => by
    show (k :: (ksOf l k).flatMap (ordF l n)).Nodup
    rw [List.nodup_cons]
    constructor
    · intro hm
      obtain ⟨m, hmk, hcm⟩ := List.mem_flatMap.1 hm
      obtain ⟨m0, m1, m2⟩ := h.kid h0 h1 hmk
      obtain ⟨_, _, c2⟩ := mem_ordF h n m m0 m1 k hcm
      have := dep_kid h h0 h1 hmk
      rcases Anc.dep h _ k rfl h1 c2 with e | e
      · rw [← e] at this; omega
      · omega
    · refine nodup_flat (h.nodup h0 h1) (fun m hm => ?_) (fun m hm m' hm' hne b hb hb' => ?_)
      · obtain ⟨m0, m1, _⟩ := h.kid h0 h1 hm
        exact nodup_ordF h n m m0 m1
      · obtain ⟨m0, m1, _⟩ := h.kid h0 h1 hm
        obtain ⟨n0, n1, _⟩ := h.kid h0 h1 hm'
        obtain ⟨_, b1, b2⟩ := mem_ordF h n m m0 m1 b hb
        obtain ⟨_, _, b3⟩ := mem_ordF h n m' n0 n1 b hb'
        exact hne (Anc.uniq h (by rw [dep_kid h h0 h1 hm, dep_kid h h0 h1 hm']) _ b rfl b1 b2 b3)
theorem S_ones : ∀ n, S n (fun _ => 1) = n
  | 0 => rfl
  | n + 1 => by show S n (fun _ => 1) + 1 = n + 1; rw [S_ones n]
theorem nodup_len {n : Nat} {t : List Int} (hn : t.Nodup) (h : ∀ c ∈ t, 0 ≤ c ∧ c < (n : Int)) : t.length ≤ n := by
  rw [len_S n t h]
  refine Nat.le_trans (S_le (g := fun _ => 1) fun i _ => ?_) (by rw [S_ones]; exact Nat.le_refl _)
  exact List.nodup_iff_count.1 hn _
theorem ord_len {l : List Nd} (h : RightP l) {k : Int} (h0 : 0 ≤ k) (h1 : k < l.length) : (ord l k).length ≤ l.length :=
  nodup_len (nodup_ordF h _ k h0 h1) (fun c hc => ⟨(mem_ordF h _ k h0 h1 c hc).1, (mem_ordF h _ k h0 h1 c hc).2.1⟩)
theorem ord_mem {l : List Nd} (h : RightP l) {k : Int} (h0 : 0 ≤ k) (h1 : k < l.length) {c : Int} (hc : c ∈ ord l k) : 0 ≤ c ∧ c < l.length ∧ Anc l c k := mem_ordF h _ k h0 h1 c hc
end Go.Proofs.Ytenicjebccdekaa
