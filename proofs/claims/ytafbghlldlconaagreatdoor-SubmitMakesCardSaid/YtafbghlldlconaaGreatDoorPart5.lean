import Derived.Test.YtafbghlldlconaaGreatDoorPart3
import Derived.Test.YtafbghlldlconaaGreatDoorPart4
import Derived.Deep.OwnRows
/-
  GOING UP IN A RIGHT DOCUMENT: plain laws.
-/
namespace Go.Proofs.YtafbghlldlconaaGreatDoor
set_option linter.unusedVariables false
set_option linter.unusedSimpArgs false
open Go.RowKit PT

noncomputable def hasB (l : List Nd) (id : Int) : Bool := decide (0 ≤ id) && (decide (id < l.length) && rightB l)
/-- from a node upward: the first answer -/
def climbF {β : Type} (l : List Nd) (f : Int → Option β) (d : β) : Nat → Int → β
  | 0, _ => d
  | n + 1, k => if k < 0 then d else match f k with
    | some b => b
    | none => climbF l f d n (paOf l k)
def cl {β : Type} (l : List Nd) (f : Int → Option β) (d : β) (k : Int) : β := climbF l f d (l.length + 1) k
def depF (l : List Nd) : Nat → Int → Nat
  | 0, _ => 0
  | n + 1, k => if k < 0 then 0 else depF l n (paOf l k) + 1
/-- so many steps lead out of it -/
def dep (l : List Nd) (k : Int) : Nat := depF l (l.length + 1) k
theorem climbF_neg {β : Type} (l : List Nd) (f : Int → Option β) (d : β) {k : Int} (h : k < 0) : ∀ n, climbF l f d n k = d
  | 0 => rfl
  | n + 1 => if_pos h
theorem climbF_stab {β : Type} (l : List Nd) (f : Int → Option β) (d : β) : ∀ (n : Nat) (k : Int), upN l n k < 0 → climbF l f d (n + 1) k = climbF l f d n k
  | 0, k, h => by
    have h' : k < 0 := by unfold upN at h; exact h
    rw [climbF_neg l f d h', climbF_neg l f d h']
  | n + 1, k, h => by
    by_cases hk : k < 0
    · rw [climbF_neg l f d hk, climbF_neg l f d hk]
    · rw [upN_step l (by omega)] at h
      have ih := climbF_stab l f d n (paOf l k) h
      show (if k < 0 then d else match f k with | some b => b | none => climbF l f d (n + 1) (paOf l k)) = (if k < 0 then d else match f k with | some b => b | none => climbF l f d n (paOf l k))
      rw [ih]
theorem depF_neg (l : List Nd) {k : Int} (h : k < 0) : ∀ n, depF l n k = 0
  | 0 => rfl
  | n + 1 => if_pos h
theorem depF_stab (l : List Nd) : ∀ (n : Nat) (k : Int), upN l n k < 0 → depF l (n + 1) k = depF l n k
  | 0, k, h => by
    have h' : k < 0 := by unfold upN at h; exact h
    rw [depF_neg l h', depF_neg l h']
  | n + 1, k, h => by
    by_cases hk : k < 0
    · rw [depF_neg l hk, depF_neg l hk]
    · rw [upN_step l (by omega)] at h
      have ih := depF_stab l n (paOf l k) h
      show (if k < 0 then 0 else depF l (n + 1) (paOf l k) + 1) = (if k < 0 then 0 else depF l n (paOf l k) + 1)
      rw [ih]
theorem cl_neg {β : Type} (l : List Nd) (f : Int → Option β) (d : β) {k : Int} (h : k < 0) : cl l f d k = d := climbF_neg l f d h _
theorem RightP.out {l : List Nd} (h : RightP l) {k : Int} (h0 : 0 ≤ k) (h1 : k < l.length) : upN l l.length (paOf l k) < 0 := by
  obtain ⟨q, rfl⟩ := Int.eq_ofNat_of_zero_le h0
  have := h.climb q (by omega)
  rwa [upN_step l h0] at this
theorem cl_step {β : Type} {l : List Nd} (h : RightP l) (f : Int → Option β) (d : β) {k : Int} (h0 : 0 ≤ k) (h1 : k < l.length) : cl l f d k = match f k with
    | some b => b
    | none => cl l f d (paOf l k) := by
  have hs := climbF_stab l f d l.length (paOf l k) (h.out h0 h1)
  show (if k < 0 then d else match f k with | some b => b | none => climbF l f d l.length (paOf l k)) = match f k with | some b => b | none => climbF l f d (l.length + 1) (paOf l k)
  rw [if_neg (by omega), hs]
theorem cl_hit {β : Type} {l : List Nd} (h : RightP l) (f : Int → Option β) (d : β) {k : Int} (h0 : 0 ≤ k) (h1 : k < l.length) {b : β} (hf : f k = some b) : cl l f d k = b := by rw [cl_step h f d h0 h1, hf]
theorem cl_go {β : Type} {l : List Nd} (h : RightP l) (f : Int → Option β) (d : β) {k : Int} (h0 : 0 ≤ k) (h1 : k < l.length) (hf : f k = none) : cl l f d k = cl l f d (paOf l k) := by rw [cl_step h f d h0 h1, hf]
theorem dep_lt {l : List Nd} (h : RightP l) {k : Int} (h0 : 0 ≤ k) (h1 : k < l.length) : dep l (paOf l k) < dep l k := by
  have hs := depF_stab l l.length (paOf l k) (h.out h0 h1)
  show depF l (l.length + 1) (paOf l k) < (if k < 0 then 0 else depF l l.length (paOf l k) + 1)
  rw [if_neg (by omega), hs]
  omega
/-- where going up ends -/
def topF (l : List Nd) (k : Int) : Int := cl l (fun k => if paOf l k < 0 then some k else none) (-1) k
def nmOf (l : List Nd) (i : Int) : ByteArray := match l[i.toNat]? with
  | some x => x.nm
  | none => ⟨#[]⟩
theorem nmOf_at {l : List Nd} {k : Nat} (hk : k < l.length) : nmOf l k = l[k].nm := by
  unfold nmOf; rw [Int.toNat_natCast, List.getElem?_eq_getElem hk]
/-- the nearest node of a name, upward -/
def nearF (l : List Nd) (s : ByteArray) (k : Int) : Int := cl l (fun k => if nmOf l k = s then some k else none) (-1) k
/-- is a node, or one that it is within, another one? -/
def withinF (l : List Nd) (o : Int) (k : Int) : Bool := cl l (fun k => if k = o then some true else none) false k
noncomputable def topB (l : List Nd) (id : Int) : Int := if hasB l id = true then topF l id else -1
noncomputable def upB (l : List Nd) (id : Int) (s : ByteArray) : Int := if hasB l id = true then nearF l s (paOf l id) else -1
theorem hasB_iff (l : List Nd) (id : Int) : hasB l id = true ↔ 0 ≤ id ∧ id < l.length ∧ RightP l := by
  unfold hasB
  rw [Bool.and_eq_true, Bool.and_eq_true, decide_eq_true_iff, decide_eq_true_iff, rightB_iff]
theorem topF_go {l : List Nd} (h : RightP l) {k : Int} (h0 : 0 ≤ k) (h1 : k < l.length) (hp : 0 ≤ paOf l k) : topF l k = topF l (paOf l k) := cl_go h _ _ h0 h1 (if_neg (by omega))
theorem topF_end {l : List Nd} (h : RightP l) {k : Int} (h0 : 0 ≤ k) (h1 : k < l.length) (hp : paOf l k < 0) : topF l k = k := cl_hit h _ _ h0 h1 (if_pos hp)
theorem nearF_neg (l : List Nd) (s : ByteArray) {k : Int} (h : k < 0) : nearF l s k = -1 := cl_neg l _ _ h
theorem nearF_hit {l : List Nd} (h : RightP l) {s : ByteArray} {k : Int} (h0 : 0 ≤ k) (h1 : k < l.length) (hn : nmOf l k = s) : nearF l s k = k := cl_hit h _ _ h0 h1 (if_pos hn)
theorem nearF_go {l : List Nd} (h : RightP l) {s : ByteArray} {k : Int} (h0 : 0 ≤ k) (h1 : k < l.length) (hn : nmOf l k ≠ s) : nearF l s k = nearF l s (paOf l k) := cl_go h _ _ h0 h1 (if_neg hn)
theorem withinF_neg (l : List Nd) (o : Int) {k : Int} (h : k < 0) : withinF l o k = false := cl_neg l _ _ h
theorem withinF_hit {l : List Nd} (h : RightP l) {o k : Int} (h0 : 0 ≤ k) (h1 : k < l.length) (hn : k = o) : withinF l o k = true := cl_hit h _ _ h0 h1 (if_pos hn)
theorem withinF_go {l : List Nd} (h : RightP l) {o k : Int} (h0 : 0 ≤ k) (h1 : k < l.length) (hn : k ≠ o) : withinF l o k = withinF l o (paOf l k) := cl_go h _ _ h0 h1 (if_neg hn)
end Go.Proofs.YtafbghlldlconaaGreatDoor

/-
  THE ORDER OF A RIGHT DOCUMENT: plain laws.
-/
namespace Go.Proofs.YtafbghlldlconaaGreatDoor
set_option linter.unusedVariables false
set_option linter.unusedSimpArgs false
open Go.RowKit PT

def ordF (l : List Nd) : Nat → Int → List Int
  | 0, _ => []
  | n + 1, i => i :: (ksOf l i).flatMap (ordF l n)
/-- a node, and what is within it, in order -/
def ord (l : List Nd) (i : Int) : List Int := ordF l (l.length + 2) i
theorem depF_le (l : List Nd) : ∀ (n : Nat) (k : Int), depF l n k ≤ n
  | 0, _ => Nat.le_refl _
  | n + 1, k => by
    show (if k < 0 then 0 else depF l n (paOf l k) + 1) ≤ n + 1
    have := depF_le l n (paOf l k)
    split <;> omega
theorem dep_le (l : List Nd) (k : Int) : dep l k ≤ l.length + 1 := depF_le l _ k
theorem dep_eq {l : List Nd} (h : RightP l) {k : Int} (h0 : 0 ≤ k) (h1 : k < l.length) : dep l k = dep l (paOf l k) + 1 := by
  have hs := depF_stab l l.length (paOf l k) (h.out h0 h1)
  show (if k < 0 then 0 else depF l l.length (paOf l k) + 1) = depF l (l.length + 1) (paOf l k) + 1
  rw [if_neg (by omega), hs]
theorem RightP.kid {l : List Nd} (h : RightP l) {k : Int} (h0 : 0 ≤ k) (h1 : k < l.length) {c : Int} (hc : c ∈ ksOf l k) : 0 ≤ c ∧ c < l.length ∧ paOf l c = k := by
  obtain ⟨q, rfl⟩ := Int.eq_ofNat_of_zero_le h0
  have hq : q < l.length := by omega
  rw [ksOf_at hq] at hc
  exact h.kids q _ (List.getElem?_eq_getElem hq) c hc
theorem RightP.nodup {l : List Nd} (h : RightP l) {k : Int} (h0 : 0 ≤ k) (h1 : k < l.length) : (ksOf l k).Nodup := by
  obtain ⟨q, rfl⟩ := Int.eq_ofNat_of_zero_le h0
  have hq : q < l.length := by omega
  rw [ksOf_at hq, List.nodup_iff_count]
  intro c
  by_cases hm : c ∈ l[q].ks
  · obtain ⟨p, rfl⟩ := Int.eq_ofNat_of_zero_le (h.kids q _ (List.getElem?_eq_getElem hq) c hm).1
    exact ((once_iff l h.kids (fun i x hx => (h.node i x hx).2.2)).1 h.once).1 q _ (List.getElem?_eq_getElem hq) p
  · rw [List.count_eq_zero.2 hm]; omega
theorem dep_kid {l : List Nd} (h : RightP l) {k : Int} (h0 : 0 ≤ k) (h1 : k < l.length) {c : Int} (hc : c ∈ ksOf l k) : dep l c = dep l k + 1 := by
  obtain ⟨c0, c1, c2⟩ := h.kid h0 h1 hc
  rw [dep_eq h c0 c1, c2]
theorem flatMap_eq {α β : Type} {f g : α → List β} : ∀ {t : List α}, (∀ x ∈ t, f x = g x) → t.flatMap f = t.flatMap g
  | [], _ => rfl
  | x :: t, h => by
    rw [List.flatMap_cons, List.flatMap_cons, h x (List.mem_cons_self ..), flatMap_eq (fun y hy => h y (List.mem_cons_of_mem _ hy))]
theorem ordF_stab {l : List Nd} (h : RightP l) : ∀ (n : Nat) (k : Int), 0 ≤ k → k < l.length → l.length + 2 ≤ n + dep l k → ordF l (n + 1) k = ordF l n k
  | 0, k, _, _, hd => by have := dep_le l k; omega
  | n + 1, k, h0, h1, hd => by
    show k :: (ksOf l k).flatMap (ordF l (n + 1)) = k :: (ksOf l k).flatMap (ordF l n)
    rw [flatMap_eq (f := ordF l (n + 1)) (g := ordF l n) (fun c hc => by
      obtain ⟨c0, c1, c2⟩ := h.kid h0 h1 hc
      exact ordF_stab h n c c0 c1 (by rw [dep_kid h h0 h1 hc]; omega))]
theorem ord_eq {l : List Nd} (h : RightP l) {k : Int} (h0 : 0 ≤ k) (h1 : k < l.length) : ord l k = k :: (ksOf l k).flatMap (ord l) := by
  show k :: (ksOf l k).flatMap (ordF l (l.length + 1)) = k :: (ksOf l k).flatMap (ordF l (l.length + 2))
  rw [flatMap_eq (f := ordF l (l.length + 2)) (g := ordF l (l.length + 1)) (fun c hc => by
    obtain ⟨c0, c1, c2⟩ := h.kid h0 h1 hc
    have := dep_eq h h0 h1
    exact ordF_stab h _ c c0 c1 (by rw [dep_kid h h0 h1 hc]; omega))]

/-- is c the node k, or within it? -/
def Anc (l : List Nd) (c k : Int) : Prop := withinF l k c = true
theorem Anc.self {l : List Nd} (h : RightP l) {k : Int} (h0 : 0 ≤ k) (h1 : k < l.length) : Anc l k k := withinF_hit h h0 h1 rfl
theorem Anc.nonneg {l : List Nd} {c k : Int} (ha : Anc l c k) : 0 ≤ c := by
  by_cases h : 0 ≤ c
  · exact h
  · have := withinF_neg l k (show c < 0 by omega)
    rw [Anc, this] at ha
    cases ha
theorem Anc.step {l : List Nd} (h : RightP l) {c k : Int} (h0 : 0 ≤ c) (h1 : c < l.length) (hne : c ≠ k) : Anc l c k ↔ Anc l (paOf l c) k := by
  unfold Anc; rw [withinF_go h h0 h1 hne]
theorem RightP.pa_lt {l : List Nd} (h : RightP l) {c : Int} (h0 : 0 ≤ c) (h1 : c < l.length) : paOf l c < l.length := by
  obtain ⟨q, rfl⟩ := Int.eq_ofNat_of_zero_le h0
  have hq : q < l.length := by omega
  rw [paOf_at hq]
  exact (h.node q _ (List.getElem?_eq_getElem hq)).2.2
theorem RightP.pa_ge {l : List Nd} (h : RightP l) {c : Int} (h0 : 0 ≤ c) (h1 : c < l.length) : -1 ≤ paOf l c := by
  obtain ⟨q, rfl⟩ := Int.eq_ofNat_of_zero_le h0
  have hq : q < l.length := by omega
  rw [paOf_at hq]
  exact (h.node q _ (List.getElem?_eq_getElem hq)).2.1
theorem Anc.dep {l : List Nd} (h : RightP l) {k : Int} : ∀ (n : Nat) (c : Int), dep l c = n → c < l.length → Anc l c k → c = k ∨ dep l k < dep l c := by
  intro n
  induction n with
  | zero => intro c hd h1 ha; have := dep_eq h ha.nonneg h1; omega
  | succ n ih =>
    intro c hd h1 ha
    by_cases e : c = k
    · exact .inl e
    · have h0 := ha.nonneg
      have ha' := (Anc.step h h0 h1 e).1 ha
      have hde := dep_eq h h0 h1
      rcases ih (paOf l c) (by omega) (h.pa_lt h0 h1) ha' with e2 | h2
      · right; rw [← e2]; omega
      · right; omega
theorem Anc.uniq {l : List Nd} (h : RightP l) {k1 k2 : Int} (hk : Go.Proofs.YtafbghlldlconaaGreatDoor.dep l k1 = Go.Proofs.YtafbghlldlconaaGreatDoor.dep l k2) : ∀ (n : Nat) (c : Int), Go.Proofs.YtafbghlldlconaaGreatDoor.dep l c = n → c < l.length → Anc l c k1 → Anc l c k2 → k1 = k2 := by
  intro n
  induction n with
  | zero => intro c hd h1 ha _; have := dep_eq h ha.nonneg h1; omega
  | succ n ih =>
    intro c hd h1 a1 a2
    by_cases e1 : c = k1
    · rcases Anc.dep h _ c rfl h1 a2 with e | e
      · rw [← e1, e]
      · rw [e1] at e; omega
    by_cases e2 : c = k2
    · rcases Anc.dep h _ c rfl h1 a1 with e | e
      · exact absurd e e1
      · rw [e2] at e; omega
    have h0 := a1.nonneg
    have := dep_eq h h0 h1
    exact ih (paOf l c) (by omega) (h.pa_lt h0 h1) ((Anc.step h h0 h1 e1).1 a1) ((Anc.step h h0 h1 e2).1 a2)
theorem Anc.up {l : List Nd} (h : RightP l) {k m : Int} (h0 : 0 ≤ k) (h1 : k < l.length) (hm : paOf l m = k) : ∀ (n : Nat) (c : Int), Go.Proofs.YtafbghlldlconaaGreatDoor.dep l c = n → c < l.length → Anc l c m → Anc l c k := by
  intro n
  induction n with
  | zero => intro c hd hc ha; have := dep_eq h ha.nonneg hc; omega
  | succ n ih =>
    intro c hd hc ha
    have c0 := ha.nonneg
    have hde := dep_eq h c0 hc
    by_cases ek : c = k
    · rw [ek]; exact Anc.self h h0 h1
    rw [Anc.step h c0 hc ek]
    by_cases em : c = m
    · rw [em, hm]; exact Anc.self h h0 h1
    · exact ih (paOf l c) (by omega) (h.pa_lt c0 hc) ((Anc.step h c0 hc em).1 ha)
/-- what is in the order -/
theorem mem_ordF {l : List Nd} (h : RightP l) : ∀ (n : Nat) (k : Int), 0 ≤ k → k < l.length → ∀ c ∈ ordF l n k, 0 ≤ c ∧ c < l.length ∧ Anc l c k
  | 0, _, _, _, c, hc => by cases hc
  | n + 1, k, h0, h1, c, hc => by
    rcases List.mem_cons.1 hc with rfl | hm
    · exact ⟨h0, h1, Anc.self h h0 h1⟩
    · obtain ⟨m, hmk, hcm⟩ := List.mem_flatMap.1 hm
      obtain ⟨m0, m1, m2⟩ := h.kid h0 h1 hmk
      obtain ⟨c0, c1, c2⟩ := mem_ordF h n m m0 m1 c hcm
      exact ⟨c0, c1, Anc.up h h0 h1 m2 _ c rfl c1 c2⟩
theorem nodup_flat {α β : Type} {f : α → List β} : ∀ {t : List α}, t.Nodup → (∀ x ∈ t, (f x).Nodup) → (∀ x ∈ t, ∀ y ∈ t, x ≠ y → ∀ b ∈ f x, b ∉ f y) → (t.flatMap f).Nodup
  | [], _, _, _ => List.nodup_nil
  | x :: t, hn, h1, h2 => by
    rw [List.flatMap_cons, List.nodup_append]
    obtain ⟨hx, ht⟩ := List.nodup_cons.1 hn
    refine ⟨h1 x (List.mem_cons_self ..), nodup_flat ht (fun y hy => h1 y (List.mem_cons_of_mem _ hy)) (fun y hy z hz => h2 y (List.mem_cons_of_mem _ hy) z (List.mem_cons_of_mem _ hz)), fun a ha b hb e => ?_⟩
    subst e
    obtain ⟨y, hy, hb⟩ := List.mem_flatMap.1 hb
    exact h2 x (List.mem_cons_self ..) y (List.mem_cons_of_mem _ hy) (fun e => hx (e ▸ hy)) a ha hb
theorem nodup_ordF {l : List Nd} (h : RightP l) : ∀ (n : Nat) (k : Int), 0 ≤ k → k < l.length → (ordF l n k).Nodup
  | 0, _, _, _ => List.nodup_nil
  | n + 1, k, h0, h1 => by
    show (k :: (ksOf l k).flatMap (ordF l n)).Nodup
    rw [List.nodup_cons]
    constructor
    · intro hm
      obtain ⟨m, hmk, hcm⟩ := List.mem_flatMap.1 hm
      obtain ⟨m0, m1, m2⟩ := h.kid h0 h1 hmk
      obtain ⟨_, _, c2⟩ := mem_ordF h n m m0 m1 k hcm
      have := dep_kid h h0 h1 hmk
      rcases Anc.dep h _ k rfl h1 c2 with e | e
      · rw [← e] at this; omega
      · omega
    · refine nodup_flat (h.nodup h0 h1) (fun m hm => ?_) (fun m hm m' hm' hne b hb hb' => ?_)
      · obtain ⟨m0, m1, _⟩ := h.kid h0 h1 hm
        exact nodup_ordF h n m m0 m1
      · obtain ⟨m0, m1, _⟩ := h.kid h0 h1 hm
        obtain ⟨n0, n1, _⟩ := h.kid h0 h1 hm'
        obtain ⟨_, b1, b2⟩ := mem_ordF h n m m0 m1 b hb
        obtain ⟨_, _, b3⟩ := mem_ordF h n m' n0 n1 b hb'
        exact hne (Anc.uniq h (by rw [dep_kid h h0 h1 hm, dep_kid h h0 h1 hm']) _ b rfl b1 b2 b3)
theorem S_ones : ∀ n, S n (fun _ => 1) = n
  | 0 => rfl
  | n + 1 => by show S n (fun _ => 1) + 1 = n + 1; rw [S_ones n]
theorem nodup_len {n : Nat} {t : List Int} (hn : t.Nodup) (h : ∀ c ∈ t, 0 ≤ c ∧ c < (n : Int)) : t.length ≤ n := by
  rw [len_S n t h]
  refine Nat.le_trans (S_le (g := fun _ => 1) fun i _ => ?_) (by rw [S_ones]; exact Nat.le_refl _)
  exact List.nodup_iff_count.1 hn _
theorem ord_len {l : List Nd} (h : RightP l) {k : Int} (h0 : 0 ≤ k) (h1 : k < l.length) : (ord l k).length ≤ l.length :=
  nodup_len (nodup_ordF h _ k h0 h1) (fun c hc => ⟨(mem_ordF h _ k h0 h1 c hc).1, (mem_ordF h _ k h0 h1 c hc).2.1⟩)
theorem ord_mem {l : List Nd} (h : RightP l) {k : Int} (h0 : 0 ≤ k) (h1 : k < l.length) {c : Int} (hc : c ∈ ord l k) : 0 ≤ c ∧ c < l.length ∧ Anc l c k := mem_ordF h _ k h0 h1 c hc
end Go.Proofs.YtafbghlldlconaaGreatDoor

/-
  RIGHT DOCUMENTS: tree.Right: the walk.
-/
namespace Go.Proofs.YtafbghlldlconaaGreatDoor
set_option linter.unusedVariables false
set_option linter.unusedSimpArgs false
open Go.RowKit PT

/-- a row of marks -/
def row (n : Nat) (f : Nat → Bool) : Array Value := ((List.range n).map fun c => Value.bool (f c)).toArray
theorem row_size (n : Nat) (f : Nat → Bool) : (row n f).size = n := by simp [row]
theorem row_get {n : Nat} (f : Nat → Bool) {q : Nat} (hq : q < n) : (row n f)[q]? = some (.bool (f q)) := by simp [row, hq]
theorem row_made (n : Nat) : madeCells #[.bool false] n = row n (fun _ => false) := by
  apply Array.ext_getElem?
  intro j
  by_cases hj : j < n
  · simp [row, madeCells, hj, Nat.mod_one]
  · simp [row, madeCells, hj]
theorem row_set {n : Nat} (f : Nat → Bool) (q : Nat) : (row n f).setIfInBounds q (.bool true) = row n (fun c => decide (c = q) || f c) := by
  apply Array.ext_getElem?
  intro j
  rw [Array.getElem?_setIfInBounds]
  by_cases hj : j < n
  · by_cases e : q = j
    · subst e; rw [if_pos rfl, row_size, if_pos hj, row_get _ hj, decide_eq_true rfl]; rfl
    · rw [if_neg e, row_get _ hj, row_get _ hj, decide_eq_false (fun h => e h.symm)]; rfl
  · rw [Array.getElem?_eq_none (by rw [row_size]; omega), Array.getElem?_eq_none (xs := row n _) (by rw [row_size]; omega)]
    rw [row_size]
    by_cases e : q = j
    · rw [if_pos e, if_neg (by omega)]
    · rw [if_neg e]
/-- a node of a right document, by the program -/
def okP (l : List Nd) (j : Nat) : Prop := ∀ x, l[j]? = some x → (oneB x = true ∧ -1 ≤ x.pa ∧ x.pa < l.length) ∧ (∀ c : Nat, x.ks.count (c : Int) ≤ 1) ∧ ∀ c ∈ x.ks, 0 ≤ c ∧ c < l.length ∧ paOf l c = j
theorem RightP.okP {l : List Nd} (h : RightP l) (j : Nat) : okP l j := fun x hx => ⟨h.node j x hx, ((once_iff l h.kids (fun i x hx => (h.node i x hx).2.2)).1 h.once).1 j x hx, h.kids j x hx⟩
theorem RightP.sum {l : List Nd} (h : RightP l) : paS l l.length = ksS l l.length := ((once_iff l h.kids (fun i x hx => (h.node i x hx).2.2)).1 h.once).2
theorem paS_succ (l : List Nd) (n : Nat) : paS l (n + 1) = paS l n + if 0 ≤ paOf l n then 1 else 0 := rfl
theorem ksS_succ (l : List Nd) (n : Nat) : ksS l (n + 1) = ksS l n + (ksOf l n).length := rfl
theorem make_bool (n : Nat) (hn : n ≤ 400) (W : World) : (Instr.makeSlice 113 (.int .i64 (n : Int)) (.int .i64 (n : Int))).run Tryz.prog W = .ok (.slice (some ⟨W.heap.size, 0, none⟩) n n) (W.alloc (.cells (row n (fun _ => false)) 4)) := by
  rw [← row_made]
  exact run_make_row' (P := Tryz.prog) 113 4 (.bool false) 1 (by kernel_rfl) (by kernel_rfl) rfl .i64 .i64 n (by omega) (by omega) W
set_option maxHeartbeats 8000000 in
set_option maxRecDepth 100000 in
theorem right_any (l : List Nd) (v : Value) (hl : l.length ≤ 1000000000000000000) (hz : ∀ x ∈ l, Fits x) (w : World) (hU : Nodes l v w) :
    Calls Tryz.prog 53 #[v] w fun e w' => e = .returned (.bool (rightB l)) ∧ Below w.heap.size w w' := by
  obtain ⟨a, cap, rfl⟩ := hU.len
  by_cases h0 : l.length = 0
  · have hR := Lib.hid (rightB_no (fun h : RightP l => by have := h.pos; omega))
    have h0' : ((l.length : Int) == 0) = true := by rw [h0]; rfl
    go_enter Tryz.func53, Tryz.ntmps53
    go_wp2_with fail
    go_ret
    exact ⟨ret_bool hR.out.symm, Below.refl _ _⟩
  have h0' : ((l.length : Int) == 0) = false := intNe (by omega)
  by_cases h1 : 400 < l.length
  · have hR := Lib.hid (rightB_no (fun h : RightP l => by have := h.max; omega))
    have h1' : (400 : Int) < (l.length : Int) := by omega
    go_enter Tryz.func53, Tryz.ntmps53
    go_wp2_with fail
    go_ret
    exact ⟨ret_bool hR.out.symm, Below.refl _ _⟩
  have h1' : decide ((400 : Int) < (l.length : Int)) = false := decide_eq_false (by omega)
  have hpos : 0 < l.length := by omega
  obtain ⟨b, o, cap', va, vk, hv, hb, c0, c1, c2, c3, c4, hat, hks⟩ := hU.at hpos
  cases hv
  have hx0 : l[0]? = some l[0] := List.getElem?_eq_getElem hpos
  have hTop := Lib.hid (fun (h : RightP l) => h.top _ hx0)
  have hTop2 := Lib.hid (fun (h : l[0].nm.size ≠ 0 ∧ l[0].pa = -1) => show ∀ x, l[0]? = some x → x.nm.size ≠ 0 ∧ x.pa = -1 from fun x hx => by rw [hx0] at hx; cases hx; exact h)
  have hp0 : (0 : Int) < (l.length : Int) := by omega
  rw [Nat.zero_mul, Nat.add_zero] at c0 c1 c2 c3 c4
  clear hx0 hat hks c1 c2 c4
  generalize l[0] = y at *
  by_cases h2 : y.nm.size = 0
  · have hR := Lib.hid (rightB_no (fun h : RightP l => (hTop.out h).1 h2))
    have h2' := emp_yes h2
    have h2'' := empt_yes h2
    clear h2
    go_enter Tryz.func53, Tryz.ntmps53
    go_wp2_with fail
    go_ret
    exact ⟨ret_bool hR.out.symm, Below.refl _ _⟩
  have h2' := emp_no h2
  have h2'' := empt_no h2
  by_cases h3 : y.pa = -1
  case neg =>
    have hR := Lib.hid (rightB_no (fun h : RightP l => h3 (hTop.out h).2))
    have h3' : (y.pa == -1) = false := intNe h3
    have h3'' : (y.pa != -1) = true := by rw [bne, h3']; rfl
    clear h2 h3
    go_enter Tryz.func53, Tryz.ntmps53
    go_wp2_with fail
    go_ret
    exact ⟨ret_bool hR.out.symm, Below.refl _ _⟩
  have hTT := Lib.hid (hTop2.out ⟨h2, h3⟩)
  rw [h3] at c3
  clear hTop hTop2 h2 h3
  have hmk := make_bool l.length (by omega)
  have hn0 := Go.heap_alloc_new w (.cells (row l.length (fun _ => false)) 4)
  have hb0 := (Below.refl w.heap.size w).alloc (Nat.le_refl _) (.cells (row l.length (fun _ => false)) 4)
  have hs0 : (w.alloc (.cells (row l.length (fun _ => false)) 4)).heap.size = w.heap.size + 1 := by simp
  go_enter Tryz.func53, Tryz.ntmps53
  go_upto_region 5 with fail
  generalize World.alloc _ _ = W0 at hn0 hb0 hs0 ⊢
  go_wp2_with fail
  go_loopw [3, 39] (fun mt i wr => ∃ (k : Nat) (M : Int) (f : Nat → Bool), k ≤ l.length ∧ i = .int .i64 k ∧ mt = .int .i64 M ∧ M ≤ k ∧ -(1000000000000000 * (k : Int)) ≤ M ∧ Hid (M = (paS l k : Int) - ksS l k) ∧ Hid (∀ j, j < k → okP l j) ∧
    Hid (∀ c, c < l.length → (f c = true ↔ ∃ j, j < k ∧ (c : Int) ∈ ksOf l j)) ∧ wr.heap[w.heap.size]? = some (.cells (row l.length f) 4 (0, 0)) ∧ Below w.heap.size w wr ∧ w.heap.size < wr.heap.size) (fun _ i _ => l.length - (intOf i).toNat)
  case atStart => exact ⟨0, 0, fun _ => false, Nat.zero_le _, rfl, rfl, by omega, by omega, Lib.hid rfl, Lib.hid (fun j hj => by omega), Lib.hid (fun c _ => Iff.intro (fun h => by cases h) (fun h => by obtain ⟨j, hj, _⟩ := h; omega)), hn0, hb0, by omega⟩
  case round =>
    obtain ⟨k, M, f, hk, rfl, rfl, hM1, hM2, hM, hA, hf, hrow, hbel, hgw⟩ := hrel
    have hsz := hbel.size
    by_cases hlt : k < l.length
    · obtain ⟨b, o, cap', va, vk, hv, hb, c0, c1, c2, c3, c4, hat, hks⟩ := hU.at hlt
      cases hv
      replace c0 := cellK hbel hb c0
      replace c1 := cellK hbel hb c1
      replace c2 := cellK hbel hb c2
      replace c3 := cellK hbel hb c3
      replace c4 := cellK hbel hb c4
      have hks0 := hks
      replace hat := hat.kept hbel
      replace hks := hks.kept hbel
      obtain ⟨z0, z1, z2, z3, z4⟩ := hz _ (List.getElem_mem hlt)
      have hxk : l[k]? = some l[k] := List.getElem?_eq_getElem hlt
      have hpak := Lib.hid (paOf_at hlt)
      have hksk := Lib.hid (ksOf_at hlt)
      have hF := Lib.hid (fun (h : ¬ ((oneB l[k] = true ∧ -1 ≤ l[k].pa ∧ l[k].pa < l.length) ∧ (∀ c : Nat, l[k].ks.count (c : Int) ≤ 1) ∧ ∀ c ∈ l[k].ks, 0 ≤ c ∧ c < l.length ∧ paOf l c = k)) => rightB_no (fun H : RightP l => h (H.okP k _ hxk)))
      have hN := Lib.hid (fun (h : ((oneB l[k] = true ∧ -1 ≤ l[k].pa ∧ l[k].pa < l.length) ∧ (∀ c : Nat, l[k].ks.count (c : Int) ≤ 1) ∧ ∀ c ∈ l[k].ks, 0 ≤ c ∧ c < l.length ∧ paOf l c = k)) => show ∀ j, j < k + 1 → okP l j from fun j hj => by
        by_cases e : j = k
        · intro x hx
          subst e
          rw [hxk] at hx
          cases hx
          exact h
        · exact hA.out j (by omega))
      generalize l[k] = x at *
      have hk0 : (0 : Int) ≤ (k : Int) := by omega
      have hk1 : (k : Int) < (l.length : Int) := by omega
      obtain ⟨aa, acap, rfl⟩ := hat.len
      obtain ⟨ka, kcap, rfl⟩ := hks.len
      have hn1 := Go.heap_alloc_new wr (.cells #[.string x.nm, .string x.tx, .slice aa x.ats.length acap, .int .i64 x.pa, .slice ka x.ks.length kcap] 54)
      have hba := (Below.refl wr.heap.size wr).alloc (Nat.le_refl _) (.cells #[.string x.nm, .string x.tx, .slice aa x.ats.length acap, .int .i64 x.pa, .slice ka x.ks.length kcap] 54)
      have hs1 : (wr.alloc (.cells #[.string x.nm, .string x.tx, .slice aa x.ats.length acap, .int .i64 x.pa, .slice ka x.ks.length kcap] 54)).heap.size = wr.heap.size + 1 := by simp
      go_upto_region 8 with fail
      generalize World.alloc _ _ = W1 at hn1 hba hs1 ⊢
      obtain ⟨x0, x1, x2, x3, x4, f0, f1, f2, f3, f4⟩ := five_of hn1
      have hb1 := hbel.trans (hba.mono hsz)
      replace hat := hat.kept hba
      replace hks := hks.kept hba
      cases h4 : oneB x
      · have hR := Lib.hid (hF.out (fun h => by rw [h4] at h; exact Bool.false_ne_true h.1.1))
        have HF := Lib.hid h4
        clear h4
        go_wp2_with fail
        refine (one_any x (.slice aa x.ats.length acap) (.slice ka x.ks.length kcap) z2 (Nat.le_trans z3 (by omega)) z1 _ hat hks (fun a ha => (z4 a ha).2)).mono ?_
        rintro e w' ⟨rfl, hb5⟩
        rw [HF.out]
        go_wp2_with fail
        go_ret
        exact ⟨ret_bool hR.out.symm, hb1.trans (hb5.mono (by omega))⟩
      have HF := Lib.hid h4
      by_cases h5 : x.pa < -1
      · have hR := Lib.hid (hF.out (fun h => by omega))
        clear h4
        go_wp2_with fail
        refine (one_any x (.slice aa x.ats.length acap) (.slice ka x.ks.length kcap) z2 (Nat.le_trans z3 (by omega)) z1 _ hat hks (fun a ha => (z4 a ha).2)).mono ?_
        rintro e w' ⟨rfl, hb5⟩
        have y3 := cellK hb5 (by omega) x3
        rw [HF.out]
        go_wp2_with fail
        go_ret
        exact ⟨ret_bool hR.out.symm, hb1.trans (hb5.mono (by omega))⟩
      have h5' : decide (x.pa < -1) = false := decide_eq_false h5
      by_cases h6 : (l.length : Int) ≤ x.pa
      · have hR := Lib.hid (hF.out (fun h => by omega))
        clear h4
        go_wp2_with fail
        refine (one_any x (.slice aa x.ats.length acap) (.slice ka x.ks.length kcap) z2 (Nat.le_trans z3 (by omega)) z1 _ hat hks (fun a ha => (z4 a ha).2)).mono ?_
        rintro e w' ⟨rfl, hb5⟩
        have y3 := cellK hb5 (by omega) x3
        rw [HF.out]
        go_wp2_with fail
        go_ret
        exact ⟨ret_bool hR.out.symm, hb1.trans (hb5.mono (by omega))⟩
      have h6' : decide ((l.length : Int) ≤ x.pa) = false := decide_eq_false h6
      have hMs : ∃ e : Int, 0 ≤ e ∧ e ≤ 1 ∧ Hid (M + e - x.ks.length = (paS l (k + 1) : Int) - ksS l (k + 1)) ∧ Hid (e = if 0 ≤ x.pa then 1 else 0) := by
        refine ⟨if 0 ≤ x.pa then 1 else 0, by split <;> omega, by split <;> omega, Lib.hid ?_, Lib.hid rfl⟩
        rw [paS_succ, ksS_succ, hpak.out, hksk.out, hM.out]
        split <;> omega
      obtain ⟨e, he0, he1, hME, hee⟩ := hMs
      by_cases h7 : 0 ≤ x.pa
      · have he : e = 1 := by rw [hee.out, if_pos h7]
        subst he
        clear hee
        go_wp2_with fail
        refine (one_any x (.slice aa x.ats.length acap) (.slice ka x.ks.length kcap) z2 (Nat.le_trans z3 (by omega)) z1 _ hat hks (fun a ha => (z4 a ha).2)).mono ?_
        rintro e w' ⟨rfl, hb5⟩
        have y3 := cellK hb5 (by omega) x3
        have y4 := cellK hb5 (by omega) x4
        have hbW := hb1.trans (hb5.mono (by omega))
        have hrW := (hb5.mono (by omega : wr.heap.size ≤ _)).block w.heap.size hgw
        have hrW1 := hba.block w.heap.size hgw
        rw [hrW1, hrow] at hrW
        replace hks := hks.kept hb5
        have hgW := hb5.size
        rw [HF.out]
        go_wp2_with fail
        go_loopw [3, 67] (fun mt i wi => ∃ (m : Nat) (g : Nat → Bool), m ≤ x.ks.length ∧ i = .int .i64 m ∧ mt = .int .i64 (M + 1 - m) ∧ Hid (∀ c ∈ x.ks.take m, 0 ≤ c ∧ c < l.length ∧ paOf l c = k) ∧ Hid (∀ c : Nat, (x.ks.take m).count (c : Int) ≤ 1) ∧
          Hid (∀ c, c < l.length → (g c = true ↔ (∃ j, j < k ∧ (c : Int) ∈ ksOf l j) ∨ (c : Int) ∈ x.ks.take m)) ∧ wi.heap[w.heap.size]? = some (.cells (row l.length g) 4 (0, 0)) ∧ Below w.heap.size w wi ∧ w.heap.size < wi.heap.size) (fun _ i _ => x.ks.length - (intOf i).toNat)
        case atStart => exact ⟨0, f, Nat.zero_le _, rfl, by go_num, Lib.hid (by simp), Lib.hid (by simp), Lib.hid (fun c hc => by rw [hf.out c hc]; simp), hrW, hbW, by omega⟩
        case round =>
          obtain ⟨m, g, hm, rfl, rfl, hB, hC1, hg, hrow2, hbi, hgi⟩ := hrel
          by_cases hlm : m < x.ks.length
          · obtain ⟨kb, ko, kcap', kv, khb, kc0⟩ := (hks0.kept hbi).at hlm
            cases kv
            have hmem := List.getElem_mem hlm
            have hBT := Lib.hid (fun h => take_mem_snoc (P := fun c : Int => 0 ≤ c ∧ c < l.length ∧ paOf l c = k) hlm hB.out h)
            have hcs := Lib.hid (fun c : Int => count_snoc c hlm)
            have hms := Lib.hid (show ∀ c : Int, c ∈ x.ks.take (m + 1) ↔ c ∈ x.ks.take m ∨ c = x.ks[m] from fun c => by
              rw [List.take_add_one, List.mem_append, List.getElem?_eq_getElem hlm]; simp)
            generalize x.ks[m] = c at *
            have hm0 : (0 : Int) ≤ (m : Int) := by omega
            have hm1 : (m : Int) < (x.ks.length : Int) := by omega
            have hz3 : (x.ks.length : Int) ≤ 1000000000000000 := by omega
            by_cases e1 : c < 0
            · have hR := Lib.hid (hF.out (fun h => by have := (h.2.2 c hmem).1; omega))
              go_wp2_with fail
              go_ret
              exact ⟨ret_bool hR.out.symm, hbi⟩
            have e1' : decide (c < 0) = false := decide_eq_false e1
            by_cases e2 : (l.length : Int) ≤ c
            · have hR := Lib.hid (hF.out (fun h => by have := (h.2.2 c hmem).2.1; omega))
              go_wp2_with fail
              go_ret
              exact ⟨ret_bool hR.out.symm, hbi⟩
            have e2' : decide ((l.length : Int) ≤ c) = false := decide_eq_false e2
            obtain ⟨q, rfl⟩ := Int.eq_ofNat_of_zero_le (show 0 ≤ c by omega)
            have hq : q < l.length := by omega
            have u0 : wr.cell? ⟨w.heap.size, q, none⟩ = some (.bool (g q)) := by simp [World.cell?, hrow2, row_get g hq]
            have u1 : wr.frozen? ⟨w.heap.size, q, none⟩ = false := by simp [World.frozen?, hrow2]
            obtain ⟨b2, o2, cap2, va2, vk2, hv2, hb2, d0, d1, d2, d3, d4, _, _⟩ := (hU.kept hbi).at hq
            cases hv2
            have hpq := Lib.hid (paOf_at hq)
            generalize l[q] = y2 at *
            have hq0 : (0 : Int) ≤ (q : Int) := by omega
            have hq1 : (q : Int) < (l.length : Int) := by omega
            cases gq : g q
            · rw [gq] at u0
              by_cases e3 : y2.pa = k
              · have hBN := Lib.hid (hBT.out ⟨by omega, by omega, by rw [hpq.out, e3]⟩)
                have hnq : (q : Int) ∉ x.ks.take m := fun h => by
                  have := (hg.out q hq).2 (.inr h)
                  rw [gq] at this; exact Bool.false_ne_true this
                have hCN := Lib.hid (show ∀ c : Nat, (x.ks.take (m + 1)).count (c : Int) ≤ 1 from fun c => by
                  rw [hcs.out]
                  by_cases e : (q : Int) = c
                  · rw [if_pos e, ← e, List.count_eq_zero.2 hnq]; omega
                  · rw [if_neg e]; exact hC1.out c)
                have hgN := Lib.hid (show ∀ c, c < l.length → ((decide (c = q) || g c) = true ↔ (∃ j, j < k ∧ (c : Int) ∈ ksOf l j) ∨ (c : Int) ∈ x.ks.take (m + 1)) from fun c hc => by
                  rw [hms.out, Bool.or_eq_true, decide_eq_true_iff, hg.out c hc]
                  constructor
                  · rintro (h | h | h)
                    · exact .inr (.inr (by omega))
                    · exact .inl h
                    · exact .inr (.inl h)
                  · rintro (h | h | h)
                    · exact .inr (.inl h)
                    · exact .inr (.inr h)
                    · exact .inl (by omega))
                rw [e3] at d3
                clear e3 gq hnq
                go_wp2_with fail
                exact ⟨⟨m + 1, fun c => decide (c = q) || g c, by omega, by go_num, by go_num, hBN, hCN, hgN, (setCell_heap _ hrow2).trans (by rw [row_set]), hbi.setCell (p := ⟨w.heap.size, q, none⟩) (Nat.le_refl _) _, by simpa using hgi⟩, by simp [intOf]; omega⟩
              · have hR := Lib.hid (hF.out (fun h => by have := (h.2.2 _ hmem).2.2; rw [hpq.out] at this; exact e3 this))
                have e3' : (y2.pa == (k : Int)) = false := intNe e3
                have e3'' : (y2.pa != (k : Int)) = true := by rw [bne, e3']; rfl
                clear e3 gq
                go_wp2_with fail
                go_ret
                exact ⟨ret_bool hR.out.symm, hbi⟩
            · rw [gq] at u0
              have hR := Lib.hid (rightB_no (fun H : RightP l => by
                rcases (hg.out q hq).1 gq with ⟨j, hj, hm⟩ | hm
                · have hjl : j < l.length := by omega
                  rw [ksOf_at hjl] at hm
                  have e1 := (H.kids j _ (List.getElem?_eq_getElem hjl) _ hm).2.2
                  have e2 := (H.kids k x hxk _ hmem).2.2
                  omega
                · have h1 := (H.okP k x hxk).2.1 q
                  have h2 := hcs.out q
                  have h3 := List.count_pos_iff.2 hm
                  have h4 := (List.take_sublist (m + 1) x.ks).count_le (q : Int)
                  rw [if_pos rfl] at h2
                  omega))
              clear gq
              go_wp2_with fail
              go_ret
              exact ⟨ret_bool hR.out.symm, hbi⟩
          · obtain rfl : m = x.ks.length := by omega
            have hNN := Lib.hid (hN.out ⟨⟨h4, by omega, by omega⟩, fun c => by have := hC1.out c; rwa [List.take_of_length_le (Nat.le_refl _)] at this, by have := hB.out; rwa [List.take_of_length_le (Nat.le_refl _)] at this⟩)
            have hgN := Lib.hid (show ∀ c, c < l.length → (g c = true ↔ ∃ j, j < k + 1 ∧ (c : Int) ∈ ksOf l j) from fun c hc => by
              rw [hg.out c hc, List.take_of_length_le (Nat.le_refl _)]
              constructor
              · rintro (⟨j, hj, h⟩ | h)
                · exact ⟨j, by omega, h⟩
                · exact ⟨k, by omega, by rw [hksk.out]; exact h⟩
              · rintro ⟨j, hj, h⟩
                by_cases e : j = k
                · subst e; rw [hksk.out] at h; exact .inr h
                · exact .inl ⟨j, by omega, h⟩)
            go_wp2_with fail
            go_roundw
            case rel => exact ⟨k + 1, M + 1 - x.ks.length, g, by omega, by go_num, rfl, by omega, by omega, hME, hNN, hgN, hrow2, hbi, hgi⟩
            case measure => simp [intOf]; omega
      · have he : e = 0 := by rw [hee.out, if_neg h7]
        subst he
        have h7' : decide (0 ≤ x.pa) = false := decide_eq_false h7
        clear hee
        go_wp2_with fail
        refine (one_any x (.slice aa x.ats.length acap) (.slice ka x.ks.length kcap) z2 (Nat.le_trans z3 (by omega)) z1 _ hat hks (fun a ha => (z4 a ha).2)).mono ?_
        rintro e w' ⟨rfl, hb5⟩
        have y3 := cellK hb5 (by omega) x3
        have y4 := cellK hb5 (by omega) x4
        have hbW := hb1.trans (hb5.mono (by omega))
        have hrW := (hb5.mono (by omega : wr.heap.size ≤ _)).block w.heap.size hgw
        have hrW1 := hba.block w.heap.size hgw
        rw [hrW1, hrow] at hrW
        replace hks := hks.kept hb5
        have hgW := hb5.size
        rw [HF.out]
        go_wp2_with fail
        go_loopw [3, 67] (fun mt i wi => ∃ (m : Nat) (g : Nat → Bool), m ≤ x.ks.length ∧ i = .int .i64 m ∧ mt = .int .i64 (M + 0 - m) ∧ Hid (∀ c ∈ x.ks.take m, 0 ≤ c ∧ c < l.length ∧ paOf l c = k) ∧ Hid (∀ c : Nat, (x.ks.take m).count (c : Int) ≤ 1) ∧
          Hid (∀ c, c < l.length → (g c = true ↔ (∃ j, j < k ∧ (c : Int) ∈ ksOf l j) ∨ (c : Int) ∈ x.ks.take m)) ∧ wi.heap[w.heap.size]? = some (.cells (row l.length g) 4 (0, 0)) ∧ Below w.heap.size w wi ∧ w.heap.size < wi.heap.size) (fun _ i _ => x.ks.length - (intOf i).toNat)
        case atStart => exact ⟨0, f, Nat.zero_le _, rfl, by go_num, Lib.hid (by simp), Lib.hid (by simp), Lib.hid (fun c hc => by rw [hf.out c hc]; simp), hrW, hbW, by omega⟩
        case round =>
          obtain ⟨m, g, hm, rfl, rfl, hB, hC1, hg, hrow2, hbi, hgi⟩ := hrel
          by_cases hlm : m < x.ks.length
          · obtain ⟨kb, ko, kcap', kv, khb, kc0⟩ := (hks0.kept hbi).at hlm
            cases kv
            have hmem := List.getElem_mem hlm
            have hBT := Lib.hid (fun h => take_mem_snoc (P := fun c : Int => 0 ≤ c ∧ c < l.length ∧ paOf l c = k) hlm hB.out h)
            have hcs := Lib.hid (fun c : Int => count_snoc c hlm)
            have hms := Lib.hid (show ∀ c : Int, c ∈ x.ks.take (m + 1) ↔ c ∈ x.ks.take m ∨ c = x.ks[m] from fun c => by
              rw [List.take_add_one, List.mem_append, List.getElem?_eq_getElem hlm]; simp)
            generalize x.ks[m] = c at *
            have hm0 : (0 : Int) ≤ (m : Int) := by omega
            have hm1 : (m : Int) < (x.ks.length : Int) := by omega
            have hz3 : (x.ks.length : Int) ≤ 1000000000000000 := by omega
            by_cases e1 : c < 0
            · have hR := Lib.hid (hF.out (fun h => by have := (h.2.2 c hmem).1; omega))
              go_wp2_with fail
              go_ret
              exact ⟨ret_bool hR.out.symm, hbi⟩
            have e1' : decide (c < 0) = false := decide_eq_false e1
            by_cases e2 : (l.length : Int) ≤ c
            · have hR := Lib.hid (hF.out (fun h => by have := (h.2.2 c hmem).2.1; omega))
              go_wp2_with fail
              go_ret
              exact ⟨ret_bool hR.out.symm, hbi⟩
            have e2' : decide ((l.length : Int) ≤ c) = false := decide_eq_false e2
            obtain ⟨q, rfl⟩ := Int.eq_ofNat_of_zero_le (show 0 ≤ c by omega)
            have hq : q < l.length := by omega
            have u0 : wr.cell? ⟨w.heap.size, q, none⟩ = some (.bool (g q)) := by simp [World.cell?, hrow2, row_get g hq]
            have u1 : wr.frozen? ⟨w.heap.size, q, none⟩ = false := by simp [World.frozen?, hrow2]
            obtain ⟨b2, o2, cap2, va2, vk2, hv2, hb2, d0, d1, d2, d3, d4, _, _⟩ := (hU.kept hbi).at hq
            cases hv2
            have hpq := Lib.hid (paOf_at hq)
            generalize l[q] = y2 at *
            have hq0 : (0 : Int) ≤ (q : Int) := by omega
            have hq1 : (q : Int) < (l.length : Int) := by omega
            cases gq : g q
            · rw [gq] at u0
              by_cases e3 : y2.pa = k
              · have hBN := Lib.hid (hBT.out ⟨by omega, by omega, by rw [hpq.out, e3]⟩)
                have hnq : (q : Int) ∉ x.ks.take m := fun h => by
                  have := (hg.out q hq).2 (.inr h)
                  rw [gq] at this; exact Bool.false_ne_true this
                have hCN := Lib.hid (show ∀ c : Nat, (x.ks.take (m + 1)).count (c : Int) ≤ 1 from fun c => by
                  rw [hcs.out]
                  by_cases e : (q : Int) = c
                  · rw [if_pos e, ← e, List.count_eq_zero.2 hnq]; omega
                  · rw [if_neg e]; exact hC1.out c)
                have hgN := Lib.hid (show ∀ c, c < l.length → ((decide (c = q) || g c) = true ↔ (∃ j, j < k ∧ (c : Int) ∈ ksOf l j) ∨ (c : Int) ∈ x.ks.take (m + 1)) from fun c hc => by
                  rw [hms.out, Bool.or_eq_true, decide_eq_true_iff, hg.out c hc]
                  constructor
                  · rintro (h | h | h)
                    · exact .inr (.inr (by omega))
                    · exact .inl h
                    · exact .inr (.inl h)
                  · rintro (h | h | h)
                    · exact .inr (.inl h)
                    · exact .inr (.inr h)
                    · exact .inl (by omega))
                rw [e3] at d3
                clear e3 gq hnq
                go_wp2_with fail
                exact ⟨⟨m + 1, fun c => decide (c = q) || g c, by omega, by go_num, by go_num, hBN, hCN, hgN, (setCell_heap _ hrow2).trans (by rw [row_set]), hbi.setCell (p := ⟨w.heap.size, q, none⟩) (Nat.le_refl _) _, by simpa using hgi⟩, by simp [intOf]; omega⟩
              · have hR := Lib.hid (hF.out (fun h => by have := (h.2.2 _ hmem).2.2; rw [hpq.out] at this; exact e3 this))
                have e3' : (y2.pa == (k : Int)) = false := intNe e3
                have e3'' : (y2.pa != (k : Int)) = true := by rw [bne, e3']; rfl
                clear e3 gq
                go_wp2_with fail
                go_ret
                exact ⟨ret_bool hR.out.symm, hbi⟩
            · rw [gq] at u0
              have hR := Lib.hid (rightB_no (fun H : RightP l => by
                rcases (hg.out q hq).1 gq with ⟨j, hj, hm⟩ | hm
                · have hjl : j < l.length := by omega
                  rw [ksOf_at hjl] at hm
                  have e1 := (H.kids j _ (List.getElem?_eq_getElem hjl) _ hm).2.2
                  have e2 := (H.kids k x hxk _ hmem).2.2
                  omega
                · have h1 := (H.okP k x hxk).2.1 q
                  have h2 := hcs.out q
                  have h3 := List.count_pos_iff.2 hm
                  have h4 := (List.take_sublist (m + 1) x.ks).count_le (q : Int)
                  rw [if_pos rfl] at h2
                  omega))
              clear gq
              go_wp2_with fail
              go_ret
              exact ⟨ret_bool hR.out.symm, hbi⟩
          · obtain rfl : m = x.ks.length := by omega
            have hNN := Lib.hid (hN.out ⟨⟨h4, by omega, by omega⟩, fun c => by have := hC1.out c; rwa [List.take_of_length_le (Nat.le_refl _)] at this, by have := hB.out; rwa [List.take_of_length_le (Nat.le_refl _)] at this⟩)
            have hgN := Lib.hid (show ∀ c, c < l.length → (g c = true ↔ ∃ j, j < k + 1 ∧ (c : Int) ∈ ksOf l j) from fun c hc => by
              rw [hg.out c hc, List.take_of_length_le (Nat.le_refl _)]
              constructor
              · rintro (⟨j, hj, h⟩ | h)
                · exact ⟨j, by omega, h⟩
                · exact ⟨k, by omega, by rw [hksk.out]; exact h⟩
              · rintro ⟨j, hj, h⟩
                by_cases e : j = k
                · subst e; rw [hksk.out] at h; exact .inr h
                · exact .inl ⟨j, by omega, h⟩)
            go_wp2_with fail
            go_roundw
            case rel => exact ⟨k + 1, M + 0 - x.ks.length, g, by omega, by go_num, rfl, by omega, by omega, hME, hNN, hgN, hrow2, hbi, hgi⟩
            case measure => simp [intOf]; omega
    · obtain rfl : k = l.length := by omega
      have hUr := hU.kept hbel
      by_cases hM0 : M = 0
      case neg =>
        have hR := Lib.hid (rightB_no (fun H : RightP l => by have := H.sum; have := hM.out; omega))
        have hM0' : (M == 0) = false := intNe hM0
        have hM0'' : (M != 0) = true := by rw [bne, hM0']; rfl
        go_wp2_with fail
        go_ret
        exact ⟨ret_bool hR.out.symm, hbel⟩
      have hOnce := Lib.hid ((once_iff l (fun i x hx => (hA.out i (List.getElem?_eq_some_iff.1 hx).1 x hx).2.2) (fun i x hx => (hA.out i (List.getElem?_eq_some_iff.1 hx).1 x hx).1.2.2)).2 ⟨fun i x hx => (hA.out i (List.getElem?_eq_some_iff.1 hx).1 x hx).2.1, by have := hM.out; omega⟩)
      subst hM0
      go_wp2_with fail
      go_loop [105] (fun i => ∃ k : Nat, k ≤ l.length ∧ i = .int .i64 k ∧ Hid (∀ i : Nat, i < k → upN l (l.length + 1) i < 0)) (fun i => l.length - (intOf i).toNat)
      case atStart => exact ⟨0, Nat.zero_le _, rfl, Lib.hid (fun j hj => by omega)⟩
      case round =>
        obtain ⟨k, hk, rfl, hC⟩ := hrel
        by_cases hlt : k < l.length
        · have hk1 : (k : Int) < (l.length : Int) := by omega
          have hCN := Lib.hid (fun (h : upN l (l.length + 1) k < 0) => show ∀ i : Nat, i < k + 1 → upN l (l.length + 1) i < 0 from fun j hj => by
            by_cases e : j = k
            · rw [e]; exact h
            · exact hC.out j (by omega))
          have hCF := Lib.hid (fun (h : ¬ upN l (l.length + 1) k < 0) => rightB_no (fun H : RightP l => h (H.climb k hlt)))
          go_wp2_with fail
          go_loop [10, 11] (fun c n => ∃ (m : Nat) (z : Int), m ≤ l.length + 1 ∧ n = .int .i64 m ∧ c = .int .i64 z ∧ z < l.length ∧ Hid (upN l (l.length + 1 - m) z = upN l (l.length + 1) k)) (fun _ n => l.length + 1 - (intOf n).toNat)
          case atStart => exact ⟨0, k, Nat.zero_le _, rfl, rfl, hk1, Lib.hid rfl⟩
          case round =>
            obtain ⟨m, z, hm, rfl, rfl, hzl, hD⟩ := hrel
            by_cases f1 : z < 0
            · have hNN := Lib.hid (hCN.out (by rw [← hD.out, upN_neg l f1]; exact f1))
              have f1' : decide (0 ≤ z) = false := decide_eq_false (by omega)
              go_wp2_with fail
              exact ⟨⟨k + 1, by omega, by go_num, hNN⟩, by simp [intOf]; omega⟩
            have f1' : 0 ≤ z := by omega
            by_cases f2 : m ≤ l.length
            · obtain ⟨q, rfl⟩ := Int.eq_ofNat_of_zero_le f1'
              have hq : q < l.length := by omega
              have hDN := Lib.hid (show upN l (l.length + 1 - (m + 1)) l[q].pa = upN l (l.length + 1) k by
                rw [← hD.out, show l.length + 1 - m = (l.length + 1 - (m + 1)) + 1 by omega, upN_step l f1', paOf_at hq])
              obtain ⟨b2, o2, cap2, va2, vk2, hv2, hb2, d0, d1, d2, d3, d4, _, _⟩ := hUr.at hq
              cases hv2
              have hpal := (hA.out q hq _ (List.getElem?_eq_getElem hq)).1.2.2
              generalize l[q] = y2 at *
              have hq0 : (0 : Int) ≤ (q : Int) := by omega
              have hq1 : (q : Int) < (l.length : Int) := by omega
              have f2' : decide ((l.length : Int) < (m : Int)) = false := decide_eq_false (by omega)
              go_wp2_with fail
              exact ⟨⟨m + 1, y2.pa, by omega, by go_num, rfl, hpal, hDN⟩, by simp [intOf]; omega⟩
            · obtain rfl : m = l.length + 1 := by omega
              have hR := Lib.hid (hCF.out (by rw [← hD.out, Nat.sub_self, show upN l 0 z = z by unfold upN; rfl]; omega))
              have f2' : (l.length : Int) < ((l.length + 1 : Nat) : Int) := by omega
              go_wp2_with fail
              go_ret
              exact ⟨ret_bool hR.out.symm, hbel⟩
        · obtain rfl : k = l.length := by omega
          have hR := Lib.hid (rightB_yes (l := l) ⟨hpos, by omega, hTT.out, fun i x hx => (hA.out i (List.getElem?_eq_some_iff.1 hx).1 x hx).1, fun i x hx => (hA.out i (List.getElem?_eq_some_iff.1 hx).1 x hx).2.2, hOnce.out, hC.out⟩)
          go_wp2_with fail
          go_ret
          exact ⟨ret_bool hR.out.symm, hbel⟩
end Go.Proofs.YtafbghlldlconaaGreatDoor

/-
  GOING UP IN A RIGHT DOCUMENT: has, Top, Up, Within: the walks.
-/
namespace Go.Proofs.YtafbghlldlconaaGreatDoor
set_option linter.unusedVariables false
set_option linter.unusedSimpArgs false
open Go.RowKit PT

set_option maxHeartbeats 4000000 in
set_option maxRecDepth 100000 in
theorem has_any (l : List Nd) (v : Value) (id : Int) (hl : l.length ≤ 1000000000000000000) (hz : ∀ x ∈ l, Fits x) (w : World) (hU : Nodes l v w) :
    Calls Tryz.prog 94 #[v, .int .i64 id] w fun e w' => e = .returned (.bool (hasB l id)) ∧ Below w.heap.size w w' := by
  obtain ⟨a, cap, rfl⟩ := hU.len
  by_cases h0 : 0 ≤ id
  case neg =>
    have hR := Lib.hid (show hasB l id = false by unfold hasB; rw [decide_eq_false h0]; rfl)
    have h0' : decide (0 ≤ id) = false := decide_eq_false h0
    go_enter Tryz.func94, Tryz.ntmps94
    go_wp2_with fail
    go_ret
    exact ⟨ret_bool hR.out.symm, Below.refl _ _⟩
  by_cases h1 : id < l.length
  case neg =>
    have hR := Lib.hid (show hasB l id = false by unfold hasB; rw [decide_eq_false h1, decide_eq_true h0]; rfl)
    have h1' : decide (id < (l.length : Int)) = false := decide_eq_false h1
    go_enter Tryz.func94, Tryz.ntmps94
    go_wp2_with fail
    go_ret
    exact ⟨ret_bool hR.out.symm, Below.refl _ _⟩
  have hR := Lib.hid (show hasB l id = rightB l by unfold hasB; rw [decide_eq_true h1, decide_eq_true h0]; rfl)
  go_enter Tryz.func94, Tryz.ntmps94
  go_wp2_with fail
  refine (right_any l _ hl hz _ hU).mono ?_
  rintro e w' ⟨rfl, hb⟩
  go_wp2_with fail
  go_ret
  exact ⟨ret_bool hR.out.symm, hb⟩
set_option maxHeartbeats 4000000 in
set_option maxRecDepth 100000 in
theorem refHas10_any (l : List Nd) (v : Value) (id : Int) (hl : l.length ≤ 1000000000000000000) (hz : ∀ x ∈ l, Fits x) (w : World) (hU : Nodes l v w) :
    Calls Tryz.prog 31 #[v, .int .i64 id] w fun e w' => e = .returned (.bool (hasB l id)) ∧ Below w.heap.size w w' := by
  obtain ⟨a, cap, rfl⟩ := hU.len
  by_cases h0 : 0 ≤ id
  case neg =>
    have hR := Lib.hid (show hasB l id = false by unfold hasB; rw [decide_eq_false h0]; rfl)
    have h0' : decide (0 ≤ id) = false := decide_eq_false h0
    go_enter Tryz.func31, Tryz.ntmps31
    go_wp2_with fail
    go_ret
    exact ⟨ret_bool hR.out.symm, Below.refl _ _⟩
  by_cases h1 : id < l.length
  case neg =>
    have hR := Lib.hid (show hasB l id = false by unfold hasB; rw [decide_eq_false h1, decide_eq_true h0]; rfl)
    have h1' : decide (id < (l.length : Int)) = false := decide_eq_false h1
    go_enter Tryz.func31, Tryz.ntmps31
    go_wp2_with fail
    go_ret
    exact ⟨ret_bool hR.out.symm, Below.refl _ _⟩
  have hR := Lib.hid (show hasB l id = rightB l by unfold hasB; rw [decide_eq_true h1, decide_eq_true h0]; rfl)
  go_enter Tryz.func31, Tryz.ntmps31
  go_wp2_with fail
  refine (refRight_any l _ hl hz _ hU).mono ?_
  rintro e w' ⟨rfl, hb⟩
  go_wp2_with fail
  go_ret
  exact ⟨ret_bool hR.out.symm, hb⟩
end Go.Proofs.YtafbghlldlconaaGreatDoor

/-
  THE ORDER OF A RIGHT DOCUMENT: tree.order: the walk.
-/
namespace Go.Proofs.YtafbghlldlconaaGreatDoor
set_option linter.unusedVariables false
set_option linter.unusedSimpArgs false
open Go.RowKit PT

def ints (t : List Int) : List Value := t.map (Value.int .i64)
/-- 'out = append(out, l...)' of one-cell elements -/
theorem wpList_append_row {W : World} {ops : Array Oper} {rest : List Oper} {o : Oper} {a : Act} {Q : Exit → Act → World → Prop} (hgd : o.guard = none) (s x : Operand) (S T : TypeId) {z : Value} {bytes : Nat}
    (ho : o.op = .call { callee := .builtin .append, args := #[s, x], argTypes := #[S, S] }) (hS : Tryz.prog.underlying S = some (.slice T))
    (hinfo : (Tryz.prog.info? T).map (fun i => (i.zero, i.size, i.bytes)) = some (some z, 1, bytes)) (hz : z.cells.size = 1) (hby : bytes ≤ 4096)
    {base : Nat} {l : List Value} {v : Value} (hs : a.eval s = v) {ad : Addr} {cap : Nat} {m : Nat} {news : List Value} (hx : a.eval x = .slice (some ad) m cap) (hm : news.length = m)
    (hnews : ∀ j u, news[j]? = some u → W.cell? (ad.add j) = some u) (hu : ∀ u ∈ news, u.oneCell' = true)
    (hown : OV base T l v W) (hlen : l.length + news.length < 17179869184) (hbase : base ≤ W.heap.size)
    (h : ∀ v' w', OV base T (l ++ news) v' w' → Below base W w' → wpList Tryz.prog ops Q rest (a.put o.dst v') w') : wpList Tryz.prog ops Q (o :: rest) a W := by
  subst hm
  obtain ⟨i0, hi, hz0, hz1, hz2⟩ := info_parts hinfo
  refine wpList_append_own _ hgd s x S ho base T i0 z 1 bytes hS hi hz0 hz1 hz2 hz (by decide) v l.length l hs hown ad news.length cap news hx (by omega) hnews hu ?_ ?_ hbase ?_
  · unfold maxLen; omega
  · have : (l.length + news.length) * bytes ≤ (l.length + news.length) * 4096 := Nat.mul_le_mul_left _ hby
    omega
  · intro v' w1 h1 h2 _
    refine h v' w1 ?_ (ov_below hown h2 hbase)
    unfold OV
    rw [List.length_append]
    exact h1
theorem info_i64 : (Tryz.prog.info? 3).map (fun i => (i.zero, i.size, i.bytes)) = some (some (.int .i64 0), 1, 8) := by kernel_rfl
end Go.Proofs.YtafbghlldlconaaGreatDoor

/-
  A NODE OF A RIGHT DOCUMENT: tree.Attr, ref10.Attr, tree.Order: the walks.
-/
namespace Go.Proofs.YtafbghlldlconaaGreatDoor
set_option linter.unusedVariables false
set_option linter.unusedSimpArgs false
open Go.RowKit PT

def atsOf (l : List Nd) (i : Int) : List At := match l[i.toNat]? with
  | some x => x.ats
  | none => []
theorem atsOf_at {l : List Nd} {k : Nat} (hk : k < l.length) : atsOf l k = l[k].ats := by
  unfold atsOf; rw [Int.toNat_natCast, List.getElem?_eq_getElem hk]
theorem one_ats {x : Nd} (h : oneB x = true) : x.ats.length ≤ 40 := by
  unfold oneB at h
  split at h
  · rw [Bool.and_eq_true, decide_eq_true_iff] at h; omega
  · rw [Bool.and_eq_true, Bool.and_eq_true, Bool.and_eq_true, decide_eq_true_iff, decide_eq_true_iff] at h; omega
noncomputable def attF (l : List Nd) (id : Int) (s : ByteArray) : Option ByteArray := if hasB l id = true then atO (atsOf l id) s else none
theorem ov_base {B B' : Nat} {T : TypeId} {t : List Value} {v : Value} {w : World} (h : OV B T t v w) (hb : B' ≤ B) : OV B' T t v w := by
  obtain ⟨h1, h2 | ⟨g, cap, cur, h3, h4, h5⟩⟩ := h
  · exact ⟨h1, .inl h2⟩
  · exact ⟨h1, .inr ⟨g, cap, cur, h3, Nat.le_trans hb h4, h5⟩⟩
set_option maxHeartbeats 4000000 in
set_option maxRecDepth 100000 in
theorem attr_any (l : List Nd) (v : Value) (id : Int) (s : ByteArray) (hl : l.length ≤ 1000000000000000000) (hz : ∀ x ∈ l, Fits x) (w : World) (hU : Nodes l v w) :
    Calls Tryz.prog 58 #[v, .int .i64 id, .string s] w fun e w' => e = .returned (atT (attF l id s)) ∧ Below w.heap.size w w' := by
  obtain ⟨a, cap, rfl⟩ := hU.len
  cases hh : hasB l id
  · have HH := Lib.hid hh
    have hR := Lib.hid (show attF l id s = none by unfold attF; rw [hh]; rfl)
    clear hh
    go_enter Tryz.func58, Tryz.ntmps58
    go_wp2_with fail
    refine (has_any l _ id hl hz _ hU).mono ?_
    rintro e w' ⟨rfl, hb⟩
    rw [HH.out]
    go_wp2_with fail
    go_ret2
    exact ⟨by rw [hR.out]; rfl, hb⟩
  have HH := Lib.hid hh
  have hR0 := Lib.hid (show attF l id s = atO (atsOf l id) s by unfold attF; rw [hh]; rfl)
  obtain ⟨h0, h1, hRP⟩ := (hasB_iff l id).1 hh
  obtain ⟨K, rfl⟩ := Int.eq_ofNat_of_zero_le h0
  have hkl : K < l.length := by omega
  clear hh
  go_enter Tryz.func58, Tryz.ntmps58
  go_wp2_with fail
  refine (has_any l _ _ hl hz _ hU).mono ?_
  rintro e w' ⟨rfl, hbW⟩
  rw [HH.out]
  have hgW := hbW.size
  obtain ⟨b, o, cap', va, vk, hv, hb, c0, c1, c2, c3, c4, hat, hks⟩ := (hU.kept hbW).at hkl
  cases hv
  have hae := Lib.hid (atsOf_at hkl)
  have hal := one_ats (hRP.node K _ (List.getElem?_eq_getElem hkl)).1
  generalize l[K] = x at *
  have hK0 : (0 : Int) ≤ (K : Int) := by omega
  have hK1 : (K : Int) < (l.length : Int) := by omega
  rcases fi_cases x.ats (isN s) with ⟨h, _⟩ | ⟨k, hk, h, _⟩
  · have hR := Lib.hid (show attF l (K : Nat) s = none by rw [hR0.out, hae.out, atO_none h])
    have HF := Lib.hid h
    clear h
    go_wp2_with fail
    refine (find_at x.ats _ s (by omega) _ hat).mono ?_
    rintro e w2 ⟨rfl, hb2⟩
    rw [HF.out]
    go_wp2_with fail
    go_ret2
    exact ⟨by rw [hR.out]; rfl, hbW.trans (hb2.mono hgW)⟩
  · have hR := Lib.hid (show attF l (K : Nat) s = some x.ats[k].v by rw [hR0.out, hae.out]; exact atO_some hk h)
    have HF := Lib.hid h
    clear h
    go_wp2_with fail
    refine (find_at x.ats _ s (by omega) _ hat).mono ?_
    rintro e w2 ⟨rfl, hb2⟩
    replace c2 := cellK hb2 hb c2
    obtain ⟨b9, o9, cap9, hv, _, hb9, hc0, hc1⟩ := (hat.kept hb2).at hk
    subst hv
    generalize x.ats[k] = y at *
    have hk0 : (0 : Int) ≤ (k : Int) := by omega
    have hk1 : (k : Int) < (x.ats.length : Int) := by omega
    rw [HF.out]
    go_wp2_with fail
    go_ret2
    exact ⟨by rw [hR.out]; rfl, hbW.trans (hb2.mono hgW)⟩
noncomputable def ordB (l : List Nd) (id : Int) : List Int := if hasB l id = true then ord l id else []
end Go.Proofs.YtafbghlldlconaaGreatDoor
