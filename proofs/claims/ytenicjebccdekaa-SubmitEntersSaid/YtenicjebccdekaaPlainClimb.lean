/-
  GOING UP IN A RIGHT DOCUMENT: plain laws.
-/
import Derived.Test.YtenicjebccdekaaPlainRight
namespace Go.Proofs.Ytenicjebccdekaa
set_option linter.unusedVariables false
set_option linter.unusedSimpArgs false
open Go.RowKit PT

noncomputable def hasB (l : List Nd) (id : Int) : Bool := decide (0 ≤ id) && (decide (id < l.length) && rightB l)
/-- from a node upward: the first answer -/
def climbF {β : Type} (l : List Nd) (f : Int → Option β) (d : β) : Nat → Int → β
  | 0, _ => d
  | n + 1, k => if k < 0 then d else match f k with
    | some b => b
    | none => climbF l f d n (paOf l k)
def cl {β : Type} (l : List Nd) (f : Int → Option β) (d : β) (k : Int) : β := climbF l f d (l.length + 1) k
def depF (l : List Nd) : Nat → Int → Nat
  | 0, _ => 0
  | n + 1, k => if k < 0 then 0 else depF l n (paOf l k) + 1
/-- so many steps lead out of it -/
def dep (l : List Nd) (k : Int) : Nat := depF l (l.length + 1) k
theorem climbF_neg {β : Type} (l : List Nd) (f : Int → Option β) (d : β) {k : Int} (h : k < 0) : ∀ n, climbF l f d n k = d
  | 0 => rfl
  | n + 1 => if_pos h
theorem climbF_stab {β : Type} (l : List Nd) (f : Int → Option β) (d : β) : ∀ (n : Nat) (k : Int), upN l n k < 0 → climbF l f d (n + 1) k = climbF l f d n k
  | 0, k, h => by
    have h' : k < 0 := by unfold upN at h; exact h
    rw [climbF_neg l f d h', climbF_neg l f d h']
  | n + 1, k, h => by
    by_cases hk : k < 0
    · rw [climbF_neg l f d hk, climbF_neg l f d hk]
    · rw [upN_step l (by omega)] at h
      have ih := climbF_stab l f d n (paOf l k) h
      show (if k < 0 then d else match f k with | some b => b | none => climbF l f d (n + 1) (paOf l k)) = (if k < 0 then d else match f k with | some b => b | none => climbF l f d n (paOf l k))
      rw [ih]
theorem depF_neg (l : List Nd) {k : Int} (h : k < 0) : ∀ n, depF l n k = 0
  | 0 => rfl
  | n + 1 => if_pos h
theorem depF_stab (l : List Nd) : ∀ (n : Nat) (k : Int), upN l n k < 0 → depF l (n + 1) k = depF l n k
  | 0, k, h => by
    have h' : k < 0 := by unfold upN at h; exact h
    rw [depF_neg l h', depF_neg l h']
  | n + 1, k, h => by
    by_cases hk : k < 0
    · rw [depF_neg l hk, depF_neg l hk]
    · rw [upN_step l (by omega)] at h
      have ih := depF_stab l n (paOf l k) h
      show (if k < 0 then 0 else depF l (n + 1) (paOf l k) + 1) = (if k < 0 then 0 else depF l n (paOf l k) + 1)
      rw [ih]
theorem cl_neg {β : Type} (l : List Nd) (f : Int → Option β) (d : β) {k : Int} (h : k < 0) : cl l f d k = d := climbF_neg l f d h _
theorem RightP.out {l : List Nd} (h : RightP l) {k : Int} (h0 : 0 ≤ k) (h1 : k < l.length) : upN l l.length (paOf l k) < 0 := by
  obtain ⟨q, rfl⟩ := Int.eq_ofNat_of_zero_le h0
  have := h.climb q (by omega)
  rwa [upN_step l h0] at this
theorem cl_step {β : Type} {l : List Nd} (h : RightP l) (f : Int → Option β) (d : β) {k : Int} (h0 : 0 ≤ k) (h1 : k < l.length) : cl l f d k = match f k with
    | some b => b
    | none => cl l f d (paOf l k) := by
  have hs := climbF_stab l f d l.length (paOf l k) (h.out h0 h1)
  show (if k < 0 then d else match f k with | some b => b | none => climbF l f d l.length (paOf l k)) = match f k with | some b => b | none => climbF l f d (l.length + 1) (paOf l k)
  rw [if_neg (by omega), hs]
theorem cl_hit {β : Type} {l : List Nd} (h : RightP l) (f : Int → Option β) (d : β) {k : Int} (h0 : 0 ≤ k) (h1 : k < l.length) {b : β} (hf : f k = some b) : cl l f d k = b := by rw [cl_step h f d h0 h1, hf]
theorem cl_go {β : Type} {l : List Nd} (h : RightP l) (f : Int → Option β) (d : β) {k : Int} (h0 : 0 ≤ k) (h1 : k < l.length) (hf : f k = none) : cl l f d k = cl l f d (paOf l k) := by rw [cl_step h f d h0 h1, hf]
theorem dep_lt {l : List Nd} (h : RightP l) {k : Int} (h0 : 0 ≤ k) (h1 : k < l.length) : dep l (paOf l k) < dep l k := by
  have hs := depF_stab l l.length (paOf l k) (h.out h0 h1)
  show depF l (l.length + 1) (paOf l k) < (if k < 0 then 0 else depF l l.length (paOf l k) + 1)
  rw [if_neg (by omega), hs]
  omega
/-- where going up ends -/
def topF (l : List Nd) (k : Int) : Int := cl l (fun k => if paOf l k < 0 then some k else none) (-1) k
def nmOf (l : List Nd) (i : Int) : ByteArray := match l[i.toNat]? with
  | some x => x.nm
  | none => ⟨#[]⟩
theorem nmOf_at {l : List Nd} {k : Nat} (hk : k < l.length) : nmOf l k = l[k].nm := by
  unfold nmOf; rw [Int.toNat_natCast, List.getElem?_eq_getElem hk]
/-- the nearest node of a name, upward -/
def nearF (l : List Nd) (s : ByteArray) (k : Int) : Int := cl l (fun k => if nmOf l k = s then some k else none) (-1) k
/-- is a node, or one that it is within, another one? -/
def withinF (l : List Nd) (o : Int) (k : Int) : Bool := cl l (fun k => if k = o then some true else none) false k
noncomputable def topB (l : List Nd) (id : Int) : Int := if hasB l id = true then topF l id else -1
noncomputable def upB (l : List Nd) (id : Int) (s : ByteArray) : Int := if hasB l id = true then nearF l s (paOf l id) else -1
theorem hasB_iff (l : List Nd) (id : Int) : hasB l id = true ↔ 0 ≤ id ∧ id < l.length ∧ RightP l := by
  unfold hasB
  rw [Bool.and_eq_true, Bool.and_eq_true, decide_eq_true_iff, decide_eq_true_iff, rightB_iff]
theorem topF_go {l : List Nd} (h : RightP l) {k : Int} (h0 : 0 ≤ k) (h1 : k < l.length) (hp : 0 ≤ paOf l k) : topF l k = topF l (paOf l k) := cl_go h _ _ h0 h1 (if_neg (by omega))
theorem topF_end {l : List Nd} (h : RightP l) {k : Int} (h0 : 0 ≤ k) (h1 : k < l.length) (hp : paOf l k < 0) : topF l k = k := cl_hit h _ _ h0 h1 (if_pos hp)
theorem nearF_neg (l : List Nd) (s : ByteArray) {k : Int} (h : k < 0) : nearF l s k = -1 := cl_neg l _ _ h
theorem nearF_hit {l : List Nd} (h : RightP l) {s : ByteArray} {k : Int} (h0 : 0 ≤ k) (h1 : k < l.length) (hn : nmOf l k = s) : nearF l s k = k := cl_hit h _ _ h0 h1 (if_pos hn)
theorem nearF_go {l : List Nd} (h : RightP l) {s : ByteArray} {k : Int} (h0 : 0 ≤ k) (h1 : k < l.length) (hn : nmOf l k ≠ s) : nearF l s k = nearF l s (paOf l k) := cl_go h _ _ h0 h1 (if_neg hn)
theorem withinF_neg (l : List Nd) (o : Int) {k : Int} (h : k < 0) : withinF l o k = false := cl_neg l _ _ h
theorem withinF_hit {l : List Nd} (h : RightP l) {o k : Int} (h0 : 0 ≤ k) (h1 : k < l.length) (hn : k = o) : withinF l o k = true := cl_hit h _ _ h0 h1 (if_pos hn)
theorem withinF_go {l : List Nd} (h : RightP l) {o k : Int} (h0 : 0 ≤ k) (h1 : k < l.length) (hn : k ≠ o) : withinF l o k = withinF l o (paOf l k) := cl_go h _ _ h0 h1 (if_neg hn)
end Go.Proofs.Ytenicjebccdekaa
