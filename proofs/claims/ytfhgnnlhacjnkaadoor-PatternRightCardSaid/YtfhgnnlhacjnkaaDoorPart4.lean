import Derived.Test.YtfhgnnlhacjnkaaDoorPart3
import Derived.Test.YtfhgnnlhacjnkaaDoorRows
import Derived.Test.YtfhgnnlhacjnkaaDoorCards
import Derived.Test.YtfhgnnlhacjnkaaDoorTie
import Derived.PinnedBridge
import Derived.Lib.LaidU8T
import Derived.Lib.LaidIn
import Derived.Deep.DeepHandedRow
import Derived.Deep.DeepWitnessRowRef
import Derived.WalkKit
import Derived.Laws.CopyRow
import Derived.Deep.RegionHeld3
import Derived.Deep.CutRange
import Derived.Deep.DeepCutAuto
import Derived.Deep.QuietTactic
import Derived.BigQuiet
import Derived.WalkSpells
import Derived.Test.YtfhgnnlhacjnkaaDoorShelf
/-
  PLAIN LAWS ON PATTERNS (chapter 09): the places behind items, classes, numbers, atoms: no program in sight.
-/
namespace Go.Proofs.YtfhgnnlhacjnkaaDoor.PT
set_option linter.unusedVariables false
set_option linter.unusedSimpArgs false

/-- the places behind an item, items, a class -/
def itR (l : List Nat) : Option (List Nat) := (itemP l).map (·.2)
def isR (l : List Nat) : Option (List Nat) := (itemsF l).map (·.2)
def bdR (l : List Nat) : Option (List Nat) := (bodyP l).map (·.2)
def clR (l : List Nat) : Option (List Nat) := (classP l).map (·.2)
theorem itR_suf {l r : List Nat} (h : itR l = some r) : r <:+ l := by
  unfold itR at h
  obtain ⟨q, h1, h2⟩ := Option.map_eq_some_iff.1 h
  subst h2
  exact itemP_suf (sp := q.1) h1
theorem itR_len {l r : List Nat} (h : itR l = some r) : r.length < l.length := by
  unfold itR at h
  obtain ⟨q, h1, h2⟩ := Option.map_eq_some_iff.1 h
  subst h2
  exact itemP_len (sp := q.1) h1
theorem isR_nil : isR [] = none := rfl
theorem isR_end (r : List Nat) : isR (93 :: r) = some r := rfl
theorem isR_cons {c : Nat} {l : List Nat} (h : c ≠ 93) : isR (c :: l) = (match itR (c :: l) with
    | none => none
    | some r => isR r) := by
  unfold isR itR
  rw [itemsF_cons h]
  cases itemP (c :: l) with
  | none => rfl
  | some q =>
    obtain ⟨sp, r⟩ := q
    simp only [Option.map_some]
    cases itemsF r with
    | none => rfl
    | some q => rfl
theorem bdR_eq (l : List Nat) : bdR l = (match itR l with
    | none => none
    | some r => isR r) := by
  unfold bdR isR itR
  rw [bodyP_eq]
  cases itemP l with
  | none => rfl
  | some q =>
    obtain ⟨sp, r⟩ := q
    simp only [Option.map_some]
    cases itemsF r with
    | none => rfl
    | some q => rfl
theorem clR_nil : clR [] = none := rfl
theorem clR_not (l : List Nat) : clR (94 :: l) = bdR l := by
  unfold clR classP bdR
  simp only [if_true]
  cases bodyP l <;> rfl
theorem clR_is {c : Nat} {l : List Nat} (h : c ≠ 94) : clR (c :: l) = bdR (c :: l) := by
  unfold clR bdR
  rw [show classP (c :: l) = (bodyP (c :: l)).map fun q => (⟨q.1, false⟩, q.2) from if_neg h]
  cases bodyP (c :: l) <;> rfl
/-- digits: how many, and their number -/
def numC (l : List Nat) : Nat × Nat := match l with
  | [] => (0, 0)
  | a :: r => if digB a then (match r with
      | [] => (1, a - 48)
      | b :: _ => if digB b then (2, 10 * (a - 48) + (b - 48)) else (1, a - 48)) else (0, 0)
theorem numP_C (l : List Nat) : numP l = if (numC l).1 = 0 then none else some ((numC l).2, l.drop (numC l).1) := by
  cases l with
  | nil => rfl
  | cons a r =>
    by_cases ha : digB a = true
    · cases r with
      | nil => simp [numP, numC, ha]
      | cons b r =>
        by_cases hb : digB b = true
        · simp [numP, numC, ha, hb]
        · simp [numP, numC, ha, hb]
    · simp [numP, numC, ha]
theorem numC_le (l : List Nat) : (numC l).1 ≤ l.length ∧ (numC l).1 ≤ 2 ∧ (numC l).2 ≤ 99 := by
  cases l with
  | nil => exact ⟨Nat.le_refl _, by decide, by decide⟩
  | cons a r =>
    by_cases ha : digB a = true
    · have h1 : 48 ≤ a ∧ a ≤ 57 := by simpa [digB] using ha
      cases r with
      | nil =>
        rw [show numC [a] = (1, a - 48) by simp [numC, ha]]
        exact ⟨by simp, by simp, by show a - 48 ≤ 99; omega⟩
      | cons b r =>
        by_cases hb : digB b = true
        · have h2 : 48 ≤ b ∧ b ≤ 57 := by simpa [digB] using hb
          rw [show numC (a :: b :: r) = (2, 10 * (a - 48) + (b - 48)) by simp [numC, ha, hb]]
          exact ⟨by simp, by simp, by show 10 * (a - 48) + (b - 48) ≤ 99; omega⟩
        · rw [show numC (a :: b :: r) = (1, a - 48) by simp [numC, ha, hb]]
          exact ⟨by simp, by simp, by show a - 48 ≤ 99; omega⟩
    · rw [show numC (a :: r) = (0, 0) by simp [numC, ha]]
      exact ⟨by simp, by decide, by decide⟩
/-- the number of the first t digits -/
def numT (l : List Nat) : Nat → Nat
  | 0 => 0
  | t + 1 => 10 * numT l t + (l.getD t 0 - 48)
theorem numT_end (l : List Nat) : numT l (numC l).1 = (numC l).2 := by
  cases l with
  | nil => rfl
  | cons a r =>
    by_cases ha : digB a = true
    · cases r with
      | nil => rw [show numC [a] = (1, a - 48) by simp [numC, ha]]; simp [numT]
      | cons b r =>
        by_cases hb : digB b = true
        · rw [show numC (a :: b :: r) = (2, 10 * (a - 48) + (b - 48)) by simp [numC, ha, hb]]; simp [numT]
        · rw [show numC (a :: b :: r) = (1, a - 48) by simp [numC, ha, hb]]; simp [numT]
    · rw [show numC (a :: r) = (0, 0) by simp [numC, ha]]; rfl
theorem numT_succ (l : List Nat) (t : Nat) : numT l (t + 1) = 10 * numT l t + (l.getD t 0 - 48) := rfl
theorem numC_go (l : List Nat) (t : Nat) (ht : t ≤ (numC l).1) : t < (numC l).1 ↔ t < l.length ∧ t < 2 ∧ digB (l.getD t 0) = true := by
  unfold numC at ht ⊢
  cases l with
  | nil => simp
  | cons a r =>
    simp only at ht ⊢
    by_cases ha : digB a = true
    · rw [if_pos ha] at ht ⊢
      cases r with
      | nil =>
        simp only at ht ⊢
        match t, ht with
        | 0, _ => simp [ha]
        | 1, _ => simp
        | t + 2, h => simp at h
      | cons b r =>
        simp only at ht ⊢
        by_cases hb : digB b = true
        · rw [if_pos hb] at ht ⊢
          match t, ht with
          | 0, _ => simp [ha]
          | 1, _ => simp [hb]
          | 2, _ => simp
          | t + 3, h => simp at h
        · rw [if_neg hb] at ht ⊢
          match t, ht with
          | 0, _ => simp [ha]
          | 1, _ => simp [hb]
          | t + 2, h => simp at h
    · rw [if_neg ha] at ht ⊢
      have : t = 0 := by simpa using ht
      subst this
      simp [ha]
/-- an atom that is no group -/
def klassP : List Nat → Option (Klass × List Nat)
  | [] => none
  | c :: r => if c = 91 then classP r else if c = 40 then none else if c = 92 then escP r else if c = 46 then some (⟨[(10, 10), (13, 13)], true⟩, r)
      else if c ∈ [94, 36, 42, 43, 63, 41, 93, 123, 125, 124] then none else some (⟨[(c, c)], false⟩, r)
theorem klassP_cons (c : Nat) (r : List Nat) : klassP (c :: r) = if c = 91 then classP r else if c = 40 then none else if c = 92 then escP r else if c = 46 then some (⟨[(10, 10), (13, 13)], true⟩, r)
      else if c ∈ [94, 36, 42, 43, 63, 41, 93, 123, 125, 124] then none else some (⟨[(c, c)], false⟩, r) := rfl
theorem atomK_zero_eq (l : List Nat) : atomK 0 l = (klassP l).map fun q => (clsL q.1.fits, q.2) := by
  cases l with
  | nil => simp [atomK, klassP]
  | cons c r =>
    rw [klassP_cons]
    unfold atomK
    by_cases h1 : c = 91
    · rw [if_pos h1, if_pos h1]
    · rw [if_neg h1, if_neg h1]
      by_cases h2 : c = 40
      · rw [if_pos h2, if_pos h2]; rfl
      · rw [if_neg h2, if_neg h2]
        by_cases h3 : c = 92
        · rw [if_pos h3, if_pos h3]
        · rw [if_neg h3, if_neg h3]
          by_cases h4 : c = 46
          · rw [if_pos h4, if_pos h4]; rfl
          · rw [if_neg h4, if_neg h4]
            by_cases h5 : c ∈ [94, 36, 42, 43, 63, 41, 93, 123, 125, 124]
            · rw [if_pos h5, if_pos h5]; rfl
            · rw [if_neg h5, if_neg h5]; rfl
theorem atomK_not {k c : Nat} {r : List Nat} (h : c ≠ 40) : atomK k (c :: r) = (klassP (c :: r)).map fun q => (clsL q.1.fits, q.2) := by
  rw [← atomK_zero_eq]
  cases k with
  | zero => rfl
  | succ k =>
    conv => lhs; unfold atomK
    rw [if_neg h]
theorem atomK_grp (k : Nat) (r : List Nat) : atomK (k + 1) (40 :: r) = (match rowsF (atomK k) r with
    | none => none
    | some (rs, r2) => match r2 with
      | [] => none
      | x :: r3 => if x = 41 then some (grpL rs, r3) else none) := by
  conv => lhs; unfold atomK
  rw [if_pos rfl]
  rfl
/-- places behind atoms, rows, patterns -/
def atR (k : Nat) (l : List Nat) : Option (List Nat) := (atomK k l).map (·.2)
def rwR (k : Nat) (l : List Nat) : Option (List Nat) := (rowF (atomK k) l).map (·.2)
def rsR (k : Nat) (l : List Nat) : Option (List Nat) := (rowsF (atomK k) l).map (·.2)
theorem atR_cls (k : Nat) (r : List Nat) : atR k (91 :: r) = clR r := by
  unfold atR clR
  rw [atomK_not (by decide)]
  rw [klassP_cons, if_pos rfl]
  cases classP r <;> rfl
theorem escP_cons (c : Nat) (r : List Nat) : escP (c :: r) = (match someP c with
    | some sp => some (⟨sp, decide (c < 97)⟩, r)
    | none => if c ∈ [92, 94, 36, 46, 42, 43, 63, 40, 41, 91, 93, 123, 125, 124, 47, 45] then some (⟨[(c, c)], false⟩, r) else none) := rfl
theorem atR_esc (k : Nat) (r : List Nat) : atR k (92 :: r) = (match r with
    | [] => none
    | e :: r2 => if e ∈ [100, 68, 119, 87, 115, 83, 92, 94, 36, 46, 42, 43, 63, 40, 41, 91, 93, 123, 125, 124, 47, 45] then some r2 else none) := by
  unfold atR
  rw [atomK_not (by decide)]
  have : klassP (92 :: r) = escP r := by
    rw [klassP_cons, if_neg (by decide), if_neg (by decide), if_pos rfl]
  rw [this]
  cases r with
  | nil => rfl
  | cons e r2 =>
    simp only
    rw [escP_cons]
    by_cases h : e = 100 ∨ e = 68
    · rw [show someP e = some [(48, 57)] from if_pos h]; exact (if_pos (by rcases h with rfl | rfl <;> decide)).symm
    · by_cases h2 : e = 119 ∨ e = 87
      · rw [show someP e = some [(48, 57), (65, 90), (95, 95), (97, 122)] from (if_neg h).trans (if_pos h2)]; exact (if_pos (by rcases h2 with rfl | rfl <;> decide)).symm
      · by_cases h3 : e = 115 ∨ e = 83
        · rw [show someP e = some [(9, 10), (12, 13), (32, 32)] from (if_neg h).trans ((if_neg h2).trans (if_pos h3))]; exact (if_pos (by rcases h3 with rfl | rfl <;> decide)).symm
        · rw [show someP e = none from (if_neg h).trans ((if_neg h2).trans (if_neg h3))]
          simp only
          by_cases h4 : e ∈ [92, 94, 36, 46, 42, 43, 63, 40, 41, 91, 93, 123, 125, 124, 47, 45]
          · rw [if_pos h4, if_pos (by
              have : ∀ x ∈ [92, 94, 36, 46, 42, 43, 63, 40, 41, 91, 93, 123, 125, 124, 47, 45], x ∈ [100, 68, 119, 87, 115, 83, 92, 94, 36, 46, 42, 43, 63, 40, 41, 91, 93, 123, 125, 124, 47, 45] := by decide
              exact this e h4)]; rfl
          · rw [if_neg h4, if_neg (fun h5 => by
              simp only [List.mem_cons, List.not_mem_nil, or_false] at h4 h5
              omega)]; rfl
theorem atR_oth {k c : Nat} (r : List Nat) (h1 : c ≠ 91) (h2 : c ≠ 40) (h3 : c ≠ 92) : atR k (c :: r) = if c ∈ [94, 36, 42, 43, 63, 41, 93, 123, 125, 124] then none else some r := by
  unfold atR
  rw [atomK_not h2]
  rw [klassP_cons, if_neg h1, if_neg h2, if_neg h3]
  by_cases h4 : c = 46
  · subst h4
    rw [if_pos rfl, if_neg (by decide)]; rfl
  · rw [if_neg h4]
    split <;> rfl
theorem atR_grp (k : Nat) (r : List Nat) : atR (k + 1) (40 :: r) = (match rsR k r with
    | none => none
    | some r2 => match r2 with
      | [] => none
      | x :: r3 => if x = 41 then some r3 else none) := by
  unfold atR rsR
  rw [atomK_grp]
  cases rowsF (atomK k) r with
  | none => rfl
  | some q =>
    obtain ⟨rs, r2⟩ := q
    simp only [Option.map_some]
    cases r2 with
    | nil => rfl
    | cons x r3 =>
      simp only
      split <;> rfl
theorem atR_grp0 (r : List Nat) : atR 0 (40 :: r) = none := by
  unfold atR atomK
  rw [if_neg (by decide), if_pos rfl]; rfl
theorem atR_suf {k : Nat} {l r : List Nat} (h : atR k l = some r) : r <:+ l ∧ r.length < l.length := by
  obtain ⟨q, h1, h2⟩ := Option.map_eq_some_iff.1 h
  subst h2
  exact ⟨atomK_suf k l q.1 q.2 h1, atomK_len k l q.1 q.2 h1⟩
def ofR (g : Bool) (l : List Nat) : Option (List Nat) := (oftenP g l).map (·.2.2)
theorem ofR_suf {g : Bool} {l r : List Nat} (h : ofR g l = some r) : r <:+ l := by
  obtain ⟨q, h1, h2⟩ := Option.map_eq_some_iff.1 h
  subst h2
  exact oftenP_suf (lo := q.1) (hi := q.2.1) h1
theorem rwR_nil (k : Nat) : rwR k [] = some [] := rfl
theorem rwR_end {k c : Nat} {l : List Nat} (h : c = 124 ∨ c = 41) : rwR k (c :: l) = some (c :: l) := by
  unfold rwR; rw [rowF_end _ h]; rfl
theorem rwR_cons {k c : Nat} {l : List Nat} (h : ¬ (c = 124 ∨ c = 41)) : rwR k (c :: l) = (match atR k (c :: l) with
    | none => none
    | some r1 => match ofR (decide (c = 40)) r1 with
      | none => none
      | some r2 => rwR k r2) := by
  unfold rwR atR ofR
  rw [rowF_cons (atomK_len k) h]
  cases atomK k (c :: l) with
  | none => rfl
  | some q =>
    obtain ⟨d, r1⟩ := q
    simp only [Option.map_some]
    cases oftenP (decide (c = 40)) r1 with
    | none => rfl
    | some q =>
      obtain ⟨lo, hi, r2⟩ := q
      simp only [Option.map_some]
      cases rowF (atomK k) r2 with
      | none => rfl
      | some q => rfl
theorem rwR_suf {k : Nat} {l r : List Nat} (h : rwR k l = some r) : r <:+ l := by
  obtain ⟨q, h1, h2⟩ := Option.map_eq_some_iff.1 h
  subst h2
  exact rowF_suf (ps := q.1) h1
theorem rsR_eq (k : Nat) (l : List Nat) : rsR k l = (match rwR k l with
    | none => none
    | some r => match r with
      | [] => some []
      | c :: r2 => if c = 124 then rsR k r2 else some (c :: r2)) := by
  unfold rsR rwR
  rw [rowsF_eq (atomK_len k)]
  cases rowF (atomK k) l with
  | none => rfl
  | some q =>
    obtain ⟨ps, r⟩ := q
    simp only [Option.map_some]
    cases r with
    | nil => rfl
    | cons c r2 =>
      simp only
      split
      · cases rowsF (atomK k) r2 with
        | none => rfl
        | some q => rfl
      · rfl
theorem rsR_suf {k : Nat} {l r : List Nat} (h : rsR k l = some r) : r <:+ l := by
  obtain ⟨q, h1, h2⟩ := Option.map_eq_some_iff.1 h
  subst h2
  exact rowsF_suf (rs := q.1) h1
end Go.Proofs.YtfhgnnlhacjnkaaDoor.PT

/-
  Go's two tables of UTF-8, as the rows list them: what a walk reads of them, how they are carried, and a world for the witness.
-/
namespace Go.Proofs.YtfhgnnlhacjnkaaDoor
set_option linter.unusedVariables false
set_option linter.unusedSimpArgs false
open Go.Shelf Go.RowKit

def u8ren : Ren := ⟨fun n => n, fun | 5 => 5 | 119 => 61 | 138 => 63 | 139 => 64 | n => n, fun | 3 => 0 | 4 => 1 | n => n⟩
theorem u8types : U8Types Tryd.prog u8ren := ⟨Tryd.underlying5, Tryd.underlying61, Tryd.underlying63, Tryd.underlying64⟩
theorem u8extra : U8Extra Tryd.prog u8ren := ⟨by kernel_rfl, by kernel_rfl, by kernel_rfl, by kernel_rfl, by kernel_rfl, by kernel_rfl, by kernel_rfl⟩

/-- the two tables stand in the world; the package variables have their shapes -/
structure Tables (w : World) : Prop where
  utf : Lib.Utf8Tabs 0 1 w
  shape : w.ShapedOpen Tryd.prog

theorem Tables.kept {w w' : World} (h : Tables w) (hb : Below w.heap.size w w') : Tables w' :=
  ⟨Utf8Tabs_below h.utf hb, h.shape.keptBut (hb.frame (fun _ => False)) (fun _ f => f.elim)⟩

def laidList : List (String × DataW Unit) := [("unicode/utf8.acceptRanges", Rows.laid_unicode_utf8_acceptRanges), ("unicode/utf8.first", Rows.laid_unicode_utf8_first)]
theorem accept_eq : Rows.laid_unicode_utf8_acceptRanges = Lib.acceptData := by kernel_rfl
theorem first_eq : Rows.laid_unicode_utf8_first = Lib.firstData := Pinned.utf8First_eq

theorem tables_of {W : World} (hL : laidMetH Tryd.prog laidList W) (hS : W.ShapedOpen Tryd.prog) : Tables W := by
  refine ⟨utf8Tabs_of_readsT u8types u8extra ?_ ?_, hS⟩
  · have h := Lib.laidMet.reads hL (n := "unicode/utf8.first") (d := Rows.laid_unicode_utf8_first) (.tail _ (.head _))
    rw [first_eq] at h
    exact h
  · have h := Lib.laidMet.reads hL (n := "unicode/utf8.acceptRanges") (d := Rows.laid_unicode_utf8_acceptRanges) (.head _)
    rw [accept_eq] at h
    exact h

/-- THE WITNESS's WORLD -/
noncomputable def laidWorld (os : Os) : World :=
  let w0 := World.holding Tryd.prog os ⟨#[], #[], []⟩
  let put (h : Array Obj) (g : Nat) (cs : Array Value) : Array Obj := h.modify g fun
    | .cells _ t frozen => .cells cs t frozen
    | o => o
  let h1 := put w0.heap 0 (Lib.firstTab.map fun z => Value.int .u8 z).toArray
  let h2 := put h1 1 ((List.range 16).flatMap fun i => [Value.int .u8 (Lib.accLo i), Value.int .u8 (Lib.accHi i)]).toArray
  { w0 with heap := h2 }
theorem laid_met (os : Os) (args : Array Value) : laidMet Tryd.prog laidList ((laidWorld os).forCall (fun _ _ => 0) ⟨#[], args, []⟩).memory := by
  have h : laidMet Tryd.prog [("unicode/utf8.acceptRanges", Lib.acceptData), ("unicode/utf8.first", Lib.firstData)] ((laidWorld os).forCall (fun _ _ => 0) ⟨#[], args, []⟩).memory :=
    (LaidIn.of_run (l := [("unicode/utf8.acceptRanges", Lib.acceptData), ("unicode/utf8.first", Lib.firstData)]) [0, 1] 8 (by kernel_rfl) (by kernel_rfl) (by kernel_rfl) (by kernel_rfl)).met
  unfold laidList
  rw [accept_eq, first_eq]
  exact h
end Go.Proofs.YtfhgnnlhacjnkaaDoor

/-
  A STORE INTO A BLOCK OF ONE'S OWN, in a region and in a region that draws its order: the world behind it is a letter, of which one knows the block and Below.
-/
namespace Go.Proofs.YtfhgnnlhacjnkaaDoor
set_option linter.unusedVariables false
set_option linter.unusedSimpArgs false
open Go.RowKit

theorem below_setRow {B : Nat} (W : World) (g : Nat) (cs : Array Value) (hB : B ≤ g) : Below B W (W.setRow g cs) := by
  refine ⟨rfl, rfl, rfl, by simp [World.setRow], fun k hk => ?_⟩
  simp only [World.setRow, Array.getElem?_modify]
  rw [if_neg (by omega)]
theorem fresh_kept {W w' : World} {o : Obj} (hb : Below (W.alloc o).heap.size (W.alloc o) w') : w'.heap[W.heap.size]? = some o := by
  rw [hb.block _ (by simp), Go.heap_alloc_new]
theorem fresh_kept_d {W w' : World} {o : Obj} (hb : Below (W.alloc o).drew.heap.size (W.alloc o).drew w') : w'.heap[W.heap.size]? = some o := by
  have h : (W.alloc o).drew.heap[W.heap.size]? = some o := Go.heap_alloc_new W o
  rw [hb.block _ (Array.getElem?_eq_some_iff.1 h).1, h]
theorem run_store_at (W : World) (ty : TypeId) (g i : Nat) (v : Value) (old : Array Value) (t : TypeId) (hg : W.heap[g]? = some (.cells old t (0, 0)))
    (hsz : (Tryd.prog.info? ty).map (·.size) = some v.cells.size) (hle : i + v.cells.size ≤ old.size) (h1 : v.cells.all (·.oneCell') = true) :
    (storeVar ty ⟨g, i, none⟩ v).run Tryd.prog W = .ok () (W.setRow g (old.toList.take i ++ v.cells.toList ++ old.toList.drop (i + v.cells.toList.length)).toArray) := by
  have := run_storeCells_at (P := Tryd.prog) g i t v.cells.toList 0 old W hg (by simpa using hle) (fun u hu => (Array.all_eq_true_iff_forall_mem.1 h1) u (by simpa using hu))
  cases hq : Tryd.prog.info? ty with
  | none => simp [hq] at hsz
  | some z =>
    have hs : v.cells.size = z.size := by simp [hq] at hsz; omega
    simp only [Nat.add_zero] at this
    simp [storeVar, sizeOf, typeInfo, hq, hs, this]
theorem wp_store_at {W : World} {o : Oper} {a : Act} {K : Act → World → Prop} {Q : Exit → Act → World → Prop} (ty : TypeId) (x y : Operand) (ho : o.op = .store ty x y)
    (g i : Nat) (hx : a.eval x = .pointer (some ⟨g, i, none⟩)) (v : Value) (hy : a.eval y = v) (old new : Array Value) (t : TypeId) (hg : W.heap[g]? = some (.cells old t (0, 0)))
    (hsz : (Tryd.prog.info? ty).map (·.size) = some v.cells.size) (hle : i + v.cells.size ≤ old.size) (h1 : v.cells.all (·.oneCell') = true)
    (hnew : (old.toList.take i ++ v.cells.toList ++ old.toList.drop (i + v.cells.toList.length)).toArray = new) {B : Nat} (hB : B ≤ g)
    (h : ∀ w', w'.heap[g]? = some (.cells new t (0, 0)) → Below B W w' → K (a.put o.dst undef) w') : o.wp Tryd.prog a W K Q := by
  unfold Oper.wp execOp
  simp only [ho, hx, hy, Instr.storeAt, Instr.sureAddr, Sem.run_bind, Sem.run_pure, Result.andThen_ok, run_store_at W ty g i v old t hg hsz hle h1]
  rw [hnew]
  exact h _ (setRow_heap W g old new t (0, 0) hg) (below_setRow W g new hB)
theorem step_store_at {W : World} {ops : Array Oper} {o : Oper} {a : Act} {K : Act → World → Prop} {Q : Exit → Act → World → Prop} {E : Prop} (hgd : o.guard = none) (ty : TypeId) (x y : Operand) (ho : o.op = .store ty x y)
    (g i : Nat) (hx : a.eval x = .pointer (some ⟨g, i, none⟩)) (v : Value) (hy : a.eval y = v) (old new : Array Value) (t : TypeId) (hg : W.heap[g]? = some (.cells old t (0, 0)))
    (hsz : (Tryd.prog.info? ty).map (·.size) = some v.cells.size) (hle : i + v.cells.size ≤ old.size) (h1 : v.cells.all (·.oneCell') = true)
    (hnew : (old.toList.take i ++ v.cells.toList ++ old.toList.drop (i + v.cells.toList.length)).toArray = new) {B : Nat} (hB : B ≤ g)
    (h : ∀ w', w'.heap[g]? = some (.cells new t (0, 0)) → Below B W w' → K (a.put o.dst undef) w') : if Region.wanted o (yielded ops a.tmps) then o.wp Tryd.prog a W K Q else E := by
  have hw : Region.wanted o (yielded ops a.tmps) = true := by simp [Region.wanted, hgd]
  rw [if_pos hw]
  exact wp_store_at ty x y ho g i hx v hy old new t hg hsz hle h1 hnew hB h
theorem wpList_store_at {W : World} {ops : Array Oper} {rest : List Oper} {o : Oper} {a : Act} {Q : Exit → Act → World → Prop} (hgd : o.guard = none) (ty : TypeId) (x y : Operand) (ho : o.op = .store ty x y)
    (g i : Nat) (hx : a.eval x = .pointer (some ⟨g, i, none⟩)) (v : Value) (hy : a.eval y = v) (old new : Array Value) (t : TypeId) (hg : W.heap[g]? = some (.cells old t (0, 0)))
    (hsz : (Tryd.prog.info? ty).map (·.size) = some v.cells.size) (hle : i + v.cells.size ≤ old.size) (h1 : v.cells.all (·.oneCell') = true)
    (hnew : (old.toList.take i ++ v.cells.toList ++ old.toList.drop (i + v.cells.toList.length)).toArray = new) {B : Nat} (hB : B ≤ g)
    (h : ∀ w', w'.heap[g]? = some (.cells new t (0, 0)) → Below B W w' → wpList Tryd.prog ops Q rest (a.put o.dst undef) w') : wpList Tryd.prog ops Q (o :: rest) a W :=
  wpList_plain hgd fun _ hK => wp_store_at ty x y ho g i hx v hy old new t hg hsz hle h1 hnew hB fun w' h2 h3 => hK _ _ (h w' h2 h3)
/-- five cells of a block, each as the walk asks for it -/
theorem five_of {W : World} {g : Nat} {a b c d e : Value} {t : TypeId} (h : W.heap[g]? = some (.cells #[a, b, c, d, e] t (0, 0))) :
    W.cell? ⟨g, 0, none⟩ = some a ∧ W.cell? ⟨g, 1, none⟩ = some b ∧ W.cell? ⟨g, 2, none⟩ = some c ∧ W.cell? ⟨g, 3, none⟩ = some d ∧ W.cell? ⟨g, 4, none⟩ = some e ∧
    W.frozen? ⟨g, 0, none⟩ = false ∧ W.frozen? ⟨g, 1, none⟩ = false ∧ W.frozen? ⟨g, 2, none⟩ = false ∧ W.frozen? ⟨g, 3, none⟩ = false ∧ W.frozen? ⟨g, 4, none⟩ = false := by
  simp [World.cell?, World.frozen?, h]
theorem set5_below {B : Nat} (W : World) (g : Nat) (a b c d e : Value) (hB : B ≤ g) : Below B W (((((W.setCell ⟨g, 0, none⟩ a).setCell ⟨g, 1, none⟩ b).setCell ⟨g, 2, none⟩ c).setCell ⟨g, 3, none⟩ d).setCell ⟨g, 4, none⟩ e) :=
  (((((Below.refl B W).setCell (p := ⟨g, 0, none⟩) hB a).setCell (p := ⟨g, 1, none⟩) hB b).setCell (p := ⟨g, 2, none⟩) hB c).setCell (p := ⟨g, 3, none⟩) hB d).setCell (p := ⟨g, 4, none⟩) hB e
theorem setCell_heap {W : World} {g i : Nat} {cur : Array Value} {t : TypeId} (u : Value) (h : W.heap[g]? = some (.cells cur t (0, 0))) : (W.setCell ⟨g, i, none⟩ u).heap[g]? = some (.cells (cur.setIfInBounds i u) t (0, 0)) := by
  rw [setCell_eq_setRow W g i cur t (0, 0) u h]
  exact setRow_heap W g cur _ t (0, 0) h
theorem set5_heap {W : World} {g : Nat} {a0 b0 c0 d0 e0 : Value} {t : TypeId} (a b c d e : Value) (h : W.heap[g]? = some (.cells #[a0, b0, c0, d0, e0] t (0, 0))) :
    (((((W.setCell ⟨g, 0, none⟩ a).setCell ⟨g, 1, none⟩ b).setCell ⟨g, 2, none⟩ c).setCell ⟨g, 3, none⟩ d).setCell ⟨g, 4, none⟩ e).heap[g]? = some (.cells #[a, b, c, d, e] t (0, 0)) := by
  rw [setCell_heap e (setCell_heap d (setCell_heap c (setCell_heap b (setCell_heap a h))))]
  rfl
theorem below_re {B : Nat} (W : World) (o o' : Obj) (h : B ≤ W.heap.size) : Below B (W.alloc o) (W.alloc o') := by
  refine ⟨rfl, rfl, rfl, by simp, fun k hk => ?_⟩
  rw [Below.heap_alloc W o k (by omega), Below.heap_alloc W o' k (by omega)]
end Go.Proofs.YtfhgnnlhacjnkaaDoor

/-
  A region that only reads: its draws.
-/
namespace Go.Proofs.YtfhgnnlhacjnkaaDoor
set_option linter.unusedVariables false
set_option linter.unusedSimpArgs false
open Go.RowKit

theorem below_draws (w : World) (n : Nat) : Below w.heap.size w (w.drewN n) := ⟨rfl, rfl, rfl, Nat.le_refl _, fun _ _ => rfl⟩

end Go.Proofs.YtfhgnnlhacjnkaaDoor

/-
  The pattern's reader: its block in the memory; next, take: the walks.
-/
namespace Go.Proofs.YtfhgnnlhacjnkaaDoor
set_option linter.unusedVariables false
set_option linter.unusedSimpArgs false
open Go.RowKit PT
open Go.Lib (decodeN decodeL validD)

abbrev U8 (w : World) : Prop := Lib.Utf8Tabs 0 1 w
theorem u8_rd {r : Nat} {w w' : World} (h : U8 w) (hr : 2 ≤ r) (hd : Rd r w w') : U8 w' := by
  have key : ∀ {g c : Nat} {v : Value}, g < 2 → w.cell? ⟨g, c, none⟩ = some v → w'.cell? ⟨g, c, none⟩ = some v := fun {g c v} hg hc => by
    have hlt : g < w.heap.size := by
      rcases Nat.lt_or_ge g w.heap.size with h' | h'
      · exact h'
      · simp [World.cell?, Array.getElem?_eq_none h'] at hc
    rw [← hc]
    simp only [World.cell?, hd.block g hlt (by omega)]
  exact ⟨fun c hc => key (by decide) (h.1 c hc), fun i hi => ⟨key (by decide) (h.2 i hi).1, key (by decide) (h.2 i hi).2⟩⟩
/-- the reader's block -/
def RS (r : Nat) (s : ByteArray) (d : Int) (b : Bool) (w : World) : Prop := w.heap[r]? = some (.cells #[.string s, .int .i64 d, .bool b] 47 (0, 0))
/-- the reader, by the signs ahead -/
structure RD (r : Nat) (X : List Nat) (d : Int) (b : Bool) (w : World) : Prop where
  two : 2 ≤ r
  lt : r < w.heap.size
  utf : U8 w
  ex : ∃ s : ByteArray, s.size ≤ 200 ∧ validD s.data.toList = true ∧ sigs s.data.toList = X ∧ RS r s d b w
theorem RD.max {r : Nat} {X : List Nat} {d : Int} {b : Bool} {w : World} (h : RD r X d b w) : ∀ x ∈ X, x ≤ 1114111 := by
  obtain ⟨s, _, _, rfl, _⟩ := h.ex
  exact sigs_max _ _ (Nat.le_refl _)
theorem RD.len {r : Nat} {X : List Nat} {d : Int} {b : Bool} {w : World} (h : RD r X d b w) : X.length ≤ 200 := by
  obtain ⟨s, h1, _, rfl, _⟩ := h.ex
  have := sigs_len _ s.data.toList (Nat.le_refl _)
  rw [size_list] at this
  omega
theorem RD.kept {r : Nat} {X : List Nat} {d : Int} {b : Bool} {w w' : World} (h : RD r X d b w) (hb : Below w.heap.size w w') : RD r X d b w' := by
  obtain ⟨s, h1, h2, h3, h4⟩ := h.ex
  exact ⟨h.two, by have := hb.size; have := h.lt; omega, Utf8Tabs_below h.utf hb, s, h1, h2, h3, blk_kept hb h4⟩
/-- the mark is set -/
theorem RD.setBad {r : Nat} {X : List Nat} {d : Int} {b : Bool} {w : World} (h : RD r X d b w) (x : Bool) : RD r X d x (w.setCell ⟨r, 2, none⟩ (.bool x)) := by
  obtain ⟨s, h1, h2, h3, h4⟩ := h.ex
  refine ⟨h.two, by have := h.lt; simpa [World.setCell] using this, u8_rd h.utf h.two (Rd.setCell r 2 _ w), s, h1, h2, h3, ?_⟩
  exact (setCell_heap _ h4).trans rfl
theorem RD.setDepth {r : Nat} {X : List Nat} {d : Int} {b : Bool} {w : World} (h : RD r X d b w) (x : Int) : RD r X x b (w.setCell ⟨r, 1, none⟩ (.int .i64 x)) := by
  obtain ⟨s, h1, h2, h3, h4⟩ := h.ex
  refine ⟨h.two, by have := h.lt; simpa [World.setCell] using this, u8_rd h.utf h.two (Rd.setCell r 1 _ w), s, h1, h2, h3, ?_⟩
  exact (setCell_heap _ h4).trans rfl
theorem RD.setText {r : Nat} {X Y : List Nat} {d : Int} {b : Bool} {w : World} (h : RD r X d b w) (s : ByteArray) (h1 : s.size ≤ 200) (h2 : validD s.data.toList = true) (h3 : sigs s.data.toList = Y) : RD r Y d b (w.setCell ⟨r, 0, none⟩ (.string s)) := by
  obtain ⟨_, _, _, _, h4⟩ := h.ex
  refine ⟨h.two, by have := h.lt; simpa [World.setCell] using this, u8_rd h.utf h.two (Rd.setCell r 0 _ w), s, h1, h2, h3, ?_⟩
  exact (setCell_heap _ h4).trans rfl
theorem rs_of {r : Nat} {s : ByteArray} {d : Int} {b : Bool} {w : World} (h : RS r s d b w) : w.cell? ⟨r, 0, none⟩ = some (.string s) ∧ w.cell? ⟨r, 1, none⟩ = some (.int .i64 d) ∧ w.cell? ⟨r, 2, none⟩ = some (.bool b) ∧ w.frozen? ⟨r, 0, none⟩ = false ∧ w.frozen? ⟨r, 1, none⟩ = false ∧ w.frozen? ⟨r, 2, none⟩ = false := by
  unfold RS at h
  simp [World.cell?, World.frozen?, h]
theorem RD.at {r : Nat} {X : List Nat} {d : Int} {b : Bool} {w : World} (h : RD r X d b w) : ∃ s : ByteArray, w.cell? ⟨r, 0, none⟩ = some (.string s) ∧ w.cell? ⟨r, 1, none⟩ = some (.int .i64 d) ∧ w.cell? ⟨r, 2, none⟩ = some (.bool b) ∧ w.frozen? ⟨r, 0, none⟩ = false ∧ w.frozen? ⟨r, 1, none⟩ = false ∧ w.frozen? ⟨r, 2, none⟩ = false ∧ s.size ≤ 200 ∧ Hid (validD s.data.toList = true) ∧ Hid (sigs s.data.toList = X) := by
  obtain ⟨s, h1, h2, h3, h4⟩ := h.ex
  obtain ⟨a, b, c, d, e, f⟩ := rs_of h4
  exact ⟨s, a, b, c, d, e, f, h1, h2, h3⟩
def hdI : List Nat → Int
  | [] => -1
  | x :: _ => x
abbrev rp (r : Nat) : Value := .pointer (some ⟨r, 0, none⟩)
theorem empS_yes {s : ByteArray} (h : s.size = 0) : s = ByteArray.mk #[] := by
  apply ByteArray.ext
  exact Array.eq_empty_of_size_eq_zero h
theorem decode_go (s : ByteArray) (h : s.size ≠ 0) : Lib.decodeGo s = decodeL s.data.toList := by
  unfold Lib.decodeGo
  rw [if_neg h, ← Lib.decodeL_drop, List.drop_zero]
theorem rest_list (s : ByteArray) (n : Nat) : (s.extract n s.size).data.toList = s.data.toList.drop n := by
  rw [Lib.extract_data, List.take_of_length_le (by rw [List.length_drop, size_list]; omega)]
set_option maxHeartbeats 1000000 in
set_option maxRecDepth 100000 in
theorem next_any (r : Nat) (X : List Nat) (d : Int) (b : Bool) (w : World) (hR : RD r X d b w) :
    Calls Tryd.prog 30 #[rp r] w fun e w' => e = .returned (.int .i32 (hdI X)) ∧ Below w.heap.size w w' := by
  obtain ⟨s, c0, c1, c2, f0, f1, f2, hs, hv, hX⟩ := hR.at
  have hU := Lib.hid hR.utf
  clear hR
  by_cases h0 : s.size = 0
  · have hs0 := empS_yes h0
    subst hs0
    have hE := Lib.hid (show hdI X = -1 by rw [← hX.out]; rfl)
    clear h0
    go_enter Tryd.func30, Tryd.ntmps30
    go_wp2_with fail
    go_ret
    exact ⟨ret_int hE.out.symm, Below.refl _ _⟩
  · have q1 : (s.toList == (ByteArray.mk #[]).toList) = false := by
      rw [beq_eq_false_iff_ne, ByteArray.toList_eq, ByteArray.toList_eq]
      intro h
      apply h0
      rw [← size_list, h]; rfl
    have q2 : (s.data.toList == []) = false := by
      rw [beq_eq_false_iff_ne]
      intro h
      apply h0
      rw [← size_list, h]; rfl
    have q3 : s.toList.isEmpty = false := by
      rw [ByteArray.toList_eq, Bool.eq_false_iff]
      intro h
      exact h0 (by rw [← size_list, List.isEmpty_iff.1 h]; rfl)
    have hne : s.data.toList ≠ [] := fun h => h0 (by rw [← size_list, h]; rfl)
    have hE := Lib.hid (show hdI X = ((Lib.decodeGo s).1 : Int) by rw [← hX.out, sigs_step _ hne, decode_go s h0]; rfl)
    clear h0 hne
    go_enter Tryd.func30, Tryd.ntmps30
    go_wp2_with fail
    refine (Tryd.utf8_DecodeRuneInString s _ hU.out).mono ?_
    rintro e w1 ⟨rfl, hb1⟩
    go_wp2_with fail
    go_ret
    exact ⟨ret_int hE.out.symm, hb1⟩
set_option maxHeartbeats 1000000 in
set_option maxRecDepth 100000 in
theorem take_any (r : Nat) (X : List Nat) (d : Int) (b : Bool) (w : World) (hR : RD r X d b w) :
    Calls Tryd.prog 31 #[rp r] w fun e w' => e = .returned (.int .i32 (hdI X)) ∧ RD r (X.drop 1) d (b || decide (X = [])) w' ∧ Rd r w w' := by
  obtain ⟨s, c0, c1, c2, f0, f1, f2, hs, hv, hX⟩ := hR.at
  have hU := Lib.hid hR.utf
  have hRR := Lib.hid hR
  have hrlt := hR.lt
  clear hR
  by_cases h0 : s.size = 0
  · have hs0 := empS_yes h0
    subst hs0
    have hX0 := Lib.hid (show X = [] by rw [← hX.out]; rfl)
    clear h0
    go_enter Tryd.func31, Tryd.ntmps31
    go_wp2_with fail
    refine (Tryd.utf8_DecodeRuneInString _ _ hU.out).mono ?_
    rintro e w1 ⟨rfl, hb1⟩
    have c0' := cellK hb1 hrlt c0
    have c2' := cellK hb1 hrlt c2
    have hR1 := hRR.out.kept hb1
    have f2' := (rs_of hR1.ex.choose_spec.2.2.2).2.2.2.2.2
    have hfin := Lib.hid (hR1.setBad true)
    have hrd := Lib.hid ((Rd.of_below (r := r) hb1).trans (Rd.setCell r 2 (.bool true) w1))
    clear hR1
    go_wp2_with fail
    go_ret
    refine ⟨ret_int (by rw [hX0.out]; rfl), ?_, hrd.out⟩
    have := hfin.out
    rw [hX0.out] at this ⊢
    simpa using this
  · have q1 : (s.toList == (ByteArray.mk #[]).toList) = false := by
      rw [beq_eq_false_iff_ne, ByteArray.toList_eq, ByteArray.toList_eq]
      intro h
      apply h0
      rw [← size_list, h]; rfl
    have q2 : (s.data.toList == []) = false := by
      rw [beq_eq_false_iff_ne]
      intro h
      apply h0
      rw [← size_list, h]; rfl
    have q3 : s.toList.isEmpty = false := by
      rw [ByteArray.toList_eq, Bool.eq_false_iff]
      intro h
      exact h0 (by rw [← size_list, List.isEmpty_iff.1 h]; rfl)
    have hne : s.data.toList ≠ [] := fun h => h0 (by rw [← size_list, h]; rfl)
    obtain ⟨k1, k2, k3, k4⟩ := sigs_take hne hv.out
    rw [size_list] at k4
    obtain ⟨dc, hdc⟩ : ∃ dc, Lib.decodeGo s = dc := ⟨_, rfl⟩
    have hdL : decodeL s.data.toList = dc := by rw [← decode_go s h0, hdc]
    rw [hdL] at k1 k2 k3 k4
    obtain ⟨cd, n⟩ := dc
    simp only at k1 k2 k3 k4
    have hXc := Lib.hid (show X = cd :: sigs (s.data.toList.drop n) by rw [← hX.out]; exact k1)
    have hRR2 := Lib.hid (show ∀ (w1 : World), RD r X d b w1 → RD r (sigs (s.data.toList.drop n)) d b (w1.setCell ⟨r, 0, none⟩ (.string (s.extract n s.size))) from fun w1 hw => hw.setText _ (by rw [ByteArray.size_extract]; omega) (by rw [rest_list]; exact k2) (by rw [rest_list]))
    have hdc2 := Lib.hid hdc
    have n0 : (0 : Int) ≤ (n : Int) := by omega
    have n1 : (n : Int) ≤ (s.size : Int) := by omega
    clear h0 hne k1 k2 hdc hdL
    go_enter Tryd.func31, Tryd.ntmps31
    go_wp2_with fail
    refine (Tryd.utf8_DecodeRuneInString _ _ hU.out).mono ?_
    rintro e w1 ⟨rfl, hb1⟩
    rw [hdc2.out]
    have c0' := cellK hb1 hrlt c0
    have hR1 := hRR.out.kept hb1
    have f0' := (rs_of hR1.ex.choose_spec.2.2.2).2.2.2.1
    have hfin := Lib.hid (hRR2.out w1 hR1)
    have hrd := Lib.hid ((Rd.of_below (r := r) hb1).trans (Rd.setCell r 0 (.string (s.extract n s.size)) w1))
    clear hR1
    go_wp2_with fail
    go_ret
    refine ⟨ret_int (by rw [hXc.out]; rfl), ?_, hrd.out⟩
    have := hfin.out
    rw [hXc.out]
    simpa using this
end Go.Proofs.YtfhgnnlhacjnkaaDoor

/-
  The pattern's reader: number: the walk.
-/
namespace Go.Proofs.YtfhgnnlhacjnkaaDoor
set_option linter.unusedVariables false
set_option linter.unusedSimpArgs false
open Go.RowKit PT
open Go.Lib (decodeN decodeL validD)

theorem empS_no {s : ByteArray} (h0 : s.size ≠ 0) : s.toList.isEmpty = false ∧ (s.toList == []) = false ∧ (s.toList != []) = true ∧ s.data.toList ≠ [] := by
  have hne : s.data.toList ≠ [] := fun h => h0 (by rw [← size_list, h]; rfl)
  refine ⟨?_, ?_, ?_, hne⟩
  · rw [ByteArray.toList_eq, Bool.eq_false_iff]
    intro h
    exact hne (List.isEmpty_iff.1 h)
  · rw [ByteArray.toList_eq, beq_eq_false_iff_ne]; exact hne
  · rw [ByteArray.toList_eq, bne, show (s.data.toList == []) = false from by rw [beq_eq_false_iff_ne]; exact hne]; rfl
/-- the first byte of a text and its first sign -/
theorem head_at (s : ByteArray) (h0 : 0 < s.size) : s.data.toList = s[0] :: s.data.toList.drop 1 := by
  have := drop_cons' s 0 h0
  rwa [List.drop_zero] at this
set_option maxHeartbeats 4000000 in
set_option maxRecDepth 100000 in
theorem number_any (r : Nat) (X : List Nat) (d : Int) (b : Bool) (w : World) (hR : RD r X d b w) :
    Calls Tryd.prog 47 #[rp r] w fun e w' => e = .returned (.int .i64 ((numC X).2 : Nat)) ∧ RD r (X.drop (numC X).1) d (b || decide ((numC X).1 = 0)) w' ∧ Rd r w w' := by
  have hgo := Lib.hid (numC_go X)
  have hsu := Lib.hid (numT_succ X)
  have hen := Lib.hid (numT_end X)
  have hle := numC_le X
  go_enter Tryd.func47, Tryd.ntmps47
  go_wp2_with fail
  go_loopw [3, 4] (fun n i wr => ∃ t : Nat, t ≤ (numC X).1 ∧ i = .int .i64 t ∧ n = .int .i64 (numT X t : Nat) ∧ numT X t ≤ 99 ∧ RD r (X.drop t) d b wr ∧ Rd r w wr) (fun _ i _ => 2 - (intOf i).toNat)
  case atStart => exact ⟨0, Nat.zero_le _, rfl, rfl, by show 0 ≤ 99; omega, hR, Rd.refl _ _⟩
  case round =>
    obtain ⟨t, ht, rfl, rfl, h99, hRt, hrd⟩ := hrel
    obtain ⟨s, c0, c1, c2, f0, f1, f2, hs, hv, hX⟩ := hRt.at
    have hG := Lib.hid (hgo.out t ht)
    have hRh := Lib.hid hRt
    clear hRt
    by_cases hlt : t < (numC X).1
    · obtain ⟨h1, h2, h3⟩ := hG.out.1 hlt
      have hdx : X.drop t = X[t] :: X.drop (t + 1) := drop_at h1
      have hgd : X.getD t 0 = X[t] := by rw [List.getD_eq_getElem?_getD, List.getElem?_eq_getElem h1]; rfl
      rw [hgd] at h3
      have h0 : 0 < s.size := by
        rcases Nat.eq_zero_or_pos s.size with h | h
        · have := hX.out
          rw [empS_yes h, hdx] at this
          cases this
        · exact h
      obtain ⟨e1, e2, e3, hne⟩ := empS_no (by omega : s.size ≠ 0)
      have hs1 := hX.out
      have hh := head_at s h0
      rw [hh, hdx] at hs1
      have hdg := digB_byte hs1
      rw [h3] at hdg
      have hc : 48 ≤ s[0].toNat ∧ s[0].toNat ≤ 57 := by
        have := hdg.symm
        simpa using this
      have hlow : s[0].toNat < 128 := by omega
      rw [sigs_low _ _ hlow] at hs1
      obtain ⟨hx1, hx2⟩ := List.cons.inj hs1
      have hv1 := hv.out
      rw [hh, valid_low _ _ hlow] at hv1
      have hnum := Lib.hid (show numT X (t + 1) = 10 * numT X t + (s[0].toNat - 48) by rw [hsu.out t, hgd, ← hx1])
      have h9 : numT X (t + 1) ≤ 99 := by
        rcases Nat.lt_or_ge (t + 1) (numC X).1 with h | h
        · obtain rfl : t = 0 := by omega
          rw [hnum.out]; show 10 * 0 + _ ≤ 99; omega
        · rw [show t + 1 = (numC X).1 by omega, hen.out]; exact hle.2.2
      have hfin := Lib.hid (hRh.out.setText (Y := X.drop (t + 1)) (s.extract 1 s.size) (by rw [ByteArray.size_extract]; omega) (by rw [rest_list]; exact hv1) (by rw [rest_list]; exact hx2))
      have q1 : (t : Int) < 2 := by omega
      have q2 : (48 : Int) ≤ (s[0].toNat : Int) := by omega
      have q3 : (s[0].toNat : Int) ≤ 57 := by omega
      have q4 : (1 : Int) ≤ (s.size : Int) := by omega
      have hz9 := Lib.hid (show numT X t = (numT X t) from rfl)
      obtain ⟨z, hz⟩ : ∃ z, numT X t = z := ⟨_, rfl⟩
      rw [hz] at h99 hnum ⊢
      obtain ⟨y, hy⟩ : ∃ y : UInt8, s[0] = y := ⟨_, rfl⟩
      clear hs1 hh hdg hne hx1 hx2 hv1 hlow hdx hgd h3 hz hz9
      have hyh := Lib.hid hy
      clear hy
      go_wp2_with fail
      go_roundw
      case rel => exact ⟨t + 1, by omega, by go_num, by rw [hnum.out]; go_num, h9, hfin.out, hrd.trans (Rd.setCell r 0 _ _)⟩
      case measure => simp [intOf]; omega
    · obtain rfl : t = (numC X).1 := by omega
      rw [hen.out]
      clear h99
      by_cases h2 : (numC X).1 < 2
      case neg =>
        have p1 : decide (((numC X).1 : Int) < 2) = false := decide_eq_false (by omega)
        by_cases hk0 : (numC X).1 = 0
        · have p9 : (((numC X).1 : Int) == 0) = true := by rw [beq_iff_eq]; omega
          have hf := Lib.hid (show RD r (X.drop (numC X).1) d (b || decide ((numC X).1 = 0)) (wr.setCell ⟨r, 2, none⟩ (.bool true)) by rw [decide_eq_true hk0, Bool.or_true]; exact hRh.out.setBad true)
          clear hk0
          go_wp2_with fail
          go_ret
          exact ⟨rfl, hf.out, hrd.trans (Rd.setCell r 2 _ _)⟩
        · have p9 : (((numC X).1 : Int) == 0) = false := intNe (by omega)
          have hf := Lib.hid (show RD r (X.drop (numC X).1) d (b || decide ((numC X).1 = 0)) wr by rw [decide_eq_false hk0, Bool.or_false]; exact hRh.out)
          clear hk0
          go_wp2_with fail
          go_ret
          exact ⟨rfl, hf.out, hrd⟩
      have p1 : ((numC X).1 : Int) < 2 := by omega
      by_cases h0 : s.size = 0
      · have hs0 := empS_yes h0
        subst hs0
        clear h0
        by_cases hk0 : (numC X).1 = 0
        · have p9 : (((numC X).1 : Int) == 0) = true := by rw [beq_iff_eq]; omega
          have hf := Lib.hid (show RD r (X.drop (numC X).1) d (b || decide ((numC X).1 = 0)) (wr.setCell ⟨r, 2, none⟩ (.bool true)) by rw [decide_eq_true hk0, Bool.or_true]; exact hRh.out.setBad true)
          clear hk0
          go_wp2_with fail
          go_ret
          exact ⟨rfl, hf.out, hrd.trans (Rd.setCell r 2 _ _)⟩
        · have p9 : (((numC X).1 : Int) == 0) = false := intNe (by omega)
          have hf := Lib.hid (show RD r (X.drop (numC X).1) d (b || decide ((numC X).1 = 0)) wr by rw [decide_eq_false hk0, Bool.or_false]; exact hRh.out)
          clear hk0
          go_wp2_with fail
          go_ret
          exact ⟨rfl, hf.out, hrd⟩
      · obtain ⟨e1, e2, e3, hne⟩ := empS_no h0
        have h0' : 0 < s.size := by omega
        have hh := head_at s h0'
        have hs1 := hX.out
        rw [hh] at hs1
        have hnd : ¬ (48 ≤ s[0].toNat ∧ s[0].toNat ≤ 57) := by
          intro hc
          have hlt2 : (numC X).1 < X.length := by
            rcases Nat.lt_or_ge (numC X).1 X.length with h | h
            · exact h
            · rw [List.drop_eq_nil_of_le h] at hs1
              have := sigs_eq_nil.1 hs1
              cases this
          rw [drop_at hlt2] at hs1
          have hdg := digB_byte hs1
          rw [decide_eq_true hc.1, decide_eq_true hc.2] at hdg
          exact hlt (hG.out.2 ⟨hlt2, h2, by rw [List.getD_eq_getElem?_getD, List.getElem?_eq_getElem hlt2]; exact hdg⟩)
        clear hs1 hh hne h0
        by_cases h48 : 48 ≤ s[0].toNat
        · have p2 : (48 : Int) ≤ (s[0].toNat : Int) := by omega
          have p3 : decide ((s[0].toNat : Int) ≤ 57) = false := decide_eq_false (by omega)
          clear hnd h48
          by_cases hk0 : (numC X).1 = 0
          · have p9 : (((numC X).1 : Int) == 0) = true := by rw [beq_iff_eq]; omega
            have hf := Lib.hid (show RD r (X.drop (numC X).1) d (b || decide ((numC X).1 = 0)) (wr.setCell ⟨r, 2, none⟩ (.bool true)) by rw [decide_eq_true hk0, Bool.or_true]; exact hRh.out.setBad true)
            clear hk0
            go_wp2_with fail
            go_ret
            exact ⟨rfl, hf.out, hrd.trans (Rd.setCell r 2 _ _)⟩
          · have p9 : (((numC X).1 : Int) == 0) = false := intNe (by omega)
            have hf := Lib.hid (show RD r (X.drop (numC X).1) d (b || decide ((numC X).1 = 0)) wr by rw [decide_eq_false hk0, Bool.or_false]; exact hRh.out)
            clear hk0
            go_wp2_with fail
            go_ret
            exact ⟨rfl, hf.out, hrd⟩
        · have p2 : decide ((48 : Int) ≤ (s[0].toNat : Int)) = false := decide_eq_false (by omega)
          clear hnd h48
          by_cases hk0 : (numC X).1 = 0
          · have p9 : (((numC X).1 : Int) == 0) = true := by rw [beq_iff_eq]; omega
            have hf := Lib.hid (show RD r (X.drop (numC X).1) d (b || decide ((numC X).1 = 0)) (wr.setCell ⟨r, 2, none⟩ (.bool true)) by rw [decide_eq_true hk0, Bool.or_true]; exact hRh.out.setBad true)
            clear hk0
            go_wp2_with fail
            go_ret
            exact ⟨rfl, hf.out, hrd.trans (Rd.setCell r 2 _ _)⟩
          · have p9 : (((numC X).1 : Int) == 0) = false := intNe (by omega)
            have hf := Lib.hid (show RD r (X.drop (numC X).1) d (b || decide ((numC X).1 = 0)) wr by rw [decide_eq_false hk0, Bool.or_false]; exact hRh.out)
            clear hk0
            go_wp2_with fail
            go_ret
            exact ⟨rfl, hf.out, hrd⟩
end Go.Proofs.YtfhgnnlhacjnkaaDoor
