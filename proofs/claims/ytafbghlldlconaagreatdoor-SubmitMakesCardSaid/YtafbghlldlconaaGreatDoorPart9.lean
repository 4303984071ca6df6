import Derived.Test.YtafbghlldlconaaGreatDoorPart8
import Derived.Test.YtafbghlldlconaaGreatDoorPart4
import Derived.Test.YtafbghlldlconaaGreatDoorPart7
import Derived.Test.YtafbghlldlconaaGreatDoorPart2
import Derived.StillTail
import Derived.StillTailTactics
import Derived.Lib.Split
import Derived.Lib.CountLaws
import Derived.Test.YtafbghlldlconaaGreatDoorPart1
/-
  WHAT A FORM SUBMITS, as a plain function of the document: no program in sight.
-/
namespace Go.Proofs.YtafbghlldlconaaGreatDoor
set_option linter.unusedVariables false
set_option linter.unusedSimpArgs false
open Go.RowKit PT

def nameS : ByteArray := ⟨#[110, 97, 109, 101]⟩
def dlS : ByteArray := ⟨#[100, 97, 116, 97, 108, 105, 115, 116]⟩
def octS : ByteArray := ⟨#[97, 112, 112, 108, 105, 99, 97, 116, 105, 111, 110, 47, 111, 99, 116, 101, 116, 45, 115, 116, 114, 101, 97, 109]⟩
def charS : ByteArray := ⟨#[95, 99, 104, 97, 114, 115, 101, 116, 95]⟩
def utfS : ByteArray := ⟨#[85, 84, 70, 45, 56]⟩
def noS : ByteArray := ⟨#[]⟩
def txOf (l : List Nd) (i : Int) : ByteArray := match l[i.toNat]? with
  | some x => x.tx
  | none => ⟨#[]⟩
theorem txOf_at {l : List Nd} {k : Nat} (hk : k < l.length) : txOf l k = l[k].tx := by
  unfold txOf; rw [Int.toNat_natCast, List.getElem?_eq_getElem hk]
/-- a text's, or that of an element's children -/
def txtF (l : List Nd) (i : Int) : ByteArray := (ksOf l i).foldl (fun s k => s ++ txOf l k) (txOf l i)
noncomputable def txtB (l : List Nd) (i : Int) : ByteArray := if hasB l i = true then txtF l i else ⟨#[]⟩
def blankS : Ct := ⟨⟨#[]⟩, false, false, false, false, false, false, false, ⟨#[]⟩, []⟩
def ctOf (cs : List Ct) (i : Int) : Ct := (cs[i.toNat]?).getD blankS
theorem ctOf_at {cs : List Ct} {k : Nat} (hk : k < cs.length) : ctOf cs k = cs[k] := by
  unfold ctOf; rw [Int.toNat_natCast, List.getElem?_eq_getElem hk]; rfl
def offA (l : List Nd) (o : Int) : Bool := disA l o || (decide (0 ≤ paOf l o) && (decide (kOf l (paOf l o) = 33) && disA l (paOf l o)))
noncomputable def offF (l : List Nd) (o : Int) : Bool := isF l o 32 && offA l o
def valO (l : List Nd) (o : Int) : ByteArray := match atO (atsOf l o) vAt with
  | some s => s
  | none => ⟨(collapse (txtF l o).data.toList).toArray⟩
noncomputable def textO (l : List Nd) (o : Int) : ByteArray := if isF l o 32 = true then valO l o else ⟨#[]⟩
noncomputable def selO (l : List Nd) (cs : List Ct) (o : Int) : Bool := (ctOf cs o).se && !offF l o
noncomputable def entO (l : List Nd) (nm : ByteArray) (o : Int) : Ent := ⟨nm, textO l o, false, ⟨#[]⟩, ⟨#[]⟩⟩
noncomputable def entsSel (l : List Nd) (cs : List Ct) (sel : Int) (nm : ByteArray) : List Ent := ((listF l sel).filter (selO l cs)).map (entO l nm)
def entFi (nm : ByteArray) (f : Ent) : Ent := ⟨nm, f.v, true, f.fn, f.t⟩
def entsFile (fi : List Ent) (nm : ByteArray) : List Ent := if fi.length = 0 then [⟨nm, ⟨#[]⟩, true, ⟨#[]⟩, octS⟩] else fi.map (entFi nm)
def dotS (nm : ByteArray) : ByteArray := if nm.size = 0 then nm else nm ++ ⟨#[46]⟩
def entsImg (nm : ByteArray) : List Ent := [⟨dotS nm ++ ⟨#[120]⟩, ⟨#[48]⟩, false, ⟨#[]⟩, ⟨#[]⟩⟩, ⟨dotS nm ++ ⟨#[121]⟩, ⟨#[48]⟩, false, ⟨#[]⟩, ⟨#[]⟩⟩]
def nmF (l : List Nd) (id : Int) : ByteArray := (atO (atsOf l id) nameS).getD ⟨#[]⟩
/-- does a control add anything? -/
noncomputable def addB (l : List Nd) (cs : List Ct) (id sub : Int) : Bool :=
  if 0 ≤ upB l id dlS ∨ disF l id = true then false
  else if kOf l id = 20 then decide (id = sub)
  else if (nmF l id).size = 0 ∨ kOf l id = 22 ∨ kOf l id = 21 ∨ kOf l id = 26 ∨ kOf l id = 27 then false
  else if kOf l id = 19 ∨ kOf l id = 25 then decide (id = sub)
  else if kOf l id = 16 ∨ kOf l id = 17 then (ctOf cs id).ch
  else true
def oneV (l : List Nd) (cs : List Ct) (id : Int) : ByteArray := if kOf l id = 1 ∧ nmF l id = charS then utfS else valF (kOf l id) (ctOf cs id) (atsOf l id)
/-- .. and what -/
noncomputable def ofF (l : List Nd) (cs : List Ct) (id : Int) : List Ent :=
  if kOf l id = 20 then entsImg (nmF l id)
  else if kOf l id = 23 then entsSel l cs id (nmF l id)
  else if kOf l id = 18 then entsFile (ctOf cs id).fi (nmF l id)
  else [⟨nmF l id, oneV l cs id, false, ⟨#[]⟩, ⟨#[]⟩⟩]
noncomputable def entF (l : List Nd) (cs : List Ct) (id sub : Int) : List Ent := if addB l cs id sub = true then ofF l cs id else []
noncomputable def subP (l : List Nd) (form : Int) (k : Int) : Bool := submB (kOf l k) && decide (formF l k = form)
noncomputable def fromF (l : List Nd) (cs : List Ct) (form sub k : Int) : List Ent := if subP l form k = true then entF l cs k sub else []
noncomputable def listE (l : List Nd) (cs : List Ct) (form sub : Int) : List Ent := (ord l (topF l form)).flatMap (fromF l cs form sub)
/-- what is answered: the entries, and the error -/
noncomputable def eOf (l : List Nd) (cs : List Ct) (form : Int) : Int := if okD l cs = false ∨ form < 0 ∨ (l.length : Int) ≤ form then 4 else if kOf l form = 30 then 0 else 3
noncomputable def lOf (l : List Nd) (cs : List Ct) (form sub : Int) : List Ent := if eOf l cs form = 0 then listE l cs form sub else []
end Go.Proofs.YtafbghlldlconaaGreatDoor

/-
  WHAT A FORM SUBMITS: what it hangs on, what its names are, what a submitter adds: plain laws.
-/
namespace Go.Proofs.YtafbghlldlconaaGreatDoor
set_option linter.unusedVariables false
set_option linter.unusedSimpArgs false
open Go.RowKit PT

theorem addB_not {l : List Nd} {cs : List Ct} {id sub : Int} (h : addB l cs id sub = true) : disF l id = false ∧ (kOf l id = 20 → id = sub) ∧ (kOf l id ≠ 20 → (nmF l id).size ≠ 0) := by
  unfold addB at h
  split at h
  · cases h
  · rename_i h0
    refine ⟨by
      cases e : disF l id
      · rfl
      · exact absurd (.inr e) h0, ?_⟩
    split at h
    · rename_i h1
      exact ⟨fun _ => of_decide_eq_true h, fun e => absurd h1 e⟩
    · rename_i h1
      split at h
      · cases h
      · rename_i h2
        exact ⟨fun e => absurd e h1, fun _ e => h2 (.inl e)⟩
/-- what hangs on states -/
theorem entF_same {l : List Nd} {cs cs' : List Ct} {id sub : Int} (h1 : ctOf cs' id = ctOf cs id) (h2 : ∀ o, kOf l o = 32 → ctOf cs' o = ctOf cs o) (hm : ∀ o ∈ listF l id, kOf l o = 32) : entF l cs' id sub = entF l cs id sub := by
  have ha : addB l cs' id sub = addB l cs id sub := by unfold addB; rw [h1]
  have hs : entsSel l cs' id (nmF l id) = entsSel l cs id (nmF l id) := by
    unfold entsSel
    rw [filter_same (p := selO l cs') (q := selO l cs) (fun o ho => by unfold selO; rw [h2 o (hm o ho)])]
  have ho : ofF l cs' id = ofF l cs id := by
    unfold ofF oneV
    rw [h1, hs]
  unfold entF
  rw [ha, ho]
theorem listF_mem {l : List Nd} {id o : Int} (ho : o ∈ listF l id) : 0 ≤ o ∧ o < l.length ∧ kOf l o = 32 := by
  unfold listF at ho
  split at ho
  · rename_i h
    have hc := (isF_30 (by omega)).1 h
    obtain ⟨i0, i1⟩ := kindF_pos (l := l) (k := id) (by omega)
    exact optsOf_mem ((rightB_iff l).1 hc.1) i0 i1 ho
  · cases ho
theorem listE_same {l : List Nd} {cs cs' : List Ct} {form sub : Int} (h : ∀ k : Int, (formF l k = form ∨ kOf l k = 32) → ctOf cs' k = ctOf cs k) : listE l cs' form sub = listE l cs form sub := by
  unfold listE
  refine flatMap_eq (fun k _ => ?_)
  unfold fromF
  split
  · rename_i hs
    unfold subP at hs
    rw [Bool.and_eq_true] at hs
    exact entF_same (h k (.inl (of_decide_eq_true hs.2))) (fun o ho => h o (.inr ho)) (fun o ho => (listF_mem ho).2.2)
  · rfl
theorem okD_iff {l : List Nd} {cs : List Ct} : okD l cs = true ↔ RightP l ∧ l.length = cs.length := by
  unfold okD
  rw [Bool.and_eq_true, rightB_iff, decide_eq_true_iff]
theorem eOf_ok {l : List Nd} {cs : List Ct} {form : Int} (h : eOf l cs form = 0) : RightP l ∧ l.length = cs.length ∧ 0 ≤ form ∧ form < l.length ∧ kOf l form = 30 := by
  unfold eOf at h
  split at h
  · omega
  · rename_i h0
    split at h
    · rename_i h1
      have ho : okD l cs = true := by
        cases e : okD l cs
        · exact absurd (.inl e) h0
        · rfl
      obtain ⟨a, b⟩ := okD_iff.1 ho
      refine ⟨a, b, ?_, ?_, h1⟩
      · have : ¬ form < 0 := fun e => h0 (.inr (.inl e))
        omega
      · have : ¬ (l.length : Int) ≤ form := fun e => h0 (.inr (.inr e))
        omega
    · omega
/-- the states of whatever belongs to others are struck -/
noncomputable def othF (l : List Nd) (cs : List Ct) (form : Int) (c : Ct) : List Ct := cs.mapIdx fun i x => if formF l i ≠ form ∧ kOf l i ≠ 32 then c else x
theorem othF_len (l : List Nd) (cs : List Ct) (form : Int) (c : Ct) : (othF l cs form c).length = cs.length := by unfold othF; rw [List.length_mapIdx]
theorem kOf_neg {l : List Nd} {k : Int} (h : k < 0) : kOf l k = kOf l 0 := by
  unfold kOf
  rw [Int.toNat_of_nonpos (by omega)]
  rfl
theorem othF_at {l : List Nd} {cs : List Ct} {form : Int} {c : Ct} {k : Int} (h0 : 0 ≤ k) (h : formF l k = form ∨ kOf l k = 32) : ctOf (othF l cs form c) k = ctOf cs k := by
  obtain ⟨q, rfl⟩ := Int.eq_ofNat_of_zero_le h0
  unfold ctOf othF
  rw [Int.toNat_natCast, List.getElem?_mapIdx]
  cases cs[q]? with
  | none => rfl
  | some x =>
    rw [Option.map_some]
    rw [if_neg (fun e => by
      rcases h with h | h
      · exact e.1 h
      · exact e.2 h)]
theorem eOf_oth {l : List Nd} {cs : List Ct} {form f : Int} {c : Ct} : eOf l (othF l cs form c) f = eOf l cs f := by
  unfold eOf okD
  rw [othF_len]
theorem lOf_oth {l : List Nd} {cs : List Ct} {form sub : Int} {c : Ct} : lOf l (othF l cs form c) form sub = lOf l cs form sub := by
  unfold lOf
  rw [eOf_oth]
  split
  · rename_i h
    obtain ⟨hR, _, f0, f1, _⟩ := eOf_ok h
    obtain ⟨t0, t1⟩ := topF_range hR f0 f1
    unfold listE
    refine flatMap_eq (fun k hk => ?_)
    obtain ⟨k0, k1, _⟩ := ord_mem hR t0 t1 hk
    unfold fromF
    split
    · rename_i hs
      unfold subP at hs
      rw [Bool.and_eq_true] at hs
      refine entF_same (othF_at k0 (.inl (of_decide_eq_true hs.2))) (fun o ho => ?_) (fun o ho => (listF_mem ho).2.2)
      by_cases o0 : 0 ≤ o
      · exact othF_at o0 (.inr ho)
      · unfold ctOf
        rw [Int.toNat_of_nonpos (by omega)]
        have := othF_at (l := l) (cs := cs) (form := form) (c := c) (k := 0) (by omega) (.inr (by rw [kOf_neg (by omega)] at ho; exact ho))
        unfold ctOf at this
        exact this
    · rfl
  · rfl
/-- where an entry's name comes from -/
def fitN (l : List Nd) (sub : Int) (i : Nat) (n : ByteArray) : Bool := (decide (kOf l i = 20) && (decide (n.size ≠ 0) && decide ((i : Int) = sub))) || (decide (nmF l i = n) && decide ((nmF l i).size ≠ 0))
noncomputable def hasN (l : List Nd) (form sub : Int) (i : Nat) (n : ByteArray) : Bool := submB (kOf l i) && (decide (formF l i = form) && (!disF l i && fitN l sub i n))
theorem ofF_name {l : List Nd} {cs : List Ct} {id : Int} (h : kOf l id ≠ 20) {x : Ent} (hx : x ∈ ofF l cs id) : x.n = nmF l id := by
  unfold ofF at hx
  rw [if_neg h] at hx
  split at hx
  · unfold entsSel at hx
    obtain ⟨o, _, rfl⟩ := List.mem_map.1 hx
    rfl
  · split at hx
    · unfold entsFile at hx
      split at hx
      · rw [List.mem_singleton] at hx
        rw [hx]
      · obtain ⟨o, _, rfl⟩ := List.mem_map.1 hx
        rfl
    · rw [List.mem_singleton] at hx
      rw [hx]
theorem lOf_names {l : List Nd} {cs : List Ct} {form sub : Int} {x : Ent} (hx : x ∈ lOf l cs form sub) : ∃ i, i < l.length ∧ hasN l form sub i x.n = true := by
  unfold lOf at hx
  split at hx
  case isFalse => cases hx
  rename_i he
  obtain ⟨hR, _, f0, f1, _⟩ := eOf_ok he
  obtain ⟨t0, t1⟩ := topF_range hR f0 f1
  unfold listE at hx
  obtain ⟨k, hk, hx⟩ := List.mem_flatMap.1 hx
  obtain ⟨k0, k1, _⟩ := ord_mem hR t0 t1 hk
  unfold fromF at hx
  split at hx
  case isFalse => cases hx
  rename_i hs
  unfold subP at hs
  rw [Bool.and_eq_true] at hs
  unfold entF at hx
  split at hx
  case isFalse => cases hx
  rename_i ha
  obtain ⟨hd, h20, hne⟩ := addB_not ha
  obtain ⟨q, rfl⟩ := Int.eq_ofNat_of_zero_le k0
  refine ⟨q, by omega, ?_⟩
  unfold hasN
  rw [hs.1, hs.2, hd, Bool.true_and, Bool.true_and, Bool.not_false, Bool.true_and]
  unfold fitN
  by_cases hi : kOf l (q : Nat) = 20
  · have hsz : x.n.size ≠ 0 := by
      unfold ofF at hx
      rw [if_pos hi] at hx
      unfold entsImg at hx
      simp only [List.mem_cons, List.not_mem_nil, or_false] at hx
      rcases hx with rfl | rfl <;> simp [ByteArray.size_append]
      all_goals exact fun _ => by decide
    rw [decide_eq_true hi, decide_eq_true hsz, decide_eq_true (h20 hi)]
    rfl
  · rw [decide_eq_true (ofF_name hi hx).symm, decide_eq_true (hne hi), Bool.true_and, Bool.or_true]
/-- what a submitter adds -/
theorem entF_other {l : List Nd} {cs : List Ct} {id sub : Int} (h0 : 0 ≤ id) (h : id ≠ sub) : entF l cs id sub = entF l cs id (-1) := by
  have ha : addB l cs id sub = addB l cs id (-1) := by
    unfold addB
    rw [decide_eq_false h, decide_eq_false (show id ≠ -1 by omega)]
  unfold entF
  rw [ha]
theorem entF_self {l : List Nd} {cs : List Ct} {sub : Int} (h0 : 0 ≤ sub) : entF l cs sub sub = entF l cs sub (-1) ∨ (entF l cs sub (-1) = [] ∧ (entF l cs sub sub).length ≤ 2) := by
  have hne : sub ≠ -1 := by omega
  by_cases h20 : kOf l sub = 20
  · right
    have hf : addB l cs sub (-1) = false := by
      cases e : addB l cs sub (-1)
      · rfl
      · exact absurd ((addB_not e).2.1 h20) hne
    refine ⟨by unfold entF; rw [hf]; rfl, ?_⟩
    unfold entF
    split
    · unfold ofF
      rw [if_pos h20]
      exact Nat.le_refl _
    · exact Nat.zero_le _
  · by_cases h19 : kOf l sub = 19 ∨ kOf l sub = 25
    · right
      have hf : addB l cs sub (-1) = false := by
        unfold addB
        rw [if_neg h20, if_pos h19, decide_eq_false hne]
        split
        · rfl
        · split <;> rfl
      refine ⟨by unfold entF; rw [hf]; rfl, ?_⟩
      unfold entF
      split
      · unfold ofF
        rw [if_neg h20, if_neg (by omega), if_neg (by omega)]
        exact Nat.le_succ _
      · exact Nat.zero_le _
    · left
      have ha : addB l cs sub sub = addB l cs sub (-1) := by
        unfold addB
        rw [if_neg h20, if_neg h20, if_neg h19, if_neg h19]
      unfold entF
      rw [ha]
theorem flat_sub {l : List Nd} {cs : List Ct} {form sub : Int} : ∀ t : List Int, t.Nodup → (∀ k ∈ t, 0 ≤ k) → List.Sublist (t.flatMap (fromF l cs form (-1))) (t.flatMap (fromF l cs form sub)) ∧ (t.flatMap (fromF l cs form sub)).length ≤ (t.flatMap (fromF l cs form (-1))).length + (if sub ∈ t then 2 else 0)
  | [], _, _ => ⟨List.Sublist.refl _, Nat.zero_le _⟩
  | k :: t, hn, h0 => by
    obtain ⟨hk, ht⟩ := List.nodup_cons.1 hn
    obtain ⟨ih1, ih2⟩ := flat_sub (l := l) (cs := cs) (form := form) (sub := sub) t ht (fun y hy => h0 y (List.mem_cons_of_mem _ hy))
    have k0 := h0 k List.mem_cons_self
    rw [List.flatMap_cons, List.flatMap_cons, List.length_append, List.length_append]
    by_cases e : k = sub
    · subst e
      rw [if_neg hk] at ih2
      rw [if_pos List.mem_cons_self]
      have hcase : fromF l cs form k k = fromF l cs form (-1) k ∨ (fromF l cs form (-1) k = [] ∧ (fromF l cs form k k).length ≤ 2) := by
        unfold fromF
        split
        · exact entF_self k0
        · exact .inl rfl
      rcases hcase with e | ⟨e1, e2⟩
      · rw [e]
        exact ⟨(List.Sublist.refl _).append ih1, by omega⟩
      · rw [e1, List.nil_append]
        exact ⟨ih1.trans (List.sublist_append_right _ _), by rw [List.length_nil]; omega⟩
    · have e1 : fromF l cs form sub k = fromF l cs form (-1) k := by
        unfold fromF
        split
        · exact entF_other k0 e
        · rfl
      rw [e1]
      refine ⟨(List.Sublist.refl _).append ih1, ?_⟩
      have : (if sub ∈ k :: t then 2 else 0) = (if sub ∈ t then 2 else 0) := by
        by_cases hs : sub ∈ t
        · rw [if_pos hs, if_pos (List.mem_cons_of_mem _ hs)]
        · rw [if_neg hs, if_neg (fun hh => by
            rcases List.mem_cons.1 hh with hh | hh
            · exact e hh.symm
            · exact hs hh)]
      rw [this]
      omega
theorem lOf_sub (l : List Nd) (cs : List Ct) (form sub : Int) : List.Sublist (lOf l cs form (-1)) (lOf l cs form sub) ∧ (lOf l cs form sub).length ≤ (lOf l cs form (-1)).length + 2 := by
  unfold lOf
  split
  · rename_i he
    obtain ⟨hR, _, f0, f1, _⟩ := eOf_ok he
    obtain ⟨t0, t1⟩ := topF_range hR f0 f1
    obtain ⟨a, b⟩ := flat_sub (l := l) (cs := cs) (form := form) (sub := sub) _ (nodup_ordF hR (l.length + 2) _ t0 t1) (fun k hk => (ord_mem hR t0 t1 hk).1)
    refine ⟨a, Nat.le_trans b (Nat.add_le_add_left ?_ _)⟩
    split <;> omega
  · exact ⟨List.Sublist.refl _, Nat.zero_le _⟩
/-- one list is looked for in another, greedily -/
noncomputable def entEq (x y : Ent) : Bool := @decide (x = y) (Classical.propDecidable _)
theorem entEq_iff (x y : Ent) : entEq x y = true ↔ x = y := by
  unfold entEq
  exact @decide_eq_true_iff (x = y) (Classical.propDecidable _)
noncomputable def grd (b : List Ent) : List Ent → List Ent
  | [] => b
  | x :: a => match b with
    | [] => grd [] a
    | y :: b' => if entEq x y = true then grd b' a else grd (y :: b') a
theorem grd_nil : ∀ a : List Ent, grd [] a = []
  | [] => rfl
  | x :: a => grd_nil a
theorem grd_sub : ∀ (a b : List Ent), List.Sublist b a → grd b a = []
  | [], b, h => by rw [List.sublist_nil.1 h]; rfl
  | x :: a, [], _ => grd_nil _
  | x :: a, y :: b, h => by
    show (if entEq x y = true then grd b a else grd (y :: b) a) = []
    split
    · refine grd_sub a b ?_
      cases h with
      | cons _ h => exact (List.sublist_cons_self y b).trans h
      | cons_cons _ h => exact h
    · rename_i hne
      refine grd_sub a (y :: b) ?_
      cases h with
      | cons _ h => exact h
      | cons_cons _ h => exact absurd ((entEq_iff _ _).2 rfl) hne
end Go.Proofs.YtafbghlldlconaaGreatDoor

/-
  A FORM's ELEMENTS AND DEFAULT BUTTON: owner.in, Elements, Default: the walks.
-/
namespace Go.Proofs.YtafbghlldlconaaGreatDoor
set_option linter.unusedVariables false
set_option linter.unusedSimpArgs false
open Go.RowKit PT

end Go.Proofs.YtafbghlldlconaaGreatDoor

/-
  A FORM's SETTINGS: submit.fires, settings, Method, Kind, Asks; ref24.fires, Setting, Method, Kind, Asks: the walks.
-/
namespace Go.Proofs.YtafbghlldlconaaGreatDoor
set_option linter.unusedVariables false
set_option linter.unusedSimpArgs false
open Go.RowKit PT

/-- does a submitter fire? -/
def fireB (l : List Nd) (s : Int) : Bool := firesB (kindF l s)
theorem fireB_in {l : List Nd} {s : Int} (h : fireB l s = true) : 0 ≤ s ∧ s < l.length := by
  refine kindF_pos (l := l) (k := s) (fun e => ?_)
  unfold fireB at h
  rw [e] at h
  revert h
  decide
/-- an attribute of the submitter, or of the form -/
def setO (l : List Nd) (s : Int) (own : ByteArray) : Option ByteArray := if fireB l s = true then atO (atsOf l s) own else none
def setS (l : List Nd) (f s : Int) (own other : ByteArray) : ByteArray := match setO l s own with
  | some v => v
  | none => (atO (atsOf l f) other).getD ⟨#[]⟩
def lowS (s : ByteArray) : ByteArray := ⟨(low s.data.toList).toArray⟩
noncomputable def methF (l : List Nd) (f s : Int) : ByteArray := if hasB l f = true then (if lowS (setS l f s ⟨#[102, 111, 114, 109, 109, 101, 116, 104, 111, 100]⟩ ⟨#[109, 101, 116, 104, 111, 100]⟩) = ⟨#[112, 111, 115, 116]⟩ ∨ lowS (setS l f s ⟨#[102, 111, 114, 109, 109, 101, 116, 104, 111, 100]⟩ ⟨#[109, 101, 116, 104, 111, 100]⟩) = ⟨#[100, 105, 97, 108, 111, 103]⟩ then lowS (setS l f s ⟨#[102, 111, 114, 109, 109, 101, 116, 104, 111, 100]⟩ ⟨#[109, 101, 116, 104, 111, 100]⟩) else ⟨#[103, 101, 116]⟩) else ⟨#[]⟩
noncomputable def kinF (l : List Nd) (f s : Int) : Int := if hasB l f = true then (if lowS (setS l f s ⟨#[102, 111, 114, 109, 101, 110, 99, 116, 121, 112, 101]⟩ ⟨#[101, 110, 99, 116, 121, 112, 101]⟩) = ⟨#[109, 117, 108, 116, 105, 112, 97, 114, 116, 47, 102, 111, 114, 109, 45, 100, 97, 116, 97]⟩ then 2 else if lowS (setS l f s ⟨#[102, 111, 114, 109, 101, 110, 99, 116, 121, 112, 101]⟩ ⟨#[101, 110, 99, 116, 121, 112, 101]⟩) = ⟨#[116, 101, 120, 116, 47, 112, 108, 97, 105, 110]⟩ then 3 else 1) else 0
noncomputable def asksF (l : List Nd) (f s : Int) : Bool := hasB l f && (!(atO (atsOf l f) ⟨#[110, 111, 118, 97, 108, 105, 100, 97, 116, 101]⟩).isSome && !(fireB l s && (atO (atsOf l s) ⟨#[102, 111, 114, 109, 110, 111, 118, 97, 108, 105, 100, 97, 116, 101]⟩).isSome))
theorem atsOf_vals {l : List Nd} (h : RightP l) (i : Int) : ∀ a ∈ atsOf l i, a.v.size ≤ 4000 := by
  unfold atsOf
  split
  · rename_i x hx
    exact one_vals (h.node _ x hx).1
  · intro a ha; cases ha
theorem setS_size {l : List Nd} (h : RightP l) (f s : Int) (own other : ByteArray) : (setS l f s own other).size ≤ 4000 := by
  unfold setS setO
  have h1 := atO_size (atsOf l s) own (atsOf_vals h s)
  have h2 := atO_size (atsOf l f) other (atsOf_vals h f)
  split
  · rename_i v hv
    split at hv
    · rw [hv] at h1; exact h1
    · cases hv
  · exact h2
theorem post_toList : (⟨#[112, 111, 115, 116]⟩ : ByteArray).toList = [112, 111, 115, 116] := by rw [ByteArray.toList_eq]
theorem dia_toList : (⟨#[100, 105, 97, 108, 111, 103]⟩ : ByteArray).toList = [100, 105, 97, 108, 111, 103] := by rw [ByteArray.toList_eq]
theorem mul_toList : (⟨#[109, 117, 108, 116, 105, 112, 97, 114, 116, 47, 102, 111, 114, 109, 45, 100, 97, 116, 97]⟩ : ByteArray).toList = [109, 117, 108, 116, 105, 112, 97, 114, 116, 47, 102, 111, 114, 109, 45, 100, 97, 116, 97] := by rw [ByteArray.toList_eq]
theorem pla_toList : (⟨#[116, 101, 120, 116, 47, 112, 108, 97, 105, 110]⟩ : ByteArray).toList = [116, 101, 120, 116, 47, 112, 108, 97, 105, 110] := by rw [ByteArray.toList_eq]
set_option maxHeartbeats 4000000 in
set_option maxRecDepth 100000 in
theorem fires24_any (l : List Nd) (v : Value) (s : Int) (hl : l.length ≤ 1000000000000000000) (hRP : RightP l) (w : World) (hU : Nodes l v w) :
    Calls Tryz.prog 23 #[v, .int .i64 s] w fun e w' => e = .returned (.bool (fireB l s)) ∧ Below w.heap.size w w' := by
  obtain ⟨a, cap, rfl⟩ := hU.len
  by_cases h0 : 0 ≤ s
  case neg =>
    have hR := Lib.hid (show fireB l s = false by
      cases e : fireB l s
      · rfl
      · exact absurd (fireB_in e).1 h0)
    have h0' : decide (0 ≤ s) = false := decide_eq_false h0
    go_enter Tryz.func23, Tryz.ntmps23
    go_wp2_with fail
    go_ret
    exact ⟨ret_bool hR.out.symm, Below.refl _ _⟩
  by_cases h1 : s < l.length
  case neg =>
    have hR := Lib.hid (show fireB l s = false by
      cases e : fireB l s
      · rfl
      · exact absurd (fireB_in e).2 h1)
    have h1' : decide (s < (l.length : Int)) = false := decide_eq_false h1
    go_enter Tryz.func23, Tryz.ntmps23
    go_wp2_with fail
    go_ret
    exact ⟨ret_bool hR.out.symm, Below.refl _ _⟩
  obtain ⟨K, rfl⟩ := Int.eq_ofNat_of_zero_le h0
  have hkl : K < l.length := by omega
  obtain ⟨b, o, cap', va, vk, hv, hb, c0, c1, c2, c3, c4, hat, hks⟩ := hU.at hkl
  cases hv
  have hR := Lib.hid (show fireB l (K : Nat) = firesB (kindOf l[K]) by unfold fireB; rw [kindF_in h0 h1, kOf_at hkl])
  obtain ⟨z1, z2⟩ := hRP.vals _ (List.getElem_mem hkl)
  generalize l[K] = x at *
  obtain ⟨r0, r1⟩ := kindOf_range x
  have hK0 : (0 : Int) ≤ (K : Int) := by omega
  have hK1 : (K : Int) < (l.length : Int) := by omega
  go_enter Tryz.func23, Tryz.ntmps23
  go_wp2_with fail
  refine (kindsOf_any x va vk z1 z2 _ hat).mono ?_
  rintro e w1 ⟨rfl, hb1⟩
  go_wp2_with fail
  refine (kindsFires_any _ r0 r1 _).mono ?_
  rintro e w2 ⟨rfl, rfl⟩
  go_wp2_with fail
  go_ret
  exact ⟨ret_bool hR.out.symm, hb1⟩
set_option maxHeartbeats 4000000 in
set_option maxRecDepth 100000 in
theorem refFires24_any (l : List Nd) (v : Value) (s : Int) (hl : l.length ≤ 1000000000000000000) (hRP : RightP l) (w : World) (hU : Nodes l v w) :
    Calls Tryz.prog 36 #[v, .int .i64 s] w fun e w' => e = .returned (.bool (fireB l s)) ∧ Below w.heap.size w w' := by
  obtain ⟨a, cap, rfl⟩ := hU.len
  by_cases h0 : 0 ≤ s
  case neg =>
    have hR := Lib.hid (show fireB l s = false by
      cases e : fireB l s
      · rfl
      · exact absurd (fireB_in e).1 h0)
    have h0' : decide (0 ≤ s) = false := decide_eq_false h0
    go_enter Tryz.func36, Tryz.ntmps36
    go_wp2_with fail
    go_ret
    exact ⟨ret_bool hR.out.symm, Below.refl _ _⟩
  by_cases h1 : s < l.length
  case neg =>
    have hR := Lib.hid (show fireB l s = false by
      cases e : fireB l s
      · rfl
      · exact absurd (fireB_in e).2 h1)
    have h1' : decide (s < (l.length : Int)) = false := decide_eq_false h1
    go_enter Tryz.func36, Tryz.ntmps36
    go_wp2_with fail
    go_ret
    exact ⟨ret_bool hR.out.symm, Below.refl _ _⟩
  obtain ⟨K, rfl⟩ := Int.eq_ofNat_of_zero_le h0
  have hkl : K < l.length := by omega
  obtain ⟨b, o, cap', va, vk, hv, hb, c0, c1, c2, c3, c4, hat, hks⟩ := hU.at hkl
  cases hv
  have hR := Lib.hid (show fireB l (K : Nat) = firesB (kindOf l[K]) by unfold fireB; rw [kindF_in h0 h1, kOf_at hkl])
  have hok := (hRP.node K _ (List.getElem?_eq_getElem hkl)).1
  have z1 := one_ats hok
  have z2 := one_vals hok
  generalize l[K] = x at *
  clear hok
  obtain ⟨r0, r1⟩ := kindOf_range x
  have hK0 : (0 : Int) ≤ (K : Int) := by omega
  have hK1 : (K : Int) < (l.length : Int) := by omega
  go_enter Tryz.func36, Tryz.ntmps36
  go_wp2_with fail
  refine (refOf11_any x va vk (by omega) (fun a ha => Nat.le_trans (z2 a ha) (by omega)) _ hat).mono ?_
  rintro e w1 ⟨rfl, hb1⟩
  go_wp2_with fail
  refine (refIs5_any _ r0 r1 _).mono ?_
  rintro e w2 ⟨rfl, rfl⟩
  go_wp2_with fail
  go_ret
  exact ⟨ret_bool hR.out.symm, hb1⟩
set_option maxHeartbeats 4000000 in
set_option maxRecDepth 100000 in
theorem there_any (l : List Nd) (v : Value) (id : Int) (hl : l.length ≤ 1000000000000000000) (hz : ∀ x ∈ l, Fits x) (w : World) (hU : Nodes l v w) :
    Calls Tryz.prog 18 #[v, .int .i64 id] w fun e w' => e = .returned (.bool (hasB l id)) ∧ Below w.heap.size w w' := by
  obtain ⟨a, cap, rfl⟩ := hU.len
  have hH := show hasB l id = (decide (0 ≤ id) && (decide (id < l.length) && rightB l)) from rfl
  by_cases h0 : 0 ≤ id
  case neg =>
    have hR := Lib.hid (show hasB l id = false by rw [hH, decide_eq_false h0]; rfl)
    have h0' : decide (0 ≤ id) = false := decide_eq_false h0
    clear hH
    go_enter Tryz.func18, Tryz.ntmps18
    go_wp2_with fail
    go_ret
    exact ⟨ret_bool hR.out.symm, Below.refl _ _⟩
  by_cases h1 : id < l.length
  case neg =>
    have hR := Lib.hid (show hasB l id = false by rw [hH, decide_eq_false h1]; simp)
    have h1' : decide (id < (l.length : Int)) = false := decide_eq_false h1
    clear hH
    go_enter Tryz.func18, Tryz.ntmps18
    go_wp2_with fail
    go_ret
    exact ⟨ret_bool hR.out.symm, Below.refl _ _⟩
  have hR := Lib.hid (show hasB l id = rightB l by rw [hH, decide_eq_true h0, decide_eq_true h1]; rfl)
  clear hH
  go_enter Tryz.func18, Tryz.ntmps18
  go_wp2_with fail
  refine (right_any l _ hl hz _ hU).mono ?_
  rintro e w' ⟨rfl, hb⟩
  go_wp2_with fail
  go_ret
  exact ⟨ret_bool hR.out.symm, hb⟩
/-- what a setting's closure has caught -/
def Caught (l : List Nd) (v : Value) (f s : Int) (B : Nat) (w : World) : Prop :=
  w.cell? ⟨B, 0, none⟩ = some v ∧ w.cell? ⟨B + 1, 0, none⟩ = some (.int .i64 f) ∧ w.cell? ⟨B + 1 + 1, 0, none⟩ = some (.int .i64 s) ∧ B + 1 + 1 < w.heap.size ∧ Nodes l v w
theorem Caught.kept {l : List Nd} {v : Value} {f s : Int} {B : Nat} {w w' : World} (h : Caught l v f s B w) (hb : Below w.heap.size w w') : Caught l v f s B w' := by
  obtain ⟨a, b, c, d, e⟩ := h
  have := hb.size
  exact ⟨cellK hb (by omega) a, cellK hb (by omega) b, cellK hb d c, by omega, e.kept hb⟩
set_option maxHeartbeats 4000000 in
set_option maxRecDepth 100000 in
theorem settings_any (l : List Nd) (v : Value) (f s : Int) (w : World) (hU : Nodes l v w) :
    Calls Tryz.prog 20 #[v, .int .i64 f, .int .i64 s] w fun e w' => e = .returned (.func (.func 57) #[] #[.pointer (some ⟨w.heap.size, 0, none⟩), .pointer (some ⟨w.heap.size + 1 + 1, 0, none⟩), .pointer (some ⟨w.heap.size + 1, 0, none⟩)]) ∧ Caught l v f s w.heap.size w' ∧ Below w.heap.size w w' := by
  obtain ⟨a, cap, rfl⟩ := hU.len
  have hb0 := (((Below.refl w.heap.size w).alloc (Nat.le_refl _) (.cells #[.slice a l.length cap] 22)).alloc (by simp) (.cells #[.int .i64 f] 3)).alloc (by simp; omega) (.cells #[.int .i64 s] 3)
  have hA := Go.heap_alloc_new w (.cells #[.slice a l.length cap] 22)
  have hB := Go.heap_alloc_new (w.alloc (.cells #[.slice a l.length cap] 22)) (.cells #[.int .i64 f] 3)
  have hC := Go.heap_alloc_new ((w.alloc (.cells #[.slice a l.length cap] 22)).alloc (.cells #[.int .i64 f] 3)) (.cells #[.int .i64 s] 3)
  have s1 : (w.alloc (.cells #[.slice a l.length cap] 22)).heap.size = w.heap.size + 1 := by simp
  have s2 : ((w.alloc (.cells #[.slice a l.length cap] 22)).alloc (.cells #[.int .i64 f] 3)).heap.size = w.heap.size + 1 + 1 := by simp
  have s3 : (((w.alloc (.cells #[.slice a l.length cap] 22)).alloc (.cells #[.int .i64 f] 3)).alloc (.cells #[.int .i64 s] 3)).heap.size = w.heap.size + 1 + 1 + 1 := by simp
  have hA2 := blk_kept ((Below.refl _ (w.alloc (.cells #[.slice a l.length cap] 22))).alloc (Nat.le_refl _) (.cells #[.int .i64 f] 3)) hA
  have hA3 := blk_kept ((Below.refl _ ((w.alloc (.cells #[.slice a l.length cap] 22)).alloc (.cells #[.int .i64 f] 3))).alloc (Nat.le_refl _) (.cells #[.int .i64 s] 3)) hA2
  have hB3 := blk_kept ((Below.refl _ ((w.alloc (.cells #[.slice a l.length cap] 22)).alloc (.cells #[.int .i64 f] 3))).alloc (Nat.le_refl _) (.cells #[.int .i64 s] 3)) hB
  rw [s1] at hB3
  rw [s2] at hC
  have hCa : Caught l (.slice a l.length cap) f s w.heap.size (((w.alloc (.cells #[.slice a l.length cap] 22)).alloc (.cells #[.int .i64 f] 3)).alloc (.cells #[.int .i64 s] 3)) :=
    ⟨by simp only [World.cell?, hA3]; rfl, by simp only [World.cell?, hB3]; rfl, by simp only [World.cell?, hC]; rfl, by omega, hU.kept hb0⟩
  clear hA hB hC s1 s2 s3 hA2 hA3 hB3
  go_enter Tryz.func20, Tryz.ntmps20
  go_wp2_with fail
  go_ret
  exact ⟨rfl, hCa, hb0⟩
set_option maxHeartbeats 4000000 in
set_option maxRecDepth 100000 in
theorem setting_any (l : List Nd) (v : Value) (f s : Int) (own other : ByteArray) (hl : l.length ≤ 1000000000000000000) (hz : ∀ x ∈ l, Fits x) (hRP : RightP l) (hf : hasB l f = true) (B : Nat) (w : World) (hC : Caught l v f s B w) :
    Calls Tryz.prog 57 #[.string own, .string other, .pointer (some ⟨B, 0, none⟩), .pointer (some ⟨B + 1 + 1, 0, none⟩), .pointer (some ⟨B + 1, 0, none⟩)] w fun e w' => e = .returned (.string (setS l f s own other)) ∧ Below w.heap.size w w' := by
  have hC0 := hC
  obtain ⟨c0, c1, c2, hB, hU⟩ := hC
  obtain ⟨a, cap, rfl⟩ := hU.len
  have hA2 := Lib.hid (show attF l f other = atO (atsOf l f) other from if_pos hf)
  cases hfi : fireB l s
  · have HF := Lib.hid hfi
    have hR := Lib.hid (show setS l f s own other = (atO (atsOf l f) other).getD ⟨#[]⟩ by unfold setS setO; rw [hfi]; rfl)
    clear hfi
    go_enter Tryz.func57, Tryz.ntmps57
    go_wp2_with fail
    refine (fires24_any l _ s hl hRP _ hU).mono ?_
    rintro e w1 ⟨rfl, hb1⟩
    rw [HF.out]
    obtain ⟨d0, d1, d2, hB1, hU1⟩ := hC0.kept hb1
    go_wp2_with fail
    refine (attr_any l _ f other hl hz _ hU1).mono ?_
    rintro e w2 ⟨rfl, hb2⟩
    rw [hA2.out]
    unfold atT
    go_wp2_with fail
    go_ret
    exact ⟨ret_text hR.out.symm, bs hb1 hb2⟩
  · have HF := Lib.hid hfi
    obtain ⟨i0, i1⟩ := fireB_in hfi
    have hA1 := show attF l s own = atO (atsOf l s) own from if_pos (hasB_yes hRP i0 i1)
    have hS := show setS l f s own other = (match atO (atsOf l s) own with | some v => v | none => (atO (atsOf l f) other).getD ⟨#[]⟩) by unfold setS setO; rw [hfi]; rfl
    cases ha : atO (atsOf l s) own with
    | some y =>
      have HA := Lib.hid (hA1.trans ha)
      rw [ha] at hS
      have hR := Lib.hid (show setS l f s own other = y from hS)
      clear hfi hA1 hS ha
      go_enter Tryz.func57, Tryz.ntmps57
      go_wp2_with fail
      refine (fires24_any l _ s hl hRP _ hU).mono ?_
      rintro e w1 ⟨rfl, hb1⟩
      rw [HF.out]
      obtain ⟨d0, d1, d2, hB1, hU1⟩ := hC0.kept hb1
      go_wp2_with fail
      refine (attr_any l _ s own hl hz _ hU1).mono ?_
      rintro e w2 ⟨rfl, hb2⟩
      rw [HA.out]
      unfold atT
      go_wp2_with fail
      go_ret
      exact ⟨ret_text hR.out.symm, bs hb1 hb2⟩
    | none =>
      have HA := Lib.hid (hA1.trans ha)
      rw [ha] at hS
      have hR := Lib.hid (show setS l f s own other = (atO (atsOf l f) other).getD ⟨#[]⟩ from hS)
      clear hfi hA1 hS ha
      go_enter Tryz.func57, Tryz.ntmps57
      go_wp2_with fail
      refine (fires24_any l _ s hl hRP _ hU).mono ?_
      rintro e w1 ⟨rfl, hb1⟩
      rw [HF.out]
      obtain ⟨d0, d1, d2, hB1, hU1⟩ := hC0.kept hb1
      go_wp2_with fail
      refine (attr_any l _ s own hl hz _ hU1).mono ?_
      rintro e w2 ⟨rfl, hb2⟩
      rw [HA.out]
      unfold atT
      obtain ⟨e0, e1, e2, hB2, hU2⟩ := (hC0.kept hb1).kept hb2
      go_wp2_with fail
      refine (attr_any l _ f other hl hz _ hU2).mono ?_
      rintro e w3 ⟨rfl, hb3⟩
      rw [hA2.out]
      unfold atT
      go_wp2_with fail
      go_ret
      exact ⟨ret_text hR.out.symm, bs (bs hb1 hb2) hb3⟩
set_option maxHeartbeats 4000000 in
set_option maxRecDepth 100000 in
theorem refSetting_any (l : List Nd) (v : Value) (f s : Int) (own other : ByteArray) (hl : l.length ≤ 1000000000000000000) (hRP : RightP l) (hf : hasB l f = true) (w : World) (hU : Nodes l v w) :
    Calls Tryz.prog 33 #[v, .int .i64 f, .int .i64 s, .string own, .string other] w fun e w' => e = .returned (.string (setS l f s own other)) ∧ Below w.heap.size w w' := by
  obtain ⟨a, cap, rfl⟩ := hU.len
  obtain ⟨f0, f1, _⟩ := (hasB_iff l f).1 hf
  obtain ⟨F, rfl⟩ := Int.eq_ofNat_of_zero_le f0
  have hfl : F < l.length := by omega
  have hFa := atsOf_at hfl
  have hzF := one_ats (hRP.node F _ (List.getElem?_eq_getElem hfl)).1
  have hUF := Lib.hid (fun W hU' => Nodes.at (w := W) (v := .slice a l.length cap) hU' hfl)
  have hF0 : (0 : Int) ≤ (F : Int) := by omega
  have hF1 : (F : Int) < (l.length : Int) := by omega
  cases hfi : fireB l s
  · have HF := Lib.hid hfi
    have hR := Lib.hid (show setS l (F : Nat) s own other = (atO l[F].ats other).getD ⟨#[]⟩ by unfold setS setO; rw [hfi, hFa]; rfl)
    clear hfi hFa
    generalize l[F] = x at *
    go_enter Tryz.func33, Tryz.ntmps33
    go_wp2_with fail
    refine (refFires24_any l _ s hl hRP _ hU).mono ?_
    rintro e w1 ⟨rfl, hb1⟩
    rw [HF.out]
    obtain ⟨b, o, cap', va, vk, hv, hb, c0, c1, c2, c3, c4, hat, hks⟩ := hUF.out _ (hU.kept hb1)
    cases hv
    go_wp2_with fail
    refine (refAttr14_any x.ats _ other (by omega) _ hat).mono ?_
    rintro e w2 ⟨rfl, rfl⟩
    unfold atT
    go_wp2_with fail
    go_ret
    exact ⟨ret_text hR.out.symm, hb1⟩
  · have HF := Lib.hid hfi
    obtain ⟨i0, i1⟩ := fireB_in hfi
    obtain ⟨K, rfl⟩ := Int.eq_ofNat_of_zero_le i0
    have hkl : K < l.length := by omega
    have hS := show setS l (F : Nat) (K : Nat) own other = (match atO (atsOf l (K : Nat)) own with | some v => v | none => (atO (atsOf l (F : Nat)) other).getD ⟨#[]⟩) by unfold setS setO; rw [hfi]; rfl
    rw [atsOf_at hkl, hFa] at hS
    have hzK := one_ats (hRP.node K _ (List.getElem?_eq_getElem hkl)).1
    have hUK := Lib.hid (fun W hU' => Nodes.at (w := W) (v := .slice a l.length cap) hU' hkl)
    have hK0 : (0 : Int) ≤ (K : Int) := by omega
    have hK1 : (K : Int) < (l.length : Int) := by omega
    clear hfi hFa
    generalize l[F] = x at *
    generalize l[K] = y at *
    cases ha : atO y.ats own with
    | some z =>
      have HA := Lib.hid ha
      have HA2 := Lib.hid (show (atO y.ats own).isSome = true by rw [ha]; rfl)
      rw [ha] at hS
      have hR := Lib.hid (show setS l (F : Nat) (K : Nat) own other = z from hS)
      clear hS ha
      go_enter Tryz.func33, Tryz.ntmps33
      go_wp2_with fail
      refine (refFires24_any l _ _ hl hRP _ hU).mono ?_
      rintro e w1 ⟨rfl, hb1⟩
      rw [HF.out]
      obtain ⟨b, o, cap', va, vk, hv, hb, c0, c1, c2, c3, c4, hat, hks⟩ := hUK.out _ (hU.kept hb1)
      cases hv
      obtain ⟨a1, cap1, rfl⟩ := hat.len
      obtain ⟨a2, cap2, rfl⟩ := hks.len
      go_wp2_with fail
      refine (refHas15_any y _ _ own (by omega) _ hat).mono ?_
      rintro e w2 ⟨rfl, hb2⟩
      rw [HA2.out]
      have e2 := cellK hb2 hb c2
      go_wp2_with fail
      refine (refAttr14_any y.ats _ own (by omega) _ (hat.kept hb2)).mono ?_
      rintro e w3 ⟨rfl, rfl⟩
      rw [HA.out]
      unfold atT
      go_wp2_with fail
      go_ret
      exact ⟨ret_text hR.out.symm, bs hb1 hb2⟩
    | none =>
      have HA2 := Lib.hid (show (atO y.ats own).isSome = false by rw [ha]; rfl)
      rw [ha] at hS
      have hR := Lib.hid (show setS l (F : Nat) (K : Nat) own other = (atO x.ats other).getD ⟨#[]⟩ from hS)
      clear hS ha
      go_enter Tryz.func33, Tryz.ntmps33
      go_wp2_with fail
      refine (refFires24_any l _ _ hl hRP _ hU).mono ?_
      rintro e w1 ⟨rfl, hb1⟩
      rw [HF.out]
      obtain ⟨b, o, cap', va, vk, hv, hb, c0, c1, c2, c3, c4, hat, hks⟩ := hUK.out _ (hU.kept hb1)
      cases hv
      obtain ⟨a1, cap1, rfl⟩ := hat.len
      obtain ⟨a2, cap2, rfl⟩ := hks.len
      go_wp2_with fail
      refine (refHas15_any y _ _ own (by omega) _ hat).mono ?_
      rintro e w2 ⟨rfl, hb2⟩
      rw [HA2.out]
      obtain ⟨b5, o5, cap5, va5, vk5, hv, hb5, g0, g1, g2, g3, g4, hat5, hks5⟩ := hUF.out _ (hU.kept (bs hb1 hb2))
      cases hv
      go_wp2_with fail
      refine (refAttr14_any x.ats _ other (by omega) _ hat5).mono ?_
      rintro e w3 ⟨rfl, rfl⟩
      unfold atT
      go_wp2_with fail
      go_ret
      exact ⟨ret_text hR.out.symm, bs hb1 hb2⟩
set_option maxHeartbeats 4000000 in
set_option maxRecDepth 100000 in
theorem method_any (l : List Nd) (v : Value) (f s : Int) (hl : l.length ≤ 1000000000000000000) (hz : ∀ x ∈ l, Fits x) (w : World) (hU : Nodes l v w) :
    Calls Tryz.prog 21 #[v, .int .i64 f, .int .i64 s] w fun e w' => e = .returned (.string (methF l f s)) ∧ Below w.heap.size w w' := by
  obtain ⟨a, cap, rfl⟩ := hU.len
  cases hh : hasB l f
  · have HH := Lib.hid hh
    have hR := Lib.hid (show methF l f s = ⟨#[]⟩ from if_neg (by rw [hh]; exact Bool.false_ne_true))
    clear hh
    go_enter Tryz.func21, Tryz.ntmps21
    go_wp2_with fail
    refine (there_any l _ f hl hz _ hU).mono ?_
    rintro e w1 ⟨rfl, hb1⟩
    rw [HH.out]
    go_wp2_with fail
    go_ret
    exact ⟨ret_text hR.out.symm, hb1⟩
  have HH := Lib.hid hh
  have hRP := ((hasB_iff l f).1 hh).2.2
  have hsz := setS_size hRP f s ⟨#[102, 111, 114, 109, 109, 101, 116, 104, 111, 100]⟩ ⟨#[109, 101, 116, 104, 111, 100]⟩
  have hM := show methF l f s = (if lowS (setS l f s ⟨#[102, 111, 114, 109, 109, 101, 116, 104, 111, 100]⟩ ⟨#[109, 101, 116, 104, 111, 100]⟩) = ⟨#[112, 111, 115, 116]⟩ ∨ lowS (setS l f s ⟨#[102, 111, 114, 109, 109, 101, 116, 104, 111, 100]⟩ ⟨#[109, 101, 116, 104, 111, 100]⟩) = ⟨#[100, 105, 97, 108, 111, 103]⟩ then lowS (setS l f s ⟨#[102, 111, 114, 109, 109, 101, 116, 104, 111, 100]⟩ ⟨#[109, 101, 116, 104, 111, 100]⟩) else ⟨#[103, 101, 116]⟩) from if_pos hh
  have eg := enters_of Tryz.func57 (by kernel_rfl) rfl
  obtain ⟨y, hy⟩ : ∃ y, lowS (setS l f s ⟨#[102, 111, 114, 109, 109, 101, 116, 104, 111, 100]⟩ ⟨#[109, 101, 116, 104, 111, 100]⟩) = y := ⟨_, rfl⟩
  rw [hy] at hM
  have HV := Lib.hid (show (ByteArray.mk (low (setS l f s ⟨#[102, 111, 114, 109, 109, 101, 116, 104, 111, 100]⟩ ⟨#[109, 101, 116, 104, 111, 100]⟩).data.toList).toArray) = y from hy)
  clear hh hy
  by_cases h1 : y = ⟨#[112, 111, 115, 116]⟩
  · have hR := Lib.hid (show methF l f s = y from hM.trans (if_pos (Or.inl h1)))
    have q1 := sTrue h1
    rw [post_toList] at q1
    have HQ1 := Lib.hid q1
    clear hM h1 q1
    go_enter Tryz.func21, Tryz.ntmps21
    go_wp2_with fail
    refine (there_any l _ f hl hz _ hU).mono ?_
    rintro e w1 ⟨rfl, hb1⟩
    rw [HH.out]
    go_wp2_with fail
    refine (settings_any l _ f s _ (hU.kept hb1)).mono ?_
    rintro e w2 ⟨rfl, hC2, hb2⟩
    go_wp2_with fail
    refine (setting_any l _ f s ⟨#[102, 111, 114, 109, 109, 101, 116, 104, 111, 100]⟩ ⟨#[109, 101, 116, 104, 111, 100]⟩ hl hz hRP HH.out _ _ hC2).mono ?_
    rintro e w3 ⟨rfl, hb3⟩
    have hb03 := bs (bs hb1 hb2) hb3
    go_wp2_with fail
    refine (lower_any _ _ (by omega)).mono ?_
    rw [HV.out]
    rintro e w4 ⟨rfl, hb4⟩
    have q1 := HQ1.out
    go_wp2_with fail
    go_ret
    exact ⟨ret_text hR.out.symm, bs hb03 hb4⟩
  · have q1 := sFalse h1
    rw [post_toList] at q1
    have HQ1 := Lib.hid q1
    clear q1
    by_cases h2 : y = ⟨#[100, 105, 97, 108, 111, 103]⟩
    · have hR := Lib.hid (show methF l f s = y from hM.trans (if_pos (Or.inr h2)))
      have q2 := sTrue h2
      rw [dia_toList] at q2
      have HQ2 := Lib.hid q2
      clear hM h1 h2 q2
      go_enter Tryz.func21, Tryz.ntmps21
      go_wp2_with fail
      refine (there_any l _ f hl hz _ hU).mono ?_
      rintro e w1 ⟨rfl, hb1⟩
      rw [HH.out]
      go_wp2_with fail
      refine (settings_any l _ f s _ (hU.kept hb1)).mono ?_
      rintro e w2 ⟨rfl, hC2, hb2⟩
      go_wp2_with fail
      refine (setting_any l _ f s ⟨#[102, 111, 114, 109, 109, 101, 116, 104, 111, 100]⟩ ⟨#[109, 101, 116, 104, 111, 100]⟩ hl hz hRP HH.out _ _ hC2).mono ?_
      rintro e w3 ⟨rfl, hb3⟩
      have hb03 := bs (bs hb1 hb2) hb3
      go_wp2_with fail
      refine (lower_any _ _ (by omega)).mono ?_
      rw [HV.out]
      rintro e w4 ⟨rfl, hb4⟩
      have q1 := HQ1.out
      have q2 := HQ2.out
      go_wp2_with fail
      go_ret
      exact ⟨ret_text hR.out.symm, bs hb03 hb4⟩
    · have hR := Lib.hid (show methF l f s = ⟨#[103, 101, 116]⟩ from hM.trans (if_neg (fun h => h.elim h1 h2)))
      have q2 := sFalse h2
      rw [dia_toList] at q2
      have HQ2 := Lib.hid q2
      clear hM h1 h2 q2
      go_enter Tryz.func21, Tryz.ntmps21
      go_wp2_with fail
      refine (there_any l _ f hl hz _ hU).mono ?_
      rintro e w1 ⟨rfl, hb1⟩
      rw [HH.out]
      go_wp2_with fail
      refine (settings_any l _ f s _ (hU.kept hb1)).mono ?_
      rintro e w2 ⟨rfl, hC2, hb2⟩
      go_wp2_with fail
      refine (setting_any l _ f s ⟨#[102, 111, 114, 109, 109, 101, 116, 104, 111, 100]⟩ ⟨#[109, 101, 116, 104, 111, 100]⟩ hl hz hRP HH.out _ _ hC2).mono ?_
      rintro e w3 ⟨rfl, hb3⟩
      have hb03 := bs (bs hb1 hb2) hb3
      go_wp2_with fail
      refine (lower_any _ _ (by omega)).mono ?_
      rw [HV.out]
      rintro e w4 ⟨rfl, hb4⟩
      have q1 := HQ1.out
      have q2 := HQ2.out
      go_wp2_with fail
      go_ret
      exact ⟨ret_text hR.out.symm, bs hb03 hb4⟩
set_option maxHeartbeats 4000000 in
set_option maxRecDepth 100000 in
theorem refMethod_any (l : List Nd) (v : Value) (f s : Int) (hl : l.length ≤ 1000000000000000000) (hz : ∀ x ∈ l, Fits x) (w : World) (hU : Nodes l v w) :
    Calls Tryz.prog 32 #[v, .int .i64 f, .int .i64 s] w fun e w' => e = .returned (.string (methF l f s)) ∧ Below w.heap.size w w' := by
  obtain ⟨a, cap, rfl⟩ := hU.len
  cases hh : hasB l f
  · have HH := Lib.hid hh
    have hR := Lib.hid (show methF l f s = ⟨#[]⟩ from if_neg (by rw [hh]; exact Bool.false_ne_true))
    clear hh
    go_enter Tryz.func32, Tryz.ntmps32
    go_wp2_with fail
    refine (refHas10_any l _ f hl hz _ hU).mono ?_
    rintro e w1 ⟨rfl, hb1⟩
    rw [HH.out]
    go_wp2_with fail
    go_ret
    exact ⟨ret_text hR.out.symm, hb1⟩
  have HH := Lib.hid hh
  have hRP := ((hasB_iff l f).1 hh).2.2
  have hsz := setS_size hRP f s ⟨#[102, 111, 114, 109, 109, 101, 116, 104, 111, 100]⟩ ⟨#[109, 101, 116, 104, 111, 100]⟩
  have hM := show methF l f s = (if lowS (setS l f s ⟨#[102, 111, 114, 109, 109, 101, 116, 104, 111, 100]⟩ ⟨#[109, 101, 116, 104, 111, 100]⟩) = ⟨#[112, 111, 115, 116]⟩ ∨ lowS (setS l f s ⟨#[102, 111, 114, 109, 109, 101, 116, 104, 111, 100]⟩ ⟨#[109, 101, 116, 104, 111, 100]⟩) = ⟨#[100, 105, 97, 108, 111, 103]⟩ then lowS (setS l f s ⟨#[102, 111, 114, 109, 109, 101, 116, 104, 111, 100]⟩ ⟨#[109, 101, 116, 104, 111, 100]⟩) else ⟨#[103, 101, 116]⟩) from if_pos hh
  obtain ⟨y, hy⟩ : ∃ y, lowS (setS l f s ⟨#[102, 111, 114, 109, 109, 101, 116, 104, 111, 100]⟩ ⟨#[109, 101, 116, 104, 111, 100]⟩) = y := ⟨_, rfl⟩
  rw [hy] at hM
  have HV := Lib.hid (show (ByteArray.mk (low (setS l f s ⟨#[102, 111, 114, 109, 109, 101, 116, 104, 111, 100]⟩ ⟨#[109, 101, 116, 104, 111, 100]⟩).data.toList).toArray) = y from hy)
  clear hh hy
  by_cases h1 : y = ⟨#[112, 111, 115, 116]⟩
  · have hR := Lib.hid (show methF l f s = y from hM.trans (if_pos (Or.inl h1)))
    have q1 := sTrue h1
    rw [post_toList] at q1
    have HQ1 := Lib.hid q1
    clear hM h1 q1
    go_enter Tryz.func32, Tryz.ntmps32
    go_wp2_with fail
    refine (refHas10_any l _ f hl hz _ hU).mono ?_
    rintro e w1 ⟨rfl, hb1⟩
    rw [HH.out]
    go_wp2_with fail
    refine (refSetting_any l _ f s ⟨#[102, 111, 114, 109, 109, 101, 116, 104, 111, 100]⟩ ⟨#[109, 101, 116, 104, 111, 100]⟩ hl hRP HH.out _ (hU.kept hb1)).mono ?_
    rintro e w3 ⟨rfl, hb3⟩
    have hb03 := bs hb1 hb3
    go_wp2_with fail
    refine (refLower_any _ _ (by omega)).mono ?_
    rw [HV.out]
    rintro e w4 ⟨rfl, hb4⟩
    have q1 := HQ1.out
    go_wp2_with fail
    go_ret
    exact ⟨ret_text hR.out.symm, bs hb03 hb4⟩
  · have q1 := sFalse h1
    rw [post_toList] at q1
    have HQ1 := Lib.hid q1
    clear q1
    by_cases h2 : y = ⟨#[100, 105, 97, 108, 111, 103]⟩
    · have hR := Lib.hid (show methF l f s = y from hM.trans (if_pos (Or.inr h2)))
      have q2 := sTrue h2
      rw [dia_toList] at q2
      have HQ2 := Lib.hid q2
      clear hM h1 h2 q2
      go_enter Tryz.func32, Tryz.ntmps32
      go_wp2_with fail
      refine (refHas10_any l _ f hl hz _ hU).mono ?_
      rintro e w1 ⟨rfl, hb1⟩
      rw [HH.out]
      go_wp2_with fail
      refine (refSetting_any l _ f s ⟨#[102, 111, 114, 109, 109, 101, 116, 104, 111, 100]⟩ ⟨#[109, 101, 116, 104, 111, 100]⟩ hl hRP HH.out _ (hU.kept hb1)).mono ?_
      rintro e w3 ⟨rfl, hb3⟩
      have hb03 := bs hb1 hb3
      go_wp2_with fail
      refine (refLower_any _ _ (by omega)).mono ?_
      rw [HV.out]
      rintro e w4 ⟨rfl, hb4⟩
      have q1 := HQ1.out
      have q2 := HQ2.out
      go_wp2_with fail
      go_ret
      exact ⟨ret_text hR.out.symm, bs hb03 hb4⟩
    · have hR := Lib.hid (show methF l f s = ⟨#[103, 101, 116]⟩ from hM.trans (if_neg (fun h => h.elim h1 h2)))
      have q2 := sFalse h2
      rw [dia_toList] at q2
      have HQ2 := Lib.hid q2
      clear hM h1 h2 q2
      go_enter Tryz.func32, Tryz.ntmps32
      go_wp2_with fail
      refine (refHas10_any l _ f hl hz _ hU).mono ?_
      rintro e w1 ⟨rfl, hb1⟩
      rw [HH.out]
      go_wp2_with fail
      refine (refSetting_any l _ f s ⟨#[102, 111, 114, 109, 109, 101, 116, 104, 111, 100]⟩ ⟨#[109, 101, 116, 104, 111, 100]⟩ hl hRP HH.out _ (hU.kept hb1)).mono ?_
      rintro e w3 ⟨rfl, hb3⟩
      have hb03 := bs hb1 hb3
      go_wp2_with fail
      refine (refLower_any _ _ (by omega)).mono ?_
      rw [HV.out]
      rintro e w4 ⟨rfl, hb4⟩
      have q1 := HQ1.out
      have q2 := HQ2.out
      go_wp2_with fail
      go_ret
      exact ⟨ret_text hR.out.symm, bs hb03 hb4⟩
set_option maxHeartbeats 4000000 in
set_option maxRecDepth 100000 in
theorem kind24_any (l : List Nd) (v : Value) (f s : Int) (hl : l.length ≤ 1000000000000000000) (hz : ∀ x ∈ l, Fits x) (w : World) (hU : Nodes l v w) :
    Calls Tryz.prog 25 #[v, .int .i64 f, .int .i64 s] w fun e w' => e = .returned (.int .i64 (kinF l f s)) ∧ Below w.heap.size w w' := by
  obtain ⟨a, cap, rfl⟩ := hU.len
  cases hh : hasB l f
  · have HH := Lib.hid hh
    have hR := Lib.hid (show kinF l f s = 0 from if_neg (by rw [hh]; exact Bool.false_ne_true))
    clear hh
    go_enter Tryz.func25, Tryz.ntmps25
    go_wp2_with fail
    refine (there_any l _ f hl hz _ hU).mono ?_
    rintro e w1 ⟨rfl, hb1⟩
    rw [HH.out]
    go_wp2_with fail
    go_ret
    exact ⟨ret_int hR.out.symm, hb1⟩
  have HH := Lib.hid hh
  have hRP := ((hasB_iff l f).1 hh).2.2
  have hsz := setS_size hRP f s ⟨#[102, 111, 114, 109, 101, 110, 99, 116, 121, 112, 101]⟩ ⟨#[101, 110, 99, 116, 121, 112, 101]⟩
  have hM := show kinF l f s = (if lowS (setS l f s ⟨#[102, 111, 114, 109, 101, 110, 99, 116, 121, 112, 101]⟩ ⟨#[101, 110, 99, 116, 121, 112, 101]⟩) = ⟨#[109, 117, 108, 116, 105, 112, 97, 114, 116, 47, 102, 111, 114, 109, 45, 100, 97, 116, 97]⟩ then 2 else if lowS (setS l f s ⟨#[102, 111, 114, 109, 101, 110, 99, 116, 121, 112, 101]⟩ ⟨#[101, 110, 99, 116, 121, 112, 101]⟩) = ⟨#[116, 101, 120, 116, 47, 112, 108, 97, 105, 110]⟩ then 3 else 1) from if_pos hh
  have eg := enters_of Tryz.func57 (by kernel_rfl) rfl
  obtain ⟨y, hy⟩ : ∃ y, lowS (setS l f s ⟨#[102, 111, 114, 109, 101, 110, 99, 116, 121, 112, 101]⟩ ⟨#[101, 110, 99, 116, 121, 112, 101]⟩) = y := ⟨_, rfl⟩
  rw [hy] at hM
  have HV := Lib.hid (show (ByteArray.mk (low (setS l f s ⟨#[102, 111, 114, 109, 101, 110, 99, 116, 121, 112, 101]⟩ ⟨#[101, 110, 99, 116, 121, 112, 101]⟩).data.toList).toArray) = y from hy)
  clear hh hy
  by_cases h1 : y = ⟨#[109, 117, 108, 116, 105, 112, 97, 114, 116, 47, 102, 111, 114, 109, 45, 100, 97, 116, 97]⟩
  · have hR := Lib.hid (show kinF l f s = 2 from hM.trans (if_pos h1))
    have q1 := sTrue h1
    rw [mul_toList] at q1
    have HQ1 := Lib.hid q1
    clear hM h1 q1
    go_enter Tryz.func25, Tryz.ntmps25
    go_wp2_with fail
    refine (there_any l _ f hl hz _ hU).mono ?_
    rintro e w1 ⟨rfl, hb1⟩
    rw [HH.out]
    go_wp2_with fail
    refine (settings_any l _ f s _ (hU.kept hb1)).mono ?_
    rintro e w2 ⟨rfl, hC2, hb2⟩
    go_wp2_with fail
    refine (setting_any l _ f s ⟨#[102, 111, 114, 109, 101, 110, 99, 116, 121, 112, 101]⟩ ⟨#[101, 110, 99, 116, 121, 112, 101]⟩ hl hz hRP HH.out _ _ hC2).mono ?_
    rintro e w3 ⟨rfl, hb3⟩
    have hb03 := bs (bs hb1 hb2) hb3
    go_wp2_with fail
    refine (lower_any _ _ (by omega)).mono ?_
    rw [HV.out]
    rintro e w4 ⟨rfl, hb4⟩
    have q1 := HQ1.out
    go_wp2_with fail
    go_ret
    exact ⟨ret_int hR.out.symm, bs hb03 hb4⟩
  · have q1 := sFalse h1
    rw [mul_toList] at q1
    have HQ1 := Lib.hid q1
    clear q1
    by_cases h2 : y = ⟨#[116, 101, 120, 116, 47, 112, 108, 97, 105, 110]⟩
    · have hR := Lib.hid (show kinF l f s = 3 from hM.trans ((if_neg h1).trans (if_pos h2)))
      have q2 := sTrue h2
      rw [pla_toList] at q2
      have HQ2 := Lib.hid q2
      clear hM h1 h2 q2
      go_enter Tryz.func25, Tryz.ntmps25
      go_wp2_with fail
      refine (there_any l _ f hl hz _ hU).mono ?_
      rintro e w1 ⟨rfl, hb1⟩
      rw [HH.out]
      go_wp2_with fail
      refine (settings_any l _ f s _ (hU.kept hb1)).mono ?_
      rintro e w2 ⟨rfl, hC2, hb2⟩
      go_wp2_with fail
      refine (setting_any l _ f s ⟨#[102, 111, 114, 109, 101, 110, 99, 116, 121, 112, 101]⟩ ⟨#[101, 110, 99, 116, 121, 112, 101]⟩ hl hz hRP HH.out _ _ hC2).mono ?_
      rintro e w3 ⟨rfl, hb3⟩
      have hb03 := bs (bs hb1 hb2) hb3
      go_wp2_with fail
      refine (lower_any _ _ (by omega)).mono ?_
      rw [HV.out]
      rintro e w4 ⟨rfl, hb4⟩
      have q1 := HQ1.out
      have q2 := HQ2.out
      go_wp2_with fail
      go_ret
      exact ⟨ret_int hR.out.symm, bs hb03 hb4⟩
    · have hR := Lib.hid (show kinF l f s = 1 from hM.trans ((if_neg h1).trans (if_neg h2)))
      have q2 := sFalse h2
      rw [pla_toList] at q2
      have HQ2 := Lib.hid q2
      clear hM h1 h2 q2
      go_enter Tryz.func25, Tryz.ntmps25
      go_wp2_with fail
      refine (there_any l _ f hl hz _ hU).mono ?_
      rintro e w1 ⟨rfl, hb1⟩
      rw [HH.out]
      go_wp2_with fail
      refine (settings_any l _ f s _ (hU.kept hb1)).mono ?_
      rintro e w2 ⟨rfl, hC2, hb2⟩
      go_wp2_with fail
      refine (setting_any l _ f s ⟨#[102, 111, 114, 109, 101, 110, 99, 116, 121, 112, 101]⟩ ⟨#[101, 110, 99, 116, 121, 112, 101]⟩ hl hz hRP HH.out _ _ hC2).mono ?_
      rintro e w3 ⟨rfl, hb3⟩
      have hb03 := bs (bs hb1 hb2) hb3
      go_wp2_with fail
      refine (lower_any _ _ (by omega)).mono ?_
      rw [HV.out]
      rintro e w4 ⟨rfl, hb4⟩
      have q1 := HQ1.out
      have q2 := HQ2.out
      go_wp2_with fail
      go_ret
      exact ⟨ret_int hR.out.symm, bs hb03 hb4⟩
set_option maxHeartbeats 4000000 in
set_option maxRecDepth 100000 in
theorem refKind24_any (l : List Nd) (v : Value) (f s : Int) (hl : l.length ≤ 1000000000000000000) (hz : ∀ x ∈ l, Fits x) (w : World) (hU : Nodes l v w) :
    Calls Tryz.prog 38 #[v, .int .i64 f, .int .i64 s] w fun e w' => e = .returned (.int .i64 (kinF l f s)) ∧ Below w.heap.size w w' := by
  obtain ⟨a, cap, rfl⟩ := hU.len
  cases hh : hasB l f
  · have HH := Lib.hid hh
    have hR := Lib.hid (show kinF l f s = 0 from if_neg (by rw [hh]; exact Bool.false_ne_true))
    clear hh
    go_enter Tryz.func38, Tryz.ntmps38
    go_wp2_with fail
    refine (refHas10_any l _ f hl hz _ hU).mono ?_
    rintro e w1 ⟨rfl, hb1⟩
    rw [HH.out]
    go_wp2_with fail
    go_ret
    exact ⟨ret_int hR.out.symm, hb1⟩
  have HH := Lib.hid hh
  have hRP := ((hasB_iff l f).1 hh).2.2
  have hsz := setS_size hRP f s ⟨#[102, 111, 114, 109, 101, 110, 99, 116, 121, 112, 101]⟩ ⟨#[101, 110, 99, 116, 121, 112, 101]⟩
  have hM := show kinF l f s = (if lowS (setS l f s ⟨#[102, 111, 114, 109, 101, 110, 99, 116, 121, 112, 101]⟩ ⟨#[101, 110, 99, 116, 121, 112, 101]⟩) = ⟨#[109, 117, 108, 116, 105, 112, 97, 114, 116, 47, 102, 111, 114, 109, 45, 100, 97, 116, 97]⟩ then 2 else if lowS (setS l f s ⟨#[102, 111, 114, 109, 101, 110, 99, 116, 121, 112, 101]⟩ ⟨#[101, 110, 99, 116, 121, 112, 101]⟩) = ⟨#[116, 101, 120, 116, 47, 112, 108, 97, 105, 110]⟩ then 3 else 1) from if_pos hh
  obtain ⟨y, hy⟩ : ∃ y, lowS (setS l f s ⟨#[102, 111, 114, 109, 101, 110, 99, 116, 121, 112, 101]⟩ ⟨#[101, 110, 99, 116, 121, 112, 101]⟩) = y := ⟨_, rfl⟩
  rw [hy] at hM
  have HV := Lib.hid (show (ByteArray.mk (low (setS l f s ⟨#[102, 111, 114, 109, 101, 110, 99, 116, 121, 112, 101]⟩ ⟨#[101, 110, 99, 116, 121, 112, 101]⟩).data.toList).toArray) = y from hy)
  clear hh hy
  by_cases h1 : y = ⟨#[109, 117, 108, 116, 105, 112, 97, 114, 116, 47, 102, 111, 114, 109, 45, 100, 97, 116, 97]⟩
  · have hR := Lib.hid (show kinF l f s = 2 from hM.trans (if_pos h1))
    have q1 := sTrue h1
    rw [mul_toList] at q1
    have HQ1 := Lib.hid q1
    clear hM h1 q1
    go_enter Tryz.func38, Tryz.ntmps38
    go_wp2_with fail
    refine (refHas10_any l _ f hl hz _ hU).mono ?_
    rintro e w1 ⟨rfl, hb1⟩
    rw [HH.out]
    go_wp2_with fail
    refine (refSetting_any l _ f s ⟨#[102, 111, 114, 109, 101, 110, 99, 116, 121, 112, 101]⟩ ⟨#[101, 110, 99, 116, 121, 112, 101]⟩ hl hRP HH.out _ (hU.kept hb1)).mono ?_
    rintro e w3 ⟨rfl, hb3⟩
    have hb03 := bs hb1 hb3
    go_wp2_with fail
    refine (refLower_any _ _ (by omega)).mono ?_
    rw [HV.out]
    rintro e w4 ⟨rfl, hb4⟩
    have q1 := HQ1.out
    go_wp2_with fail
    go_ret
    exact ⟨ret_int hR.out.symm, bs hb03 hb4⟩
  · have q1 := sFalse h1
    rw [mul_toList] at q1
    have HQ1 := Lib.hid q1
    clear q1
    by_cases h2 : y = ⟨#[116, 101, 120, 116, 47, 112, 108, 97, 105, 110]⟩
    · have hR := Lib.hid (show kinF l f s = 3 from hM.trans ((if_neg h1).trans (if_pos h2)))
      have q2 := sTrue h2
      rw [pla_toList] at q2
      have HQ2 := Lib.hid q2
      clear hM h1 h2 q2
      go_enter Tryz.func38, Tryz.ntmps38
      go_wp2_with fail
      refine (refHas10_any l _ f hl hz _ hU).mono ?_
      rintro e w1 ⟨rfl, hb1⟩
      rw [HH.out]
      go_wp2_with fail
      refine (refSetting_any l _ f s ⟨#[102, 111, 114, 109, 101, 110, 99, 116, 121, 112, 101]⟩ ⟨#[101, 110, 99, 116, 121, 112, 101]⟩ hl hRP HH.out _ (hU.kept hb1)).mono ?_
      rintro e w3 ⟨rfl, hb3⟩
      have hb03 := bs hb1 hb3
      go_wp2_with fail
      refine (refLower_any _ _ (by omega)).mono ?_
      rw [HV.out]
      rintro e w4 ⟨rfl, hb4⟩
      have q1 := HQ1.out
      have q2 := HQ2.out
      go_wp2_with fail
      go_ret
      exact ⟨ret_int hR.out.symm, bs hb03 hb4⟩
    · have hR := Lib.hid (show kinF l f s = 1 from hM.trans ((if_neg h1).trans (if_neg h2)))
      have q2 := sFalse h2
      rw [pla_toList] at q2
      have HQ2 := Lib.hid q2
      clear hM h1 h2 q2
      go_enter Tryz.func38, Tryz.ntmps38
      go_wp2_with fail
      refine (refHas10_any l _ f hl hz _ hU).mono ?_
      rintro e w1 ⟨rfl, hb1⟩
      rw [HH.out]
      go_wp2_with fail
      refine (refSetting_any l _ f s ⟨#[102, 111, 114, 109, 101, 110, 99, 116, 121, 112, 101]⟩ ⟨#[101, 110, 99, 116, 121, 112, 101]⟩ hl hRP HH.out _ (hU.kept hb1)).mono ?_
      rintro e w3 ⟨rfl, hb3⟩
      have hb03 := bs hb1 hb3
      go_wp2_with fail
      refine (refLower_any _ _ (by omega)).mono ?_
      rw [HV.out]
      rintro e w4 ⟨rfl, hb4⟩
      have q1 := HQ1.out
      have q2 := HQ2.out
      go_wp2_with fail
      go_ret
      exact ⟨ret_int hR.out.symm, bs hb03 hb4⟩
end Go.Proofs.YtafbghlldlconaaGreatDoor

/-
  A CONTROL's VALUE: valid.Value, ref18.Value: the walks, of a control that is no select and no file.
-/
namespace Go.Proofs.YtafbghlldlconaaGreatDoor
set_option linter.unusedVariables false
set_option linter.unusedSimpArgs false
open Go.RowKit PT

theorem one_allocV {w : World} (o : Obj) : Below w.heap.size w (w.alloc o) := (Below.refl w.heap.size w).alloc (Nat.le_refl _) o
/-- a control's value, by its place -/
noncomputable def valDO (l : List Nd) (cs : List Ct) (k : Int) : ByteArray := valF (kOf l k) (ctOf cs k) (atsOf l k)
set_option maxHeartbeats 4000000 in
set_option maxRecDepth 100000 in
theorem validVal_any (l : List Nd) (cs : List Ct) (vn vc : Value) (K : Nat) (hkl : K < l.length) (hRP : RightP l) (hll : l.length = cs.length) (h23 : kOf l (K : Nat) ≠ 23) (h18 : kOf l (K : Nat) ≠ 18) (w : World) (hD : DocAt l cs vn vc w) :
    Calls Tryz.prog 64 #[.agg #[vn, vc], .int .i64 K] w fun e w' => e = .returned (.string (valDO l cs (K : Nat))) ∧ Below w.heap.size w w' := by
  have hvals := hRP.vals
  obtain ⟨a1, cap1, rfl⟩ := hD.nodes.nodes.len
  obtain ⟨a2, cap2, rfl⟩ := hD.ctls.len
  obtain ⟨hD1, hb1, hs1, c0, c1⟩ := doc_box (T := 25) hD
  have hkc : K < cs.length := by omega
  obtain ⟨b, o, cap', va, vk, hv, hb, e0, e1, e2, e3, e4, hat, hks⟩ := hD1.nodes.nodes.at hkl
  cases hv
  obtain ⟨b', o', cap'', vf, hv, hb', ⟨x0, x1, x2, x3, x4, x5, x6, x7, x8, x9⟩, hEn⟩ := hD1.ctls.at hkc
  cases hv
  obtain ⟨z1, z2⟩ := hvals _ (List.getElem_mem hkl)
  have hV := show valDO l cs (K : Nat) = valF (kOf l (K : Nat)) (ctOf cs (K : Nat)) (atsOf l (K : Nat)) from rfl
  rw [kOf_at hkl, ctOf_at hkc, atsOf_at hkl] at hV
  rw [kOf_at hkl] at h23 h18
  generalize l[K] = nd at *
  generalize cs[K] = c at *
  obtain ⟨k0, k1⟩ := kindOf_range nd
  obtain ⟨kk, hkk⟩ : ∃ kk, kindOf nd = kk := ⟨_, rfl⟩
  rw [hkk] at hV k0 k1 h23 h18
  have HK := Lib.hid hkk
  have HV := Lib.hid hV
  have q23 := intNe h23
  have h4 : modeF kk = 4 → ∀ x ∈ c.fi, x.fn.size ≤ 140737488351232 := fun h => absurd (mode4 h) h18
  clear hkk hV h23 h18 hll
  obtain ⟨a5, c5, rfl⟩ := hat.len
  obtain ⟨a6, c6, rfl⟩ := hks.len
  obtain ⟨a7, c7, rfl⟩ := hEn.len
  have hK0 : (0 : Int) ≤ (K : Int) := by omega
  have hK1 : (K : Int) < (l.length : Int) := by omega
  have hK2 : (K : Int) < (cs.length : Int) := by omega
  go_enter Tryz.func64, Tryz.ntmps64
  go_wp2_with fail
  generalize World.alloc w _ = W1 at hD1 hb1 hs1 c0 c1 hat hks e0 e1 e2 e3 e4 x0 x1 x2 x3 x4 x5 x6 x7 x8 x9 hEn hb hb' ⊢
  have hnw := Go.heap_alloc_new W1 (.cells #[.string nd.nm, .string nd.tx, .slice a5 nd.ats.length c5, .int .i64 nd.pa, .slice a6 nd.ks.length c6] 54)
  rw [hs1] at hnw
  have hb2 := one_allocV (w := W1) (.cells #[.string nd.nm, .string nd.tx, .slice a5 nd.ats.length c5, .int .i64 nd.pa, .slice a6 nd.ks.length c6] 54)
  have hs2 : (W1.alloc (.cells #[.string nd.nm, .string nd.tx, .slice a5 nd.ats.length c5, .int .i64 nd.pa, .slice a6 nd.ks.length c6] 54)).heap.size = W1.heap.size + 1 := by simp
  have y2 : (W1.alloc (.cells #[.string nd.nm, .string nd.tx, .slice a5 nd.ats.length c5, .int .i64 nd.pa, .slice a6 nd.ks.length c6] 54)).cell? ⟨w.heap.size + 1, 2, none⟩ = some (.slice a5 nd.ats.length c5) := by simp only [World.cell?, hnw]; rfl
  clear hnw
  generalize World.alloc W1 _ = W2 at hb2 hs2 y2 ⊢
  have hD2 := hD1.kept hb2
  refine (kindsOf_any nd _ _ z1 z2 _ (hat.kept hb2)).mono ?_
  rintro e w3 ⟨rfl, hb3⟩
  rw [HK.out]
  have hb23 := bs hb2 hb3
  have d0 := cellK hb23 (by omega) c0
  have d1 := cellK hb23 (by omega) c1
  have g2 := cellK hb3 (by omega) y2
  have y0 := cellK hb23 hb' x0
  have y1 := cellK hb23 hb' x1
  have y2' := cellK hb23 hb' x2
  have y3 := cellK hb23 hb' x3
  have y4 := cellK hb23 hb' x4
  have y5 := cellK hb23 hb' x5
  have y6 := cellK hb23 hb' x6
  have y7 := cellK hb23 hb' x7
  have y8 := cellK hb23 hb' x8
  have y9 := cellK hb23 hb' x9
  go_wp2_with fail
  refine wp_region_still_tail 8 (by kernel_rfl) (by kernel_rfl) ?_
  simp only [List.take_succ_cons, List.take_zero, List.drop_succ_cons, List.drop_zero]
  repeat still_step
  refine wpStill_nil ?_
  change wpList _ _ _ _ _ w3.drew
  have hbd : Below w3.heap.size w3 w3.drew := below_draws w3 1
  go_wp2_with fail
  refine (ctlValue_any kk k0 k1 c _ nd.ats _ z1 h4 _ (hEn.kept (bs hb23 hbd)) ((hat.kept hb23).kept hbd)).mono ?_
  rintro e w5 ⟨rfl, hb5⟩
  rw [← HV.out]
  go_wp2_with fail
  go_ret
  exact ⟨rfl, bs (bs (bs hb1 hb23) hbd) hb5⟩
set_option maxHeartbeats 4000000 in
set_option maxRecDepth 100000 in
theorem validValue_any (l : List Nd) (cs : List Ct) (vn vc : Value) (K : Nat) (hkl : K < l.length) (hRP : RightP l) (hll : l.length = cs.length) (h23 : kOf l (K : Nat) ≠ 23) (h18 : kOf l (K : Nat) ≠ 18) (w : World) (hD : DocAt l cs vn vc w) :
    Calls Tryz.prog 24 #[.agg #[vn, vc], .int .i64 K] w fun e w' => e = .returned (.string (valDO l cs (K : Nat))) ∧ Below w.heap.size w w' := by
  obtain ⟨a1, cap1, rfl⟩ := hD.nodes.nodes.len
  obtain ⟨a2, cap2, rfl⟩ := hD.ctls.len
  obtain ⟨hD1, hb1, hs1, c0, c1⟩ := doc_box (T := 25) hD
  have hok := Lib.hid (okD_iff.2 ⟨hRP, hll⟩)
  have HLL := Lib.hid hll
  have hK0 : (0 : Int) ≤ (K : Int) := by omega
  have hK1 : (K : Int) < (l.length : Int) := by omega
  clear hll
  have hth : ∀ W, DocAt l cs (.slice a1 l.length cap1) (.slice a2 cs.length cap2) W → Calls Tryz.prog 63 #[.agg #[.slice a1 l.length cap1, .slice a2 cs.length cap2], .int .i64 K] W fun e w' => e = .returned (.bool true) ∧ Below W.heap.size W w' := by
    intro W hDW
    obtain ⟨hD1, hb1, hs1, c0, c1⟩ := doc_box (T := 25) hDW
    go_enter Tryz.func63, Tryz.ntmps63
    go_wp2_with fail
    refine (optRight_any l cs _ _ _ hD1).mono ?_
    rintro e w2 ⟨rfl, hb2⟩
    rw [hok.out]
    go_wp2_with fail
    go_ret
    exact ⟨rfl, bs hb1 hb2⟩
  go_enter Tryz.func24, Tryz.ntmps24
  go_wp2_with fail
  generalize World.alloc w _ = W1 at hD1 hb1 hs1 c0 c1 ⊢
  refine (hth _ hD1).mono ?_
  rintro e w2 ⟨rfl, hb2⟩
  have d0 := cellK hb2 (by omega) c0
  have d1 := cellK hb2 (by omega) c1
  go_wp2_with fail
  refine (validVal_any l cs _ _ K hkl hRP HLL.out h23 h18 _ (hD1.kept hb2)).mono ?_
  rintro e w3 ⟨rfl, hb3⟩
  go_wp2_with fail
  go_ret
  exact ⟨rfl, bs hb1 (bs hb2 hb3)⟩
set_option maxHeartbeats 4000000 in
set_option maxRecDepth 100000 in
theorem refValue18_any (l : List Nd) (cs : List Ct) (vn vc : Value) (K : Nat) (hkl : K < l.length) (hRP : RightP l) (hll : l.length = cs.length) (h23 : kOf l (K : Nat) ≠ 23) (h18 : kOf l (K : Nat) ≠ 18) (w : World) (hD : DocAt l cs vn vc w) :
    Calls Tryz.prog 37 #[.agg #[vn, vc], .int .i64 K] w fun e w' => e = .returned (.string (valDO l cs (K : Nat))) ∧ Below w.heap.size w w' := by
  obtain ⟨a1, cap1, rfl⟩ := hD.nodes.nodes.len
  obtain ⟨a2, cap2, rfl⟩ := hD.ctls.len
  obtain ⟨hD1, hb1, hs1, c0, c1⟩ := doc_box (T := 25) hD
  have hkc : K < cs.length := by omega
  obtain ⟨b, o, cap', va, vk, hv, hb, e0, e1, e2, e3, e4, hat, hks⟩ := hD1.nodes.nodes.at hkl
  cases hv
  obtain ⟨b', o', cap'', vf, hv, hb', ⟨x0, x1, x2, x3, x4, x5, x6, x7, x8, x9⟩, hEn⟩ := hD1.ctls.at hkc
  cases hv
  have z1 := one_ats (hRP.node K _ (List.getElem?_eq_getElem hkl)).1
  have z3 := one_vals (hRP.node K _ (List.getElem?_eq_getElem hkl)).1
  have hV := show valDO l cs (K : Nat) = valF (kOf l (K : Nat)) (ctOf cs (K : Nat)) (atsOf l (K : Nat)) from rfl
  rw [kOf_at hkl, ctOf_at hkc, atsOf_at hkl] at hV
  rw [kOf_at hkl] at h23 h18
  generalize l[K] = nd at *
  generalize cs[K] = c at *
  obtain ⟨k0, k1⟩ := kindOf_range nd
  obtain ⟨kk, hkk⟩ : ∃ kk, kindOf nd = kk := ⟨_, rfl⟩
  rw [hkk] at hV k0 k1 h23 h18
  have HK := Lib.hid hkk
  have HV := Lib.hid hV
  have q23 := intNe h23
  have h4 : modeF kk = 4 → ∀ x ∈ c.fi, x.fn.size ≤ 140737488351232 := fun h => absurd (mode4 h) h18
  clear hkk hV h23 h18 hll
  obtain ⟨a5, c5, rfl⟩ := hEn.len
  have hK0 : (0 : Int) ≤ (K : Int) := by omega
  have hK1 : (K : Int) < (l.length : Int) := by omega
  have hK2 : (K : Int) < (cs.length : Int) := by omega
  go_enter Tryz.func37, Tryz.ntmps37
  go_wp2_with fail
  generalize World.alloc w _ = W1 at hD1 hb1 hs1 c0 c1 hat hks e0 e1 e2 e3 e4 x0 x1 x2 x3 x4 x5 x6 x7 x8 x9 hEn hb hb' ⊢
  refine (refOf11_any nd va vk (by omega) (fun a ha => Nat.le_trans (z3 a ha) (by omega)) _ hat).mono ?_
  rintro e w2 ⟨rfl, hb2⟩
  rw [HK.out]
  have d0 := cellK hb2 (by omega) c0
  have d1 := cellK hb2 (by omega) c1
  have f2 := cellK hb2 hb e2
  have y0 := cellK hb2 hb' x0
  have y1 := cellK hb2 hb' x1
  have y2' := cellK hb2 hb' x2
  have y3 := cellK hb2 hb' x3
  have y4 := cellK hb2 hb' x4
  have y5 := cellK hb2 hb' x5
  have y6 := cellK hb2 hb' x6
  have y7 := cellK hb2 hb' x7
  have y8 := cellK hb2 hb' x8
  have y9 := cellK hb2 hb' x9
  obtain ⟨a6, c6, rfl⟩ := hat.len
  go_wp2_with fail
  refine wp_region_still_tail 12 (by kernel_rfl) (by kernel_rfl) ?_
  simp only [List.take_succ_cons, List.take_zero, List.drop_succ_cons, List.drop_zero]
  repeat still_step
  refine wpStill_nil ?_
  change wpList _ _ _ _ _ w2.drew
  have hbd : Below w2.heap.size w2 w2.drew := below_draws w2 1
  go_wp2_with fail
  refine (refValue14_any kk k0 k1 c _ nd.ats _ (by omega) h4 _ (hEn.kept (bs hb2 hbd)) ((hat.kept hb2).kept hbd)).mono ?_
  rintro e w5 ⟨rfl, hb5⟩
  rw [← HV.out]
  go_wp2_with fail
  go_ret
  exact ⟨rfl, bs (bs (bs hb1 hb2) hbd) hb5⟩
end Go.Proofs.YtafbghlldlconaaGreatDoor

/-
  PLAIN LAWS ON strings.Split and strings.Cut AT ONE BYTE: no program in sight.
-/
namespace Go.Proofs.YtafbghlldlconaaGreatDoor.PT
set_option linter.unusedVariables false
set_option linter.unusedSimpArgs false

/-- the texts between a sign, the one that has begun ahead -/
def spl (c : UInt8) (cur : List UInt8) : List UInt8 → List (List UInt8)
  | [] => [cur]
  | d :: r => if d = c then cur :: spl c [] r else spl c (cur ++ [d]) r
def onHead (d : List UInt8) : List (List UInt8) → List (List UInt8)
  | [] => []
  | x :: l => (d ++ x) :: l
theorem spl_head (c : UInt8) : ∀ (l cur : List UInt8), spl c cur l = onHead cur (spl c [] l)
  | [], cur => by simp [spl, onHead]
  | d :: r, cur => by
    unfold spl
    by_cases h : d = c
    · rw [if_pos h, if_pos h]; simp [onHead]
    · rw [if_neg h, if_neg h, spl_head c r (cur ++ [d]), spl_head c r ([] ++ [d])]
      cases spl c [] r with
      | nil => rfl
      | cons x l => simp [onHead]
theorem index_hit (c : UInt8) (r : List UInt8) : Lib.index (c :: r) [c] = (0 : Nat) := by
  rw [Lib.index, if_pos (by simp [List.isPrefixOf])]; rfl
theorem index_miss (c d : UInt8) (r : List UInt8) (h : d ≠ c) : Lib.index (d :: r) [c] = if Lib.index r [c] == -1 then -1 else Lib.index r [c] + 1 := by
  rw [Lib.index, if_neg (by simp [List.isPrefixOf]; exact fun e => h e.symm)]
theorem index_nil (c : UInt8) : Lib.index [] [c] = -1 := rfl
theorem split_spl (c : UInt8) : ∀ l : List UInt8, Lib.splitK [c] 0 (Lib.count l [c]) l = spl c [] l
  | [] => by rw [Lib.count_miss (index_nil c)]; rfl
  | d :: r => by
    have ih := split_spl c r
    by_cases h : d = c
    · subst h
      rw [Lib.count_hit (by simp) (index_hit d r), Nat.add_comm 1, Lib.splitK, if_neg (by rw [index_hit]; simp), index_hit, spl, if_pos rfl]
      simp [ih]
    · have hx := index_miss c d r h
      rw [spl, if_neg h, spl_head, ← ih]
      by_cases hm : Lib.index r [c] = -1
      · rw [hm] at hx
        rw [Lib.count_miss (s := d :: r) hx, Lib.count_miss hm]
        rfl
      · have hge := Lib.index_ge r [c]
        obtain ⟨i, hi⟩ : ∃ i : Nat, Lib.index r [c] = i := ⟨(Lib.index r [c]).toNat, by omega⟩
        have hx' : Lib.index (d :: r) [c] = (i + 1 : Nat) := by
          rw [hx, hi, if_neg (by simp)]; rfl
        have e : (d :: r).drop (i + 1 + [c].length) = r.drop (i + [c].length) := by
          rw [show i + 1 + [c].length = (i + [c].length) + 1 by omega]; rfl
        rw [Lib.count_hit (by simp) hx', Lib.count_hit (by simp) hi, e, Nat.add_comm 1, Lib.splitK, if_neg (by rw [hx']; simp; omega), hx', Lib.splitK, if_neg (by rw [hi]; simp), hi]
        simp only [Int.toNat_natCast, onHead, Nat.add_zero, List.take_succ_cons]
        rw [show (d :: r).drop (i + 1 + [c].length) = r.drop (i + [c].length) from e]
        rfl
theorem spl_ne (c : UInt8) : ∀ (l cur : List UInt8), spl c cur l ≠ []
  | [], cur => by simp [spl]
  | d :: r, cur => by
    unfold spl
    split
    · simp
    · exact spl_ne c r _
/-- ahead of the first sign, and behind it -/
theorem cut_at (c : UInt8) (l : List UInt8) : (c ∉ l → Lib.cut l [c] = (l, [], false)) ∧ (∀ a b, l = a ++ c :: b → c ∉ a → Lib.cut l [c] = (a, b, true)) := by
  have hno : ∀ l : List UInt8, c ∉ l → Lib.index l [c] = -1 := by
    intro l
    induction l with
    | nil => intro _; rfl
    | cons d r ih =>
      intro h
      simp only [List.mem_cons, not_or] at h
      rw [index_miss c d r (fun e => h.1 e.symm), ih h.2]; rfl
  have hyes : ∀ a b : List UInt8, c ∉ a → Lib.index (a ++ c :: b) [c] = (a.length : Nat) := by
    intro a b
    induction a with
    | nil => intro _; exact index_hit c b
    | cons d a ih =>
      intro h
      simp only [List.mem_cons, not_or] at h
      rw [List.cons_append, index_miss c d _ (fun e => h.1 e.symm), ih h.2, if_neg (by simp)]
      rfl
  refine ⟨fun h => ?_, fun a b e h => ?_⟩
  · unfold Lib.cut
    rw [hno l h, if_neg (by decide)]
  · subst e
    unfold Lib.cut
    rw [hyes a b h, if_pos (by simp)]
    simp
end Go.Proofs.YtafbghlldlconaaGreatDoor.PT
