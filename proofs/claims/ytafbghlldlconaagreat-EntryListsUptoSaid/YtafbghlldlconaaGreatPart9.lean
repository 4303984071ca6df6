import Derived.Test.YtafbghlldlconaaGreatPart6
import Derived.Test.YtafbghlldlconaaGreatPart8
/-
  WHAT A FORM SUBMITS, as a plain function of the document: no program in sight.
-/
namespace Go.Proofs.YtafbghlldlconaaGreat
set_option linter.unusedVariables false
set_option linter.unusedSimpArgs false
open Go.RowKit PT

def nameS : ByteArray := ⟨#[110, 97, 109, 101]⟩
def dlS : ByteArray := ⟨#[100, 97, 116, 97, 108, 105, 115, 116]⟩
def octS : ByteArray := ⟨#[97, 112, 112, 108, 105, 99, 97, 116, 105, 111, 110, 47, 111, 99, 116, 101, 116, 45, 115, 116, 114, 101, 97, 109]⟩
def charS : ByteArray := ⟨#[95, 99, 104, 97, 114, 115, 101, 116, 95]⟩
def utfS : ByteArray := ⟨#[85, 84, 70, 45, 56]⟩
def noS : ByteArray := ⟨#[]⟩
def txOf (l : List Nd) (i : Int) : ByteArray := match l[i.toNat]? with
  | some x => x.tx
  | none => ⟨#[]⟩
theorem txOf_at {l : List Nd} {k : Nat} (hk : k < l.length) : txOf l k = l[k].tx := by
  unfold txOf; rw [Int.toNat_natCast, List.getElem?_eq_getElem hk]
/-- a text's, or that of an element's children -/
def txtF (l : List Nd) (i : Int) : ByteArray := (ksOf l i).foldl (fun s k => s ++ txOf l k) (txOf l i)
noncomputable def txtB (l : List Nd) (i : Int) : ByteArray := if hasB l i = true then txtF l i else ⟨#[]⟩
def blankS : Ct := ⟨⟨#[]⟩, false, false, false, false, false, false, false, ⟨#[]⟩, []⟩
def ctOf (cs : List Ct) (i : Int) : Ct := (cs[i.toNat]?).getD blankS
theorem ctOf_at {cs : List Ct} {k : Nat} (hk : k < cs.length) : ctOf cs k = cs[k] := by
  unfold ctOf; rw [Int.toNat_natCast, List.getElem?_eq_getElem hk]; rfl
def offA (l : List Nd) (o : Int) : Bool := disA l o || (decide (0 ≤ paOf l o) && (decide (kOf l (paOf l o) = 33) && disA l (paOf l o)))
noncomputable def offF (l : List Nd) (o : Int) : Bool := isF l o 32 && offA l o
def valO (l : List Nd) (o : Int) : ByteArray := match atO (atsOf l o) vAt with
  | some s => s
  | none => ⟨(collapse (txtF l o).data.toList).toArray⟩
noncomputable def textO (l : List Nd) (o : Int) : ByteArray := if isF l o 32 = true then valO l o else ⟨#[]⟩
noncomputable def selO (l : List Nd) (cs : List Ct) (o : Int) : Bool := (ctOf cs o).se && !offF l o
noncomputable def entO (l : List Nd) (nm : ByteArray) (o : Int) : Ent := ⟨nm, textO l o, false, ⟨#[]⟩, ⟨#[]⟩⟩
noncomputable def entsSel (l : List Nd) (cs : List Ct) (sel : Int) (nm : ByteArray) : List Ent := ((listF l sel).filter (selO l cs)).map (entO l nm)
def entFi (nm : ByteArray) (f : Ent) : Ent := ⟨nm, f.v, true, f.fn, f.t⟩
def entsFile (fi : List Ent) (nm : ByteArray) : List Ent := if fi.length = 0 then [⟨nm, ⟨#[]⟩, true, ⟨#[]⟩, octS⟩] else fi.map (entFi nm)
def dotS (nm : ByteArray) : ByteArray := if nm.size = 0 then nm else nm ++ ⟨#[46]⟩
def entsImg (nm : ByteArray) : List Ent := [⟨dotS nm ++ ⟨#[120]⟩, ⟨#[48]⟩, false, ⟨#[]⟩, ⟨#[]⟩⟩, ⟨dotS nm ++ ⟨#[121]⟩, ⟨#[48]⟩, false, ⟨#[]⟩, ⟨#[]⟩⟩]
def nmF (l : List Nd) (id : Int) : ByteArray := (atO (atsOf l id) nameS).getD ⟨#[]⟩
/-- does a control add anything? -/
noncomputable def addB (l : List Nd) (cs : List Ct) (id sub : Int) : Bool :=
  if 0 ≤ upB l id dlS ∨ disF l id = true then false
  else if kOf l id = 20 then decide (id = sub)
  else if (nmF l id).size = 0 ∨ kOf l id = 22 ∨ kOf l id = 21 ∨ kOf l id = 26 ∨ kOf l id = 27 then false
  else if kOf l id = 19 ∨ kOf l id = 25 then decide (id = sub)
  else if kOf l id = 16 ∨ kOf l id = 17 then (ctOf cs id).ch
  else true
def oneV (l : List Nd) (cs : List Ct) (id : Int) : ByteArray := if kOf l id = 1 ∧ nmF l id = charS then utfS else valF (kOf l id) (ctOf cs id) (atsOf l id)
/-- .. and what -/
noncomputable def ofF (l : List Nd) (cs : List Ct) (id : Int) : List Ent :=
  if kOf l id = 20 then entsImg (nmF l id)
  else if kOf l id = 23 then entsSel l cs id (nmF l id)
  else if kOf l id = 18 then entsFile (ctOf cs id).fi (nmF l id)
  else [⟨nmF l id, oneV l cs id, false, ⟨#[]⟩, ⟨#[]⟩⟩]
noncomputable def entF (l : List Nd) (cs : List Ct) (id sub : Int) : List Ent := if addB l cs id sub = true then ofF l cs id else []
noncomputable def subP (l : List Nd) (form : Int) (k : Int) : Bool := submB (kOf l k) && decide (formF l k = form)
noncomputable def fromF (l : List Nd) (cs : List Ct) (form sub k : Int) : List Ent := if subP l form k = true then entF l cs k sub else []
noncomputable def listE (l : List Nd) (cs : List Ct) (form sub : Int) : List Ent := (ord l (topF l form)).flatMap (fromF l cs form sub)
/-- what is answered: the entries, and the error -/
noncomputable def eOf (l : List Nd) (cs : List Ct) (form : Int) : Int := if okD l cs = false ∨ form < 0 ∨ (l.length : Int) ≤ form then 4 else if kOf l form = 30 then 0 else 3
noncomputable def lOf (l : List Nd) (cs : List Ct) (form sub : Int) : List Ent := if eOf l cs form = 0 then listE l cs form sub else []
end Go.Proofs.YtafbghlldlconaaGreat

/-
  WHAT A FORM SUBMITS: what it hangs on, what its names are, what a submitter adds: plain laws.
-/
namespace Go.Proofs.YtafbghlldlconaaGreat
set_option linter.unusedVariables false
set_option linter.unusedSimpArgs false
open Go.RowKit PT

theorem addB_not {l : List Nd} {cs : List Ct} {id sub : Int} (h : addB l cs id sub = true) : disF l id = false ∧ (kOf l id = 20 → id = sub) ∧ (kOf l id ≠ 20 → (nmF l id).size ≠ 0) := by
  unfold addB at h
  split at h
  · cases h
  · rename_i h0
    refine ⟨by
      cases e : disF l id
      · rfl
      · exact absurd (.inr e) h0, ?_⟩
    split at h
    · rename_i h1
      exact ⟨fun _ => of_decide_eq_true h, fun e => absurd h1 e⟩
    · rename_i h1
      split at h
      · cases h
      · rename_i h2
        exact ⟨fun e => absurd e h1, fun _ e => h2 (.inl e)⟩
/-- what hangs on states -/
theorem entF_same {l : List Nd} {cs cs' : List Ct} {id sub : Int} (h1 : ctOf cs' id = ctOf cs id) (h2 : ∀ o, kOf l o = 32 → ctOf cs' o = ctOf cs o) (hm : ∀ o ∈ listF l id, kOf l o = 32) : entF l cs' id sub = entF l cs id sub := by
  have ha : addB l cs' id sub = addB l cs id sub := by unfold addB; rw [h1]
  have hs : entsSel l cs' id (nmF l id) = entsSel l cs id (nmF l id) := by
    unfold entsSel
    rw [filter_same (p := selO l cs') (q := selO l cs) (fun o ho => by unfold selO; rw [h2 o (hm o ho)])]
  have ho : ofF l cs' id = ofF l cs id := by
    unfold ofF oneV
    rw [h1, hs]
  unfold entF
  rw [ha, ho]
theorem listF_mem {l : List Nd} {id o : Int} (ho : o ∈ listF l id) : 0 ≤ o ∧ o < l.length ∧ kOf l o = 32 := by
  unfold listF at ho
  split at ho
  · rename_i h
    have hc := (isF_30 (by omega)).1 h
    obtain ⟨i0, i1⟩ := kindF_pos (l := l) (k := id) (by omega)
    exact optsOf_mem ((rightB_iff l).1 hc.1) i0 i1 ho
  · cases ho
theorem listE_same {l : List Nd} {cs cs' : List Ct} {form sub : Int} (h : ∀ k : Int, (formF l k = form ∨ kOf l k = 32) → ctOf cs' k = ctOf cs k) : listE l cs' form sub = listE l cs form sub := by
  unfold listE
  refine flatMap_eq (fun k _ => ?_)
  unfold fromF
  split
  · rename_i hs
    unfold subP at hs
    rw [Bool.and_eq_true] at hs
    exact entF_same (h k (.inl (of_decide_eq_true hs.2))) (fun o ho => h o (.inr ho)) (fun o ho => (listF_mem ho).2.2)
  · rfl
theorem okD_iff {l : List Nd} {cs : List Ct} : okD l cs = true ↔ RightP l ∧ l.length = cs.length := by
  unfold okD
  rw [Bool.and_eq_true, rightB_iff, decide_eq_true_iff]
theorem eOf_ok {l : List Nd} {cs : List Ct} {form : Int} (h : eOf l cs form = 0) : RightP l ∧ l.length = cs.length ∧ 0 ≤ form ∧ form < l.length ∧ kOf l form = 30 := by
  unfold eOf at h
  split at h
  · omega
  · rename_i h0
    split at h
    · rename_i h1
      have ho : okD l cs = true := by
        cases e : okD l cs
        · exact absurd (.inl e) h0
        · rfl
      obtain ⟨a, b⟩ := okD_iff.1 ho
      refine ⟨a, b, ?_, ?_, h1⟩
      · have : ¬ form < 0 := fun e => h0 (.inr (.inl e))
        omega
      · have : ¬ (l.length : Int) ≤ form := fun e => h0 (.inr (.inr e))
        omega
    · omega
/-- the states of whatever belongs to others are struck -/
noncomputable def othF (l : List Nd) (cs : List Ct) (form : Int) (c : Ct) : List Ct := cs.mapIdx fun i x => if formF l i ≠ form ∧ kOf l i ≠ 32 then c else x
theorem othF_len (l : List Nd) (cs : List Ct) (form : Int) (c : Ct) : (othF l cs form c).length = cs.length := by unfold othF; rw [List.length_mapIdx]
theorem kOf_neg {l : List Nd} {k : Int} (h : k < 0) : kOf l k = kOf l 0 := by
  unfold kOf
  rw [Int.toNat_of_nonpos (by omega)]
  rfl
theorem othF_at {l : List Nd} {cs : List Ct} {form : Int} {c : Ct} {k : Int} (h0 : 0 ≤ k) (h : formF l k = form ∨ kOf l k = 32) : ctOf (othF l cs form c) k = ctOf cs k := by
  obtain ⟨q, rfl⟩ := Int.eq_ofNat_of_zero_le h0
  unfold ctOf othF
  rw [Int.toNat_natCast, List.getElem?_mapIdx]
  cases cs[q]? with
  | none => rfl
  | some x =>
    rw [Option.map_some]
    rw [if_neg (fun e => by
      rcases h with h | h
      · exact e.1 h
      · exact e.2 h)]
theorem eOf_oth {l : List Nd} {cs : List Ct} {form f : Int} {c : Ct} : eOf l (othF l cs form c) f = eOf l cs f := by
  unfold eOf okD
  rw [othF_len]
theorem lOf_oth {l : List Nd} {cs : List Ct} {form sub : Int} {c : Ct} : lOf l (othF l cs form c) form sub = lOf l cs form sub := by
  unfold lOf
  rw [eOf_oth]
  split
  · rename_i h
    obtain ⟨hR, _, f0, f1, _⟩ := eOf_ok h
    obtain ⟨t0, t1⟩ := topF_range hR f0 f1
    unfold listE
    refine flatMap_eq (fun k hk => ?_)
    obtain ⟨k0, k1, _⟩ := ord_mem hR t0 t1 hk
    unfold fromF
    split
    · rename_i hs
      unfold subP at hs
      rw [Bool.and_eq_true] at hs
      refine entF_same (othF_at k0 (.inl (of_decide_eq_true hs.2))) (fun o ho => ?_) (fun o ho => (listF_mem ho).2.2)
      by_cases o0 : 0 ≤ o
      · exact othF_at o0 (.inr ho)
      · unfold ctOf
        rw [Int.toNat_of_nonpos (by omega)]
        have := othF_at (l := l) (cs := cs) (form := form) (c := c) (k := 0) (by omega) (.inr (by rw [kOf_neg (by omega)] at ho; exact ho))
        unfold ctOf at this
        exact this
    · rfl
  · rfl
/-- where an entry's name comes from -/
def fitN (l : List Nd) (sub : Int) (i : Nat) (n : ByteArray) : Bool := (decide (kOf l i = 20) && (decide (n.size ≠ 0) && decide ((i : Int) = sub))) || (decide (nmF l i = n) && decide ((nmF l i).size ≠ 0))
noncomputable def hasN (l : List Nd) (form sub : Int) (i : Nat) (n : ByteArray) : Bool := submB (kOf l i) && (decide (formF l i = form) && (!disF l i && fitN l sub i n))
theorem ofF_name {l : List Nd} {cs : List Ct} {id : Int} (h : kOf l id ≠ 20) {x : Ent} (hx : x ∈ ofF l cs id) : x.n = nmF l id := by
  unfold ofF at hx
  rw [if_neg h] at hx
  split at hx
  · unfold entsSel at hx
    obtain ⟨o, _, rfl⟩ := List.mem_map.1 hx
    rfl
  · split at hx
    · unfold entsFile at hx
      split at hx
      · rw [List.mem_singleton] at hx
        rw [hx]
      · obtain ⟨o, _, rfl⟩ := List.mem_map.1 hx
        rfl
    · rw [List.mem_singleton] at hx
      rw [hx]
theorem lOf_names {l : List Nd} {cs : List Ct} {form sub : Int} {x : Ent} (hx : x ∈ lOf l cs form sub) : ∃ i, i < l.length ∧ hasN l form sub i x.n = true := by
  unfold lOf at hx
  split at hx
  case isFalse => cases hx
  rename_i he
  obtain ⟨hR, _, f0, f1, _⟩ := eOf_ok he
  obtain ⟨t0, t1⟩ := topF_range hR f0 f1
  unfold listE at hx
  obtain ⟨k, hk, hx⟩ := List.mem_flatMap.1 hx
  obtain ⟨k0, k1, _⟩ := ord_mem hR t0 t1 hk
  unfold fromF at hx
  split at hx
  case isFalse => cases hx
  rename_i hs
  unfold subP at hs
  rw [Bool.and_eq_true] at hs
  unfold entF at hx
  split at hx
  case isFalse => cases hx
  rename_i ha
  obtain ⟨hd, h20, hne⟩ := addB_not ha
  obtain ⟨q, rfl⟩ := Int.eq_ofNat_of_zero_le k0
  refine ⟨q, by omega, ?_⟩
  unfold hasN
  rw [hs.1, hs.2, hd, Bool.true_and, Bool.true_and, Bool.not_false, Bool.true_and]
  unfold fitN
  by_cases hi : kOf l (q : Nat) = 20
  · have hsz : x.n.size ≠ 0 := by
      unfold ofF at hx
      rw [if_pos hi] at hx
      unfold entsImg at hx
      simp only [List.mem_cons, List.not_mem_nil, or_false] at hx
      rcases hx with rfl | rfl <;> simp [ByteArray.size_append]
      all_goals exact fun _ => by decide
    rw [decide_eq_true hi, decide_eq_true hsz, decide_eq_true (h20 hi)]
    rfl
  · rw [decide_eq_true (ofF_name hi hx).symm, decide_eq_true (hne hi), Bool.true_and, Bool.or_true]
/-- what a submitter adds -/
theorem entF_other {l : List Nd} {cs : List Ct} {id sub : Int} (h0 : 0 ≤ id) (h : id ≠ sub) : entF l cs id sub = entF l cs id (-1) := by
  have ha : addB l cs id sub = addB l cs id (-1) := by
    unfold addB
    rw [decide_eq_false h, decide_eq_false (show id ≠ -1 by omega)]
  unfold entF
  rw [ha]
theorem entF_self {l : List Nd} {cs : List Ct} {sub : Int} (h0 : 0 ≤ sub) : entF l cs sub sub = entF l cs sub (-1) ∨ (entF l cs sub (-1) = [] ∧ (entF l cs sub sub).length ≤ 2) := by
  have hne : sub ≠ -1 := by omega
  by_cases h20 : kOf l sub = 20
  · right
    have hf : addB l cs sub (-1) = false := by
      cases e : addB l cs sub (-1)
      · rfl
      · exact absurd ((addB_not e).2.1 h20) hne
    refine ⟨by unfold entF; rw [hf]; rfl, ?_⟩
    unfold entF
    split
    · unfold ofF
      rw [if_pos h20]
      exact Nat.le_refl _
    · exact Nat.zero_le _
  · by_cases h19 : kOf l sub = 19 ∨ kOf l sub = 25
    · right
      have hf : addB l cs sub (-1) = false := by
        unfold addB
        rw [if_neg h20, if_pos h19, decide_eq_false hne]
        split
        · rfl
        · split <;> rfl
      refine ⟨by unfold entF; rw [hf]; rfl, ?_⟩
      unfold entF
      split
      · unfold ofF
        rw [if_neg h20, if_neg (by omega), if_neg (by omega)]
        exact Nat.le_succ _
      · exact Nat.zero_le _
    · left
      have ha : addB l cs sub sub = addB l cs sub (-1) := by
        unfold addB
        rw [if_neg h20, if_neg h20, if_neg h19, if_neg h19]
      unfold entF
      rw [ha]
theorem flat_sub {l : List Nd} {cs : List Ct} {form sub : Int} : ∀ t : List Int, t.Nodup → (∀ k ∈ t, 0 ≤ k) → List.Sublist (t.flatMap (fromF l cs form (-1))) (t.flatMap (fromF l cs form sub)) ∧ (t.flatMap (fromF l cs form sub)).length ≤ (t.flatMap (fromF l cs form (-1))).length + (if sub ∈ t then 2 else 0)
  | [], _, _ => ⟨List.Sublist.refl _, Nat.zero_le _⟩
  | k :: t, hn, h0 => by
    obtain ⟨hk, ht⟩ := List.nodup_cons.1 hn
    obtain ⟨ih1, ih2⟩ := flat_sub (l := l) (cs := cs) (form := form) (sub := sub) t ht (fun y hy => h0 y (List.mem_cons_of_mem _ hy))
    have k0 := h0 k List.mem_cons_self
    rw [List.flatMap_cons, List.flatMap_cons, List.length_append, List.length_append]
    by_cases e : k = sub
    · subst e
      rw [if_neg hk] at ih2
      rw [if_pos List.mem_cons_self]
      have hcase : fromF l cs form k k = fromF l cs form (-1) k ∨ (fromF l cs form (-1) k = [] ∧ (fromF l cs form k k).length ≤ 2) := by
        unfold fromF
        split
        · exact entF_self k0
        · exact .inl rfl
      rcases hcase with e | ⟨e1, e2⟩
      · rw [e]
        exact ⟨(List.Sublist.refl _).append ih1, by omega⟩
      · rw [e1, List.nil_append]
        exact ⟨ih1.trans (List.sublist_append_right _ _), by rw [List.length_nil]; omega⟩
    · have e1 : fromF l cs form sub k = fromF l cs form (-1) k := by
        unfold fromF
        split
        · exact entF_other k0 e
        · rfl
      rw [e1]
      refine ⟨(List.Sublist.refl _).append ih1, ?_⟩
      have : (if sub ∈ k :: t then 2 else 0) = (if sub ∈ t then 2 else 0) := by
        by_cases hs : sub ∈ t
        · rw [if_pos hs, if_pos (List.mem_cons_of_mem _ hs)]
        · rw [if_neg hs, if_neg (fun hh => by
            rcases List.mem_cons.1 hh with hh | hh
            · exact e hh.symm
            · exact hs hh)]
      rw [this]
      omega
theorem lOf_sub (l : List Nd) (cs : List Ct) (form sub : Int) : List.Sublist (lOf l cs form (-1)) (lOf l cs form sub) ∧ (lOf l cs form sub).length ≤ (lOf l cs form (-1)).length + 2 := by
  unfold lOf
  split
  · rename_i he
    obtain ⟨hR, _, f0, f1, _⟩ := eOf_ok he
    obtain ⟨t0, t1⟩ := topF_range hR f0 f1
    obtain ⟨a, b⟩ := flat_sub (l := l) (cs := cs) (form := form) (sub := sub) _ (nodup_ordF hR (l.length + 2) _ t0 t1) (fun k hk => (ord_mem hR t0 t1 hk).1)
    refine ⟨a, Nat.le_trans b (Nat.add_le_add_left ?_ _)⟩
    split <;> omega
  · exact ⟨List.Sublist.refl _, Nat.zero_le _⟩
/-- one list is looked for in another, greedily -/
noncomputable def entEq (x y : Ent) : Bool := @decide (x = y) (Classical.propDecidable _)
theorem entEq_iff (x y : Ent) : entEq x y = true ↔ x = y := by
  unfold entEq
  exact @decide_eq_true_iff (x = y) (Classical.propDecidable _)
noncomputable def grd (b : List Ent) : List Ent → List Ent
  | [] => b
  | x :: a => match b with
    | [] => grd [] a
    | y :: b' => if entEq x y = true then grd b' a else grd (y :: b') a
theorem grd_nil : ∀ a : List Ent, grd [] a = []
  | [] => rfl
  | x :: a => grd_nil a
theorem grd_sub : ∀ (a b : List Ent), List.Sublist b a → grd b a = []
  | [], b, h => by rw [List.sublist_nil.1 h]; rfl
  | x :: a, [], _ => grd_nil _
  | x :: a, y :: b, h => by
    show (if entEq x y = true then grd b a else grd (y :: b) a) = []
    split
    · refine grd_sub a b ?_
      cases h with
      | cons _ h => exact (List.sublist_cons_self y b).trans h
      | cons_cons _ h => exact h
    · rename_i hne
      refine grd_sub a (y :: b) ?_
      cases h with
      | cons _ h => exact h
      | cons_cons _ h => exact absurd ((entEq_iff _ _).2 rfl) hne
end Go.Proofs.YtafbghlldlconaaGreat

/-
  The laws of chapter 22: the example, in plain lists.
-/
namespace Go.Proofs.YtafbghlldlconaaGreat
set_option linter.unusedVariables false
set_option linter.unusedSimpArgs false
open Go.RowKit PT

def aA : List At := [⟨⟨#[110, 97, 109, 101]⟩, ⟨#[97]⟩⟩]
def aB : List At := [⟨⟨#[110, 97, 109, 101]⟩, ⟨#[98]⟩⟩]
def e0 : Nd := ⟨⟨#[104, 116, 109, 108]⟩, ⟨#[]⟩, [], -1, [1]⟩
def e1 : Nd := ⟨⟨#[102, 111, 114, 109]⟩, ⟨#[]⟩, [], 0, [2, 3]⟩
def e2 : Nd := ⟨⟨#[105, 110, 112, 117, 116]⟩, ⟨#[]⟩, aA, 1, []⟩
def e3 : Nd := ⟨⟨#[98, 117, 116, 116, 111, 110]⟩, ⟨#[]⟩, aB, 1, []⟩
def ex22 : List Nd := [e0, e1, e2, e3]
def one1 : Ct := ⟨⟨#[49]⟩, false, false, false, false, false, false, false, ⟨#[]⟩, []⟩
def ex22c : List Ct := [blankS, blankS, one1, blankS]
theorem ex22_at {P : Nat → Nd → Prop} (h0 : P 0 e0) (h1 : P 1 e1) (h2 : P 2 e2) (h3 : P 3 e3) : ∀ (i : Nat) x, ex22[i]? = some x → P i x
  | 0, _, h => by cases h; exact h0
  | 1, _, h => by cases h; exact h1
  | 2, _, h => by cases h; exact h2
  | 3, _, h => by cases h; exact h3
  | n + 4, _, h => by cases h
theorem ex22_right : RightP ex22 where
  pos := by decide
  max := by decide
  top := fun x h => by cases h; exact ⟨by decide, rfl⟩
  node := ex22_at ⟨by decide, by decide, by decide⟩ ⟨by decide, by decide, by decide⟩ ⟨by decide, by decide, by decide⟩ ⟨by decide, by decide, by decide⟩
  kids := ex22_at (fun c hc => by simp [e0] at hc; subst hc; decide) (fun c hc => by simp [e1] at hc; rcases hc with rfl | rfl <;> decide) (fun c hc => by simp [e2] at hc) (fun c hc => by simp [e3] at hc)
  once := ex22_at (fun h => by revert h; decide) (fun _ => by decide) (fun _ => by decide) (fun _ => by decide)
  climb := fun i hi => by
    match i, hi with
    | 0, _ => decide
    | 1, _ => decide
    | 2, _ => decide
    | 3, _ => decide
theorem ex22_rightB : rightB ex22 = true := rightB_yes ex22_right
theorem ex22_fits : ∀ x ∈ ex22, Fits x := by
  intro x hx
  simp only [ex22, List.mem_cons, List.not_mem_nil, or_false] at hx
  rcases hx with rfl | rfl | rfl | rfl
  · exact ⟨by decide, by decide, by decide, by decide, by simp [e0]⟩
  · exact ⟨by decide, by decide, by decide, by decide, by simp [e1]⟩
  · exact ⟨by decide, by decide, by decide, by decide, by decide⟩
  · exact ⟨by decide, by decide, by decide, by decide, by decide⟩
theorem ex22_has (k : Nat) (hk : k < 4) : hasB ex22 (k : Int) = true := hasB_yes ex22_right (by omega) (by show (k : Int) < 4; omega)
theorem ex22_kinds : kOf ex22 0 = 0 ∧ kOf ex22 1 = 30 ∧ kOf ex22 2 = 2 ∧ kOf ex22 3 = 25 := by decide +kernel
theorem ex22_form (k : Nat) (hk : k = 2 ∨ k = 3) : formF ex22 k = 1 := by
  unfold formF attF upB
  rw [ex22_has k (by omega)]
  rcases hk with rfl | rfl <;> decide +kernel
theorem ex22_up (k : Nat) (hk : k = 2 ∨ k = 3) : upB ex22 k dlS = -1 := by
  unfold upB
  rw [ex22_has k (by omega)]
  rcases hk with rfl | rfl <;> decide +kernel
theorem ex22_dis (k : Nat) (hk : k = 2 ∨ k = 3) : disF ex22 k = false := by
  unfold disF
  rw [ex22_rightB]
  rcases hk with rfl | rfl <;> decide +kernel
theorem ex22_ord : ord ex22 (topF ex22 1) = [0, 1, 2, 3] := by decide +kernel
theorem ex22_ok : okD ex22 ex22c = true := by
  unfold okD
  rw [ex22_rightB]
  rfl
theorem ex22_eOf : eOf ex22 ex22c 1 = 0 := by
  unfold eOf
  rw [ex22_ok, ex22_kinds.2.1]
  decide
def out1 : Ent := ⟨⟨#[97]⟩, ⟨#[49]⟩, false, ⟨#[]⟩, ⟨#[]⟩⟩
def out2 : Ent := ⟨⟨#[98]⟩, ⟨#[]⟩, false, ⟨#[]⟩, ⟨#[]⟩⟩
theorem ex22_sub0 : subP ex22 1 0 = false := by unfold subP; rw [ex22_kinds.1]; rfl
theorem ex22_sub1 : subP ex22 1 1 = false := by unfold subP; rw [ex22_kinds.2.1]; rfl
theorem ex22_sub2 : subP ex22 1 2 = true := by unfold subP; rw [ex22_kinds.2.2.1, show formF ex22 2 = 1 from ex22_form 2 (.inl rfl)]; rfl
theorem ex22_sub3 : subP ex22 1 3 = true := by unfold subP; rw [ex22_kinds.2.2.2, show formF ex22 3 = 1 from ex22_form 3 (.inr rfl)]; rfl
theorem ex22_nm : nmF ex22 2 = ⟨#[97]⟩ ∧ nmF ex22 3 = ⟨#[98]⟩ := by decide +kernel
theorem ex22_add2 (sub : Int) : addB ex22 ex22c 2 sub = true := by
  unfold addB
  rw [show upB ex22 2 dlS = -1 from ex22_up 2 (.inl rfl), show disF ex22 2 = false from ex22_dis 2 (.inl rfl), ex22_kinds.2.2.1, ex22_nm.1]
  rfl
theorem ex22_add3 (sub : Int) : addB ex22 ex22c 3 sub = decide (3 = sub) := by
  unfold addB
  rw [show upB ex22 3 dlS = -1 from ex22_up 3 (.inr rfl), show disF ex22 3 = false from ex22_dis 3 (.inr rfl), ex22_kinds.2.2.2, ex22_nm.2]
  rfl
theorem ex22_of2 : ofF ex22 ex22c 2 = [out1] := by
  unfold ofF
  rw [ex22_kinds.2.2.1, if_neg (by decide), if_neg (by decide), if_neg (by decide)]
  unfold oneV
  rw [ex22_kinds.2.2.1, ex22_nm.1, if_neg (by decide)]
  exact congrArg (fun s => [(⟨⟨#[97]⟩, s, false, ⟨#[]⟩, ⟨#[]⟩⟩ : Ent)]) (show valF 2 (ctOf ex22c 2) (atsOf ex22 2) = ⟨#[49]⟩ by decide +kernel)
theorem ex22_of3 : ofF ex22 ex22c 3 = [out2] := by
  unfold ofF
  rw [ex22_kinds.2.2.2, if_neg (by decide), if_neg (by decide), if_neg (by decide)]
  unfold oneV
  rw [ex22_kinds.2.2.2, ex22_nm.2, if_neg (by decide)]
  exact congrArg (fun s => [(⟨⟨#[98]⟩, s, false, ⟨#[]⟩, ⟨#[]⟩⟩ : Ent)]) (show valF 25 (ctOf ex22c 3) (atsOf ex22 3) = ⟨#[]⟩ by decide +kernel)
theorem ex22_from (sub : Int) : lOf ex22 ex22c 1 sub = [out1] ++ if (3 : Int) = sub then [out2] else [] := by
  unfold lOf listE
  rw [if_pos ex22_eOf, ex22_ord]
  simp only [List.flatMap_cons, List.flatMap_nil, List.append_nil]
  unfold fromF entF
  rw [ex22_sub0, ex22_sub1, ex22_sub2, ex22_sub3, ex22_add2, ex22_add3, ex22_of2, ex22_of3]
  by_cases h : (3 : Int) = sub
  · rw [decide_eq_true h, if_pos h]; rfl
  · rw [decide_eq_false h, if_neg h]; rfl
theorem ex22_l3 : lOf ex22 ex22c 1 3 = [out1, out2] := by rw [ex22_from, if_pos rfl]; rfl
theorem ex22_l1 : lOf ex22 ex22c 1 (-1) = [out1] := by rw [ex22_from, if_neg (by decide)]; rfl
end Go.Proofs.YtafbghlldlconaaGreat
